/- Texts of this claim, joined: EG, D29. -/
import Derived.Test.YtajjgfiojlagmaaGreatDoorMO28
import Derived.Test.YtajjgfiojlagmaaGreatDoorMO34
import Derived.Test.YtajjgfiojlagmaaGreatDoorMO33
import Derived.Test.YtajjgfiojlagmaaGreatDoorMO19
import Derived.Deep.DeepCutAuto

/- Files in memory, given and Same in a region that draws its order. -/
namespace Go.Proofs.YtajjgfiojlagmaaGreatDoor
open Go.RowKit

theorem RowV.moved {B B' : Blocks} {E : TypeId} {size : Nat} {v : Value} {n : Nat} {xs : List Value} (h : RowV B E size v n xs) (hb : ∀ g ∈ rowBlk v, ∀ o, B g = some o → B' g = some o) : RowV B' E size v n xs := by
  cases h with
  | nil => exact .nil
  | @row g n cap xs cur h => exact .row (h.of (hb g (by simp [rowBlk]) _ h.blk))
theorem rowV_atx {x : World} {E : TypeId} {size : Nat} {p : Option Addr} {n m c : Nat} {xs : List Value} (h : RowV (inW x) E size (.slice p m c) n xs) : AtN x.heap.size x p xs := by
  obtain ⟨a, c', e, _, hA⟩ := rowV_at2 h
  cases e
  exact hA
theorem rows_cls {w : World} {vL : Value} {L : List (List Int)} {cl : List Value} (hL : RowV (inW w) 25 1 vL L.length cl) (hC : ∀ (i : Nat) (u : Value) (xs : List Int), cl[i]? = some u → L[i]? = some xs → RowV (inW w) 3 1 u xs.length (ints xs)) : ∃ aL cL, vL = .slice aL L.length cL ∧ ClsAt w.heap.size w aL L := by
  obtain ⟨a, c, e, _, hA⟩ := rowV_at2 hL
  refine ⟨a, c, e, fun i xs hi => ?_⟩
  have hlen := hL.length
  have hil : i < cl.length := by
    have := (List.getElem?_eq_some_iff.1 hi).1
    omega
  obtain ⟨b, o, hb, ea, hc⟩ := hA i _ (List.getElem?_eq_getElem hil)
  have hr := hC i _ xs (List.getElem?_eq_getElem hil) hi
  obtain ⟨p, c2, e2, _, hA2⟩ := rowV_at2 hr
  rw [e2] at hc
  exact ⟨b, o, p, c2, hb, ea, hc, hA2⟩
theorem DR.file {TW : TypeId} {w : World} {b : Nat} {st : DS} {v : DV} (h : DR TW w b st v) : ∃ aL cL aS cS aW cW, v.L = .slice aL st.L.length cL ∧ v.S = .slice aS st.sh.length cS ∧ v.W = .slice aW st.ws.length cW ∧ FileAt w.heap.size w aL aS aW st.L st.sh st.ws := by
  obtain ⟨cl, hL, hC⟩ := h.rL
  obtain ⟨aL, cL, e1, h1⟩ := rows_cls hL (fun i u xs a b => (hC i u xs a b).1)
  obtain ⟨aS, cS, e2, _, h2⟩ := rowV_at2 h.rS
  obtain ⟨aW, cW, e3, _, h3⟩ := rowV_at2 h.rW
  exact ⟨aL, cL, aS, cS, aW, cW, e1, e2, e3, h1, h2, h3⟩
def RGiven (n : Int) (vL vS : Value) (ws : List (Int × List UInt8)) (v : Value) (Bn : Blocks) : Prop := ∃ p c, v = .agg #[.int .i64 n, vL, vS, .slice p ws.length c] ∧ RowV Bn 55 2 (.slice p ws.length c) ws.length (wts ws)
theorem given_call (n : Int) (vL vS : Value) (hvL : ∃ p m c, vL = .slice p m c) (hvS : ∃ p m c, vS = .slice p m c) (ws : List (Int × List UInt8)) (hws : ws.length ≤ 10000000) {w : World} (a : Option Addr) (c : Nat) (hA : AtN w.heap.size w a (wts ws)) (x : World) (hx : Behind w [] x) :
    Calls Tryz.prog 10 #[.agg #[.int .i64 n, vL, vS, .slice a ws.length c]] x fun e w' => ∃ v, e = .returned v ∧ Behind x [] w' ∧ RGiven n vL vS ws v (newB [] x w') := by
  refine (gGiven n vL vS hvL hvS ws hws x a c ((hA.below hx.below (Nat.le_refl _)).mono hx.size)).mono ?_
  rintro e w' ⟨vW, rfl, ⟨hr, hge⟩, hB⟩
  obtain ⟨p, c', e2⟩ := hr.slice
  subst e2
  exact ⟨_, rfl, behind_of_below hB, p, c', rfl, hr.moved (fun g hg o ho => by rw [newB_in (.inr (hge g hg))]; exact ho)⟩
theorem true_call {f : FuncId} {vs : Array Value} {x : World} (h : Calls Tryz.prog f vs x fun e w' => e = .returned (.bool true) ∧ Below x.heap.size x w') : Calls Tryz.prog f vs x fun e w' => ∃ v, e = .returned v ∧ Behind x [] w' ∧ v = .bool true :=
  h.mono fun e w' ⟨he, hB⟩ => ⟨_, he, behind_of_below hB, rfl⟩
theorem same_call (n : Int) (L : List (List Int)) (sh : List Int) (ws : List (Int × List UInt8)) (aL aS bL bS bW : Option Addr) (cL cS dL dS dW : Nat) (hl : L.length ≤ 100000000) (hll : ∀ xs ∈ L, xs.length ≤ 100000000) (hsl : sh.length ≤ 100000000) (hwl : ws.length ≤ 100000000) {w : World} (hA : ClsAt w.heap.size w aL L ∧ AtN w.heap.size w aS (ints sh)) (hB : FileAt w.heap.size w bL bS bW L sh ws)
    {Bn : Blocks} {p : Option Addr} {c : Nat} (hp : RowV Bn 55 2 (.slice p ws.length c) ws.length (wts ws)) (x : World) (hx : Behind w [] x) (hBx : Has Bn x) :
    Calls Tryz.prog 12 #[.agg #[.int .i64 n, .slice aL L.length cL, .slice aS sh.length cS, .slice p ws.length c], .agg #[.int .i64 n, .slice bL L.length dL, .slice bS sh.length dS, .slice bW ws.length dW]] x fun e w' => ∃ v, e = .returned v ∧ Behind x [] w' ∧ v = .bool true :=
  true_call (xSame n L sh ws aL aS p bL bS bW cL cS c dL dS dW hl hll hsl hwl x ⟨(hA.1.below hx.below (Nat.le_refl _)).mono hx.size, (hA.2.below hx.below (Nat.le_refl _)).mono hx.size, rowV_atx (hp.of_has hBx)⟩ ((hB.below hx.below (Nat.le_refl _)).mono hx.size))
end Go.Proofs.YtajjgfiojlagmaaGreatDoor

/- The reference's Parse. -/
namespace Go.Proofs.YtajjgfiojlagmaaGreatDoor
open Go.RowKit

def OwnPost (w : World) (xs : List (List UInt8)) (e : Ending) (w' : World) : Prop := ∃ v, e = .returned v ∧ OwnS w' w.heap.size v xs ∧ Below w.heap.size w w'
set_option maxHeartbeats 1600000 in
set_option maxRecDepth 100000 in
theorem xWordsO (l : List UInt8) (hl : l.length ≤ 1100000) (w : World) : Calls Tryz.prog 27 #[.string ⟨l.toArray⟩] w (OwnPost w (wordsD l)) := by
  obtain ⟨i0, ii, iz0, iz1, iz2⟩ := info_parts Tryz.infoStr
  have II := Lib.hid ii
  have IZ0 := Lib.hid iz0
  have IZ1 := Lib.hid iz1
  have IZ2 := Lib.hid iz2
  clear ii iz0 iz1 iz2
  obtain ⟨Post, hPost⟩ : ∃ P : Ending → World → Prop, P = OwnPost w (wordsD l) := ⟨_, rfl⟩
  rw [← hPost]
  have HP := Lib.hid hPost
  obtain ⟨s, hs⟩ : ∃ s : ByteArray, s = ⟨l.toArray⟩ := ⟨_, rfl⟩
  obtain ⟨hsz, hG, -, -⟩ := ba_facts hs
  have HSZ := Lib.hid hsz
  have HG := Lib.hid hG
  have HX := Lib.hid (ext_list hs)
  rw [← hs]
  have hsl : s.size ≤ 1100000 := by omega
  clear hs hPost hsz hG
  go_enter Tryz.func27, Tryz.ntmps27
  go_wp2_with fail
  go_loopw [5, 4, 3] (fun t5 t4 t3 wr => ∃ (j fr : Nat) (o : List (List UInt8)), j ≤ s.size + 1 ∧ t5 = .int .i64 j ∧ t4 = .int .i64 fr ∧ fr ≤ j ∧ o.length ≤ j ∧ Hid (j ≤ s.size → (pcSt 32 l j).2 = (l.take j).drop fr ∧ o = ((pcSt 32 l j).1.filter fun w => decide (w ≠ []))) ∧ Hid (j = s.size + 1 → o = wordsD l) ∧ Hid (OwnS wr w.heap.size t3 o) ∧ Hid (Below w.heap.size w wr)) (fun t5 _ _ _ => s.size + 1 - (intOf t5).toNat)
  case atStart => exact ⟨0, 0, [], by omega, rfl, rfl, Nat.le_refl _, Nat.le_refl _, fun _ => ⟨rfl, rfl⟩, fun h => by omega, ⟨.nil, by simp [rowBlk]⟩, Below.refl _ _⟩
  case round =>
    obtain ⟨j, fr, o, hj, rfl, rfl, hfr, ho, HI, HF, HO, HB⟩ := hrel
    by_cases hlt : j ≤ s.size
    · have hdd : decide (j ≤ s.size) = true := decide_eq_true hlt
      have hdd2 : decide ((j : Int) ≤ (s.size : Int)) = true := decide_eq_true (by omega)
      obtain ⟨hI1, hI2⟩ := HI.out hlt
      have HI1 := Lib.hid hI1
      have HI2 := Lib.hid hI2
      have HEX := Lib.hid (HX.out fr j hfr hlt)
      clear hI1 hI2
      by_cases hend : j = s.size
      · obtain rfl : j = s.size := hend
        have he : ((s.size : Int) == (s.size : Int)) = true := by simp
        by_cases hfj : fr < s.size
        · have hd : decide (fr < s.size) = true := decide_eq_true hfj
          have hd2 : decide ((fr : Int) < (s.size : Int)) = true := decide_eq_true (by omega)
          have hne : (l.take s.size).drop fr ≠ [] := fun e => by
            have := congrArg List.length e
            rw [List.length_drop, List.length_take, ← HSZ.out, List.length_nil] at this
            omega
          have HNE := Lib.hid hne
          clear hne
          go_wp2_with (at_builtin; refine wpList_append_row _ rfl _ _ 60 rfl 9 i0 (.string ⟨#[]⟩) 1 16 Tryz.underlying60 II.out IZ0.out IZ1.out IZ2.out rfl _ _ _ rfl (HO.out.row.keep (behind_of_below ((Below.refl _ _).alloc (Nat.le_refl _) _)) (by simp)) wr.heap.size 1 1 [.string (s.extract fr s.size)] 9 rfl (heap_alloc_new wr _) rfl (by intro u hu; simp at hu; subst hu; rfl) (by omega) (by unfold maxLen; omega) (by omega) ?_)
          intro v9 w9 hr9 hB9 hn9
          have h09 : Behind wr (rowBlk u3) w9 := ((behind_of_below ((Below.refl _ _).alloc (Nat.le_refl _) _)).mono (by simp)).trans hB9 (fun k hk => .inl hk)
          rw [HEX.out] at hr9
          have hO9 := HO.out.grown HB.out.size hr9 (fun g hg => (hn9 g hg).imp id (fun h => by first | omega | (simp at h; omega)))
          have HO9 := Lib.hid hO9
          have HB9 := Lib.hid (HB.out.trans (h09.below_of HO.out.ge HB.out.size))
          clear hO9 hr9 hB9 hn9 h09 HO HB
          go_wp2_with fail
          go_roundw
          case rel => exact ⟨s.size + 1, s.size + 1, o ++ [(l.take s.size).drop fr], by omega, by go_num, by go_num, Nat.le_refl _, by simp; omega, fun h => absurd h (by omega), fun _ => by rw [HI2.out, ← HI1.out]; unfold wordsD; rw [pieces_pcSt, ← HSZ.out, List.filter_append, HI1.out]; simp [HNE.out], HO9.out, HB9.out⟩
          case measure => simp [intOf] <;> omega
        · have hd : decide (fr < s.size) = false := decide_eq_false hfj
          have hd2 : decide ((fr : Int) < (s.size : Int)) = false := decide_eq_false (by omega)
          have hne : (l.take s.size).drop fr = [] := List.drop_eq_nil_of_le (by rw [List.length_take]; omega)
          have HNE := Lib.hid hne
          clear hne
          go_wp2_with fail
          go_roundw
          case rel => exact ⟨s.size + 1, s.size + 1, o, by omega, by go_num, by go_num, Nat.le_refl _, by omega, fun h => absurd h (by omega), fun _ => by rw [HI2.out]; unfold wordsD; rw [pieces_pcSt, ← HSZ.out, List.filter_append, HI1.out, HNE.out]; simp, HO.out, HB.out⟩
          case measure => simp [intOf] <;> omega
      have he : ((j : Int) == (s.size : Int)) = false := beq_no (by omega)
      have hls : j < s.size := by omega
      have hget := HG.out j hls
      have hll : j < l.length := by have := HSZ.out; omega
      have hge : l[j] = s[j] := by rw [List.getElem?_eq_getElem hll] at hget; exact Option.some.inj hget
      have hst := pcSt_succ (c := 32) hll
      rw [hge] at hst
      by_cases hc : s[j] = 32
      · have h4 : ((s[j].toNat : Int) == 32) = true := by simp [hc]
        have HST := Lib.hid (hst.trans (show _ = ((pcSt 32 l j).1 ++ [(pcSt 32 l j).2], []) by unfold pcStep; rw [if_pos hc]))
        clear hst hget hge hc
        by_cases hfj : fr < j
        · have hd : decide (fr < j) = true := decide_eq_true hfj
          have hd2 : decide ((fr : Int) < (j : Int)) = true := decide_eq_true (by omega)
          have hne : (l.take j).drop fr ≠ [] := fun e => by
            have := congrArg List.length e
            rw [List.length_drop, List.length_take, ← HSZ.out, List.length_nil] at this
            omega
          have HNE := Lib.hid hne
          clear hne
          go_wp2_with (at_builtin; refine wpList_append_row _ rfl _ _ 60 rfl 9 i0 (.string ⟨#[]⟩) 1 16 Tryz.underlying60 II.out IZ0.out IZ1.out IZ2.out rfl _ _ _ rfl (HO.out.row.keep (behind_of_below ((Below.refl _ _).alloc (Nat.le_refl _) _)) (by simp)) wr.heap.size 1 1 [.string (s.extract fr j)] 9 rfl (heap_alloc_new wr _) rfl (by intro u hu; simp at hu; subst hu; rfl) (by omega) (by unfold maxLen; omega) (by omega) ?_)
          intro v9 w9 hr9 hB9 hn9
          have h09 : Behind wr (rowBlk u3) w9 := ((behind_of_below ((Below.refl _ _).alloc (Nat.le_refl _) _)).mono (by simp)).trans hB9 (fun k hk => .inl hk)
          rw [HEX.out] at hr9
          have hO9 := HO.out.grown HB.out.size hr9 (fun g hg => (hn9 g hg).imp id (fun h => by first | omega | (simp at h; omega)))
          have HO9 := Lib.hid hO9
          have HB9 := Lib.hid (HB.out.trans (h09.below_of HO.out.ge HB.out.size))
          clear hO9 hr9 hB9 hn9 h09 HO HB
          go_wp2_with fail
          go_roundw
          case rel => exact ⟨j + 1, j + 1, o ++ [(l.take j).drop fr], by omega, by go_num, by go_num, Nat.le_refl _, by simp; omega, fun h => by rw [HST.out]; exact ⟨by simp, by rw [HI2.out, List.filter_append, HI1.out]; simp [HNE.out]⟩, fun h => absurd h (by omega), HO9.out, HB9.out⟩
          case measure => simp [intOf] <;> omega
        · have hd : decide (fr < j) = false := decide_eq_false hfj
          have hd2 : decide ((fr : Int) < (j : Int)) = false := decide_eq_false (by omega)
          have hne : (l.take j).drop fr = [] := List.drop_eq_nil_of_le (by rw [List.length_take]; omega)
          have HNE := Lib.hid hne
          clear hne
          go_wp2_with fail
          go_roundw
          case rel => exact ⟨j + 1, j + 1, o, by omega, by go_num, by go_num, Nat.le_refl _, by omega, fun h => by rw [HST.out]; exact ⟨by simp, by rw [HI2.out, List.filter_append, HI1.out, HNE.out]; simp⟩, fun h => absurd h (by omega), HO.out, HB.out⟩
          case measure => simp [intOf] <;> omega
      · have h4 : ((s[j].toNat : Int) == 32) = false := byte_no (n := 32) hc (by omega)
        have HST := Lib.hid (hst.trans (show _ = ((pcSt 32 l j).1, (pcSt 32 l j).2 ++ [s[j]]) by unfold pcStep; rw [if_neg hc]))
        have HTK := Lib.hid (show (l.take j).drop fr ++ [s[j]] = (l.take (j + 1)).drop fr by
          rw [← hge, List.take_add_one, List.getElem?_eq_getElem hll, List.drop_append_of_le_length (by rw [List.length_take]; omega)]; rfl)
        clear hst hget hge hc
        go_wp2_with fail
        go_roundw
        case rel => exact ⟨j + 1, fr, o, by omega, by go_num, rfl, by omega, by omega, fun h => by rw [HST.out]; exact ⟨by rw [HI1.out]; exact HTK.out, HI2.out⟩, fun h => absurd h (by omega), HO.out, HB.out⟩
        case measure => simp [intOf] <;> omega
    · obtain rfl : j = s.size + 1 := by omega
      have hdd : decide (s.size + 1 ≤ s.size) = false := decide_eq_false (by omega)
      have hdd2 : decide (((s.size + 1 : Nat) : Int) ≤ (s.size : Int)) = false := decide_eq_false (by omega)
      have hdd3 : decide ((s.size : Int) + 1 ≤ (s.size : Int)) = false := decide_eq_false (by omega)
      have HR := Lib.hid (HF.out rfl)
      go_wp2_with fail
      rw [HP.out]
      unfold OwnPost
      rw [← HR.out]
      exact ⟨_, rfl, HO.out, HB.out⟩

def XPost (w : World) (r : DS × Nat × Int) (e : Ending) (w' : World) : Prop :=
  ∃ v, e = .returned (.tuple #[.agg #[.int .i64 r.1.n, v.L, v.S, v.W], .int .i64 r.2.1, .int .i64 r.2.2]) ∧ DX 55 w' (fun g => w.heap.size ≤ g) r.1 v ∧ Below w.heap.size w w'
theorem XPost.err {w w' : World} {k : Nat} {n : Int} (hb : Below w.heap.size w w') : XPost w (.zero, k, n) (.returned (.tuple #[.agg #[.int .i64 0, .slice none 0 0, .slice none 0 0, .slice none 0 0], .int .i64 (k : Int), .int .i64 n])) w' :=
  ⟨⟨.slice none 0 0, .slice none 0 0, .slice none 0 0, .slice none 0 0⟩, rfl, DX.zero _ _ _, hb⟩
theorem DX.moved {TW : TypeId} {w w' : World} {G G' : Nat → Prop} {st : DS} {v : DV} (h : DX TW w G st v) (hG : ∀ g, G g → G' g) (hm : ∀ g, G g → ∀ o, w.heap[g]? = some o → w'.heap[g]? = some o) : DX TW w' G' st v := by
  obtain ⟨cl, hL, hC⟩ := h.rL
  have hx : ∀ g ∈ v.M, ∀ o, inW w g = some o → inW w' g = some o := fun g hg o ho => hm g (h.ge g hg) o ho
  refine ⟨⟨cl, hL.moved (fun g hg => hx g (DV.mem.2 (.inl hg))), fun i u xs h1 h2 => ?_⟩, h.rS.moved (fun g hg => hx g (DV.mem.2 (.inr (.inl hg)))), h.rW.moved (fun g hg => hx g (DV.mem.2 (.inr (.inr (.inl hg))))), h.rc.moved (fun g hg => hx g (DV.mem.2 (.inr (.inr (.inr hg))))), fun g hg => hG g (h.ge g hg), h.nLS, h.nLW, h.nLc, h.nSW, h.nSc, h.nWc⟩
  obtain ⟨hr, hg⟩ := hC i u xs h1 h2
  exact ⟨hr.moved (fun g hg' o ho => hm g (hg g hg').1 o ho), fun g hg' => ⟨hG g (hg g hg').1, (hg g hg').2⟩⟩

def RWords (w : World) (Wr : List Nat) (ws : List (List UInt8)) (v : Value) (Bn : Blocks) : Prop := RowV Bn 9 1 v ws.length (strs ws) ∧ (∀ g ∈ rowBlk v, w.heap.size ≤ g) ∧ ∀ g ∈ Wr, Bn g = w.heap[g]?
theorem words_call (l : List UInt8) (hl : l.length ≤ 1100000) {w : World} {Wr : List Nat} {B : Blocks} (hWr : ∀ g ∈ Wr, g < w.heap.size) (hk : ∀ g ∈ Wr, B g = w.heap[g]?) (x : World) (hx : Behind w Wr x) (hB : Has B x) :
    Calls Tryz.prog 27 #[.string ⟨l.toArray⟩] x fun e w' => ∃ v, e = .returned v ∧ Behind x Wr w' ∧ RWords w Wr (wordsD l) v (newB Wr x w') := by
  refine (xWordsO l hl x).mono ?_
  rintro e w' ⟨v, rfl, hO, hb⟩
  have hbx := below_kept hx hB hWr hk
  refine ⟨v, rfl, (behind_of_below hb).mono (by simp), hO.row.moved (fun g hg o ho => ?_), fun g hg => Nat.le_trans hx.size (hO.ge g hg), fun g hg => ?_⟩
  · rw [newB_in (.inr (hO.ge g hg))]; exact ho
  · rw [newB_in (.inl hg)]
    have h1 := hWr g hg
    rw [hb.block g (Nat.lt_of_lt_of_le h1 hx.size), hbx.block g h1]
def RLine (w : World) (G : Nat → Prop) (v : DV) (r : DS × Int) (val : Value) (Bn : Blocks) : Prop := ∃ st' v', DV.Sl v' ∧ val = .tuple #[stV st' v', .int .i64 r.2] ∧
  ∀ x2, Has Bn x2 → Behind w v.M x2 → (r.2 = 0 → st' = r.1 ∧ DX 55 x2 G st' v' ∧ ∀ g ∈ v'.M, g ∈ v.M ∨ w.heap.size ≤ g)
theorem line_call {w : World} {G : Nat → Prop} (hG : ∀ g, w.heap.size ≤ g → G g) {st : DS} {v : DV} (h : DX 55 w G st v) (hrg : 0 ≤ st.n ∧ st.n ≤ 128) (hsl : st.sh.length ≤ 10000000) (hwl : st.ws.length ≤ 10000000) (hLl : st.L.length ≤ 10000000) (hcl : st.cl.length ≤ 128) (W : List (List UInt8)) (hn : W.length ≤ 1100000) (hl : ∀ x ∈ W, x.length ≤ 1000000)
    {B : Blocks} (val : Value) (hrow : RowV B 9 1 val W.length (strs W)) (hge : ∀ g ∈ rowBlk val, w.heap.size ≤ g) (hk : ∀ g ∈ v.M, B g = w.heap[g]?) (x : World) (hx : Behind w v.M x) (hB : Has B x) :
    Calls Tryz.prog 26 #[stV st v, val] x fun e w' => ∃ u, e = .returned u ∧ Behind x v.M w' ∧ RLine w G v (lineD rdD st W) u (newB v.M x w') := by
  have hWr := h.lt
  have hbx := below_kept hx hB hWr hk
  obtain ⟨a, c, e, hA⟩ := rowS_at (hrow.of_has hB)
  subst e
  have hoff : Off v a := fun g o y hg hm => by
    have h1 := hWr g hm
    have h2 := hge g
    subst hg
    have := h2 (by simp [rowBlk])
    omega
  have hx0 : DX 55 x (fun g => G g ∧ (g < w.heap.size ∨ x.heap.size ≤ g)) st v := (h.narrow.mono (G' := fun g => G g ∧ (g < w.heap.size ∨ x.heap.size ≤ g)) (fun g h1 => ⟨h1.1, .inl h1.2⟩)).keepB hbx
  refine (xLine x _ (fun g hg => ⟨hG g (Nat.le_trans hx.size hg), .inr hg⟩) st v hx0 hrg hsl hwl hLl hcl W hn hl a c hA hoff).mono ?_
  rintro e w' ⟨st', v', hs, rfl, hB', hq⟩
  refine ⟨_, rfl, hB', st', v', hs, rfl, fun x2 h2 h3 h0 => ?_⟩
  obtain ⟨q1, q2, q3⟩ := hq h0
  refine ⟨q1, q2.moved (fun g hg => hg.1) (fun g hg o ho => ?_), fun g hg => (q3 g hg).imp id (fun e => Nat.le_trans hx.size e)⟩
  rcases hg.2 with hg | hg
  · by_cases hm : g ∈ v.M
    · exact h2 g o (by rw [newB_in (.inl hm)]; exact ho)
    · rw [h3.block g hg hm, ← hbx.block g hg, ← hB'.block g (Nat.lt_of_lt_of_le hg hx.size) hm]; exact ho
  · exact h2 g o (by rw [newB_in (.inr hg)]; exact ho)

theorem showGo_n : ∀ (l : List Int) (st : DS), (showGo st l).1.n = st.n
  | [], st => rfl
  | v :: l, st => by
    unfold showGo
    split
    · rfl
    split
    · rfl
    · rw [showGo_n l]
theorem litsGo_n : ∀ (l : List Int) (st : DS), (litsGo st l).1.n = st.n
  | [], st => rfl
  | v :: l, st => by
    unfold litsGo
    split
    · rw [litsGo_n l]
    split
    · rfl
    split
    · rfl
    · rw [litsGo_n l]
theorem lineD_rng (rd : List UInt8 → Bool) (st : DS) (W : List (List UInt8)) (h : 0 ≤ st.n ∧ st.n ≤ 128) : 0 ≤ (lineD rd st W).1.n ∧ (lineD rd st W).1.n ≤ 128 := by
  unfold lineD
  split
  · exact h
  split
  · unfold problemD
    split
    · exact h
    split
    · split
      · exact h
      split
      · exact h
      · rename_i a b _ _ _ hab
        simp only
        omega
    · exact h
  split
  · unfold commentD
    split
    · exact h
    split
    · exact h
    split
    · unfold showD
      split
      · exact h
      · rw [showGo_n]; exact h
    · unfold weightD
      repeat' split
      all_goals exact h
  · unfold litsD
    split
    · exact h
    split
    · exact h
    · rw [litsGo_n]; exact h
theorem not_here {w : World} {g b o : Nat} {y : ByteArray} {cs : Array Value} {T : TypeId} (h : w.heap[g]? = some (.cells cs T (0, 0))) (hc : w.cell? ⟨b, o, none⟩ = some (.string y)) (hn : ∀ u ∈ cs.toList, u ≠ .string y) : b ≠ g := by
  rintro rfl
  have h2 : cs[o]? = some (.string y) := by
    by_cases ho : o < cs.size
    · have := blk_cell h o (v := cs[o]) (by simp [ho])
      rw [hc] at this
      rw [Array.getElem?_eq_getElem ho]
      exact this.symm
    · exfalso
      simp [World.cell?, h] at hc
      have := (Array.getElem?_eq_some_iff.1 hc).1
      omega
  exact hn _ (by have := Array.mem_of_getElem? h2; simpa using this) rfl
set_option maxHeartbeats 6400000 in
set_option maxRecDepth 100000 in
theorem xParse (l : List UInt8) (hl : l.length ≤ 1000000) (w : World) :
    Calls Tryz.prog 13 #[.string ⟨l.toArray⟩] w (XPost w (parseD rdD l)) := by
  obtain ⟨R, hR⟩ : ∃ R : DS × Nat × Int, R = parseD rdD l := ⟨_, rfl⟩
  rw [← hR]
  obtain ⟨Post, hPost⟩ : ∃ P : Ending → World → Prop, P = XPost w R := ⟨_, rfl⟩
  rw [← hPost]
  have HP := Lib.hid hPost
  obtain ⟨s, hs⟩ : ∃ s : ByteArray, s = ⟨l.toArray⟩ := ⟨_, rfl⟩
  have hsz : s.size = l.length := by rw [hs]; exact ba_size l
  have hbig : ¬ 1048576 < l.length := by omega
  obtain ⟨lines, hlines⟩ : ∃ x, x = pieces 10 l := ⟨_, rfl⟩
  obtain ⟨G, hG⟩ : ∃ G, G = linesGo rdD .zero 0 lines := ⟨_, rfl⟩
  have HR := Lib.hid (show R = if G.2.2 ≠ 0 then (.zero, G.2) else if G.1.begun = false then (.zero, 0, 3) else if G.1.op = true ∨ ((G.1.L.length : Nat) : Int) ≠ G.1.m then (.zero, 0, 5) else (G.1, 0, 0) by rw [hR, hG, hlines]; unfold parseD; rw [if_neg hbig])
  have HG := Lib.hid hG
  have hd : decide (1048576 < s.size) = false := decide_eq_false (by omega)
  have hd2 : decide ((1048576 : Int) < (s.size : Int)) = false := decide_eq_false (by omega)
  have hpl := pieces_len 10 l
  rw [← hlines] at hpl
  have KLI := Lib.hid (fun (w1 : World) => xLines l (by omega) w1)
  rw [← hs, ← hlines] at KLI
  rw [← hs]
  clear hR hs hG hlines hPost
  go_enter Tryz.func13, Tryz.ntmps13
  go_upto_region 4 with fail
  refine wp_gen ?_
  intro w1 hw1
  have F1 := Lib.hid (show w1.heap[w.heap.size]? = some (.cells #[.int .i64 0, .slice none 0 0, .slice none 0 0, .slice none 0 0] 37 (0, 0)) by rw [hw1]; exact new_two1 _ _ _)
  have S1 := Lib.hid (show w1.heap[w.heap.size + 1]? = some (.cells #[.int .i64 0, .slice none 0 0, .slice none 0 0, .slice none 0 0, .bool false, .int .i64 0, .slice none 0 0, .bool false] 67 (0, 0)) by rw [hw1]; exact new_two2 _ _ _)
  have HB1 := Lib.hid (show Below w.heap.size w w1 by rw [hw1]; exact below_two _ _ _)
  have hsz1 : w1.heap.size = w.heap.size + 2 := by rw [hw1]; exact new_two_size _ _ _
  clear hw1
  have KL2 := KLI.out w1
  go_wp2_with fail
  refine KL2.mono ?_
  rintro e w2 ⟨aL, cL, rfl, hAL, hB⟩
  have HAL := Lib.hid hAL
  have HB2 := Lib.hid (HB1.out.trans (hB.mono (by omega)))
  have F2 := Lib.hid ((behind_of_below hB).keep F1.out (by simp))
  have S2 := Lib.hid ((behind_of_below hB).keep S1.out (by simp))
  have hs2 := hB.size
  clear hAL hB KL2 KLI F1 S1
  obtain ⟨GP, hGP⟩ : ∃ GP : Nat → Prop, GP = fun g => w2.heap.size ≤ g := ⟨_, rfl⟩
  have HGP := Lib.hid hGP
  clear hGP
  go_wp2_with fail
  go_loopw [7] (fun t7 wr => ∃ (k : Nat) (st : DS) (v : DV), k ≤ lines.length ∧ t7 = .int .i64 k ∧ Hid (G = linesGo rdD st k (lines.drop k)) ∧ Hid (DX 55 wr GP st v) ∧ Hid (wr.heap[w.heap.size + 1]? = some (.cells #[.int .i64 st.n, v.L, v.S, v.W, .bool st.begun, .int .i64 st.m, v.c, .bool st.op] 67 (0, 0))) ∧ Hid (∀ g ∈ v.M, w2.heap.size ≤ g) ∧ Hid (0 ≤ st.n ∧ st.n ≤ 128) ∧
      Hid (sumLen (lines.drop k) + st.sh.length ≤ 1000000 ∧ sumLen (lines.drop k) + st.ws.length ≤ 1000000 ∧ sumLen (lines.drop k) + st.L.length ≤ 1000000 ∧ st.cl.length ≤ 128) ∧ Hid (wr.heap[w.heap.size]? = some (.cells #[.int .i64 0, .slice none 0 0, .slice none 0 0, .slice none 0 0] 37 (0, 0))) ∧ Hid (Behind w2 [w.heap.size + 1] wr)) (fun t7 _ => lines.length - (intOf t7).toNat)
  case atStart => exact ⟨0, .zero, ⟨.slice none 0 0, .slice none 0 0, .slice none 0 0, .slice none 0 0⟩, Nat.zero_le _, rfl, HG.out, DX.zero _ _ _, S2.out, by simp [Hid, DV.M, rowBlk], by simp [Hid, DS.zero], ⟨by simp [DS.zero]; omega, by simp [DS.zero]; omega, by simp [DS.zero]; omega, by simp [DS.zero]⟩, F2.out, Behind.refl _ _⟩
  case round =>
    obtain ⟨k, st, v1, hk, rfl, HGk, HD, HS, HV, HN, HZ, HFl, HBk⟩ := hrel
    obtain ⟨vL1, vS1, vW1, vc1⟩ := v1
    obtain ⟨cl1, hcl1, _⟩ := HD.out.rL
    obtain ⟨pL1, cL1, e1⟩ := hcl1.slice
    obtain ⟨pS1, cS1, e2⟩ := HD.out.rS.slice
    obtain ⟨pW1, cW1, e3⟩ := HD.out.rW.slice
    obtain ⟨pc1, cc1, e4⟩ := HD.out.rc.slice
    simp only at e1 e2 e3 e4
    subst e1
    subst e2
    subst e3
    subst e4
    clear hcl1
    simp only at *
    have hwr := HBk.out.size
    have hS2 := lt_of_heap S2.out
    by_cases hlt : k < lines.length
    · have hdd : decide (k < lines.length) = true := decide_eq_true hlt
      have hxx : lines[k]? = some (lines.getD k []) := by simp [List.getD, hlt]
      have hdr : lines.drop k = lines.getD k [] :: lines.drop (k + 1) := by
        rw [List.drop_eq_getElem_cons hlt]; simp [List.getD, hlt]
      have hG2 := HGk.out
      rw [hdr, linesGo_cons] at hG2
      have hsl := sumLen_drop hlt
      obtain ⟨bL, oL, hbL, rfl, kl⟩ := HAL.out k _ (strs_get _ _ _ hxx)
      have hbL1 : bL ≠ w.heap.size + 1 := not_here S2.out kl (by simp)
      have kl2 := behind_cellD HBk.out kl (by simpa using hbL1)
      have hbLr := block_lt_of_cell kl2
      have HSL := Lib.hid hsl
      generalize lines.getD k [] = x at *
      have hxl : x.length ≤ 1000000 := by have := HZ.out.1; have := HSL.out; omega
      have HZZ := Lib.hid (lineD_sz rdD st (wordsD x))
      have HRG := Lib.hid (lineD_rng rdD st (wordsD x) HN.out)
      have HWL := Lib.hid (words_len x)
      have hM : ∀ g ∈ DV.M (DV.mk (.slice pL1 st.L.length cL1) (.slice pS1 st.sh.length cS1) (.slice pW1 st.ws.length cW1) (.slice pc1 st.cl.length cc1)), g < wr.heap.size := HD.out.lt
      have HMV := Lib.hid (show ∀ g ∈ DV.M (DV.mk (.slice pL1 st.L.length cL1) (.slice pS1 st.sh.length cS1) (.slice pW1 st.ws.length cW1) (.slice pc1 st.cl.length cc1)), w2.heap.size ≤ g from HV.out)
      have HGQ := Lib.hid (show ∀ g, wr.heap.size ≤ g → GP g from fun g hg => by rw [HGP.out]; omega)
      have KWd := Lib.hid (fun (x2 : World) (h1 : Behind wr (DV.M (DV.mk (.slice pL1 st.L.length cL1) (.slice pS1 st.sh.length cS1) (.slice pW1 st.ws.length cW1) (.slice pc1 st.cl.length cc1))) x2) (h2 : Has (keptB (DV.M (DV.mk (.slice pL1 st.L.length cL1) (.slice pS1 st.sh.length cS1) (.slice pW1 st.ws.length cW1) (.slice pc1 st.cl.length cc1))) wr) x2) => words_call x (by omega) hM (fun g hg => keptB_in hg) x2 h1 h2)
      have KLn := Lib.hid (fun (B : Blocks) (val : Value) (h1 : RowV B 9 1 val (wordsD x).length (strs (wordsD x))) (h2 : ∀ g ∈ rowBlk val, wr.heap.size ≤ g) (h3 : ∀ g ∈ DV.M (DV.mk (.slice pL1 st.L.length cL1) (.slice pS1 st.sh.length cS1) (.slice pW1 st.ws.length cW1) (.slice pc1 st.cl.length cc1)), B g = wr.heap[g]?) (x2 : World) (h4 : Behind wr (DV.M (DV.mk (.slice pL1 st.L.length cL1) (.slice pS1 st.sh.length cS1) (.slice pW1 st.ws.length cW1) (.slice pc1 st.cl.length cc1))) x2) (h5 : Has B x2) =>
        line_call HGQ.out HD.out HN.out (by have := HZ.out.1; omega) (by have := HZ.out.2.1; omega) (by have := HZ.out.2.2.1; omega) HZ.out.2.2.2 (wordsD x) (by have := HWL.out; omega) (fun u hu => Nat.le_trans (words_mem hu) hxl) val h1 h2 h3 x2 h4 h5)
      have HG2 := Lib.hid hG2
      have HM := Lib.hid hM
      have hnS : w.heap.size + 1 ∉ DV.M (DV.mk (.slice pL1 st.L.length cL1) (.slice pS1 st.sh.length cS1) (.slice pW1 st.ws.length cW1) (.slice pc1 st.cl.length cc1)) := fun hm => by have := HV.out _ hm; omega
      have hnF : w.heap.size ∉ DV.M (DV.mk (.slice pL1 st.L.length cL1) (.slice pS1 st.sh.length cS1) (.slice pW1 st.ws.length cW1) (.slice pc1 st.cl.length cc1)) := fun hm => by have := HV.out _ hm; omega
      have hnL : bL ∉ DV.M (DV.mk (.slice pL1 st.L.length cL1) (.slice pS1 st.sh.length cS1) (.slice pW1 st.ws.length cW1) (.slice pc1 st.cl.length cc1)) := fun hm => by have := HV.out _ hm; omega
      have HnS := Lib.hid hnS
      have HnF := Lib.hid hnF
      clear kl hxx hdr hG2 hsl hM hnS hnF
      generalize lineD rdD st (wordsD x) = E at *
      go_wp2_with fail
      unfold stV at KLn
      refine wp_gameM [0, 0, 0, 0, 0, 6, 6, 0, 0, 0, 3, 2, 0] (DV.M (DV.mk (.slice pL1 st.L.length cL1) (.slice pS1 st.sh.length cS1) (.slice pW1 st.ws.length cW1) (.slice pc1 st.cl.length cc1))) (keptB (DV.M (DV.mk (.slice pL1 st.L.length cL1) (.slice pS1 st.sh.length cS1) (.slice pW1 st.ws.length cW1) (.slice pc1 st.cl.length cc1))) wr) (fin_keptB _) (has_keptB _) (by kernel_rfl) (by kernel_rfl) ?_
      refine lexM_split 5 (by decide) (by rfl) ?_
      simp only [List.take_succ_cons, List.take_zero, List.drop_succ_cons, List.drop_zero]
      refine lex_quietE 5 (by kernel_rfl) (by rfl) ?_
      apply Exists.intro
      refine ⟨fun z hz1 => ?_, ?_⟩
      · have hzS := hz1.keep HS.out HnS.out
        have g0 := blk_cellp hzS 0 rfl
        have g1 := blk_cellp hzS 1 rfl
        have g2 := blk_cellp hzS 2 rfl
        have g3 := blk_cellp hzS 3 rfl
        have g4 := blk_cellp hzS 4 rfl
        have g5 := blk_cellp hzS 5 rfl
        have g6 := blk_cellp hzS 6 rfl
        have g7 := blk_cellp hzS 7 rfl
        have gz := (World.cell?_of_block (a := ⟨bL, oL + k, none⟩) (hz1.block bL hbLr hnL)).trans kl2
        have gy := fun p => plus_cell gz (block_lt_of_cell gz) p
        clear hz1 gz hzS
        simp only [List.take_succ_cons, List.take_zero]
        unfold Cx
        repeat (go_big_quiet_step (fail))
        exact wpQuiet_nil rfl
      simp only [List.drop_succ_cons, List.drop_zero]
      refine lex_nil ?_
      refine lexM_many (RWords wr (DV.M (DV.mk (.slice pL1 st.L.length cL1) (.slice pS1 st.sh.length cS1) (.slice pW1 st.ws.length cW1) (.slice pc1 st.cl.length cc1))) (wordsD x)) (by rfl) HM.out (fin_keptB _) (fun g o h => keptB_wr h) (fun x => by go_simp) (fun x2 h1 h2 => KWd.out x2 h1 h2) (fun u1 B1 hR1 hf1 hB1 => ?_)
      have HR1 := Lib.hid hR1
      have HF1 := Lib.hid (Fin.over (fin_keptB (Wr := DV.M (DV.mk (.slice pL1 st.L.length cL1) (.slice pS1 st.sh.length cS1) (.slice pW1 st.ws.length cW1) (.slice pc1 st.cl.length cc1))) wr) hf1)
      have HB1' := Lib.hid hB1
      clear hR1 hf1 hB1
      unfold setSlot
      go_big_quiet_step (fail)
      refine wpQuiet_nil ?_
      refine lexM_many (RLine wr GP (DV.mk (.slice pL1 st.L.length cL1) (.slice pS1 st.sh.length cS1) (.slice pW1 st.ws.length cW1) (.slice pc1 st.cl.length cc1)) E) (by rfl) HM.out HF1.out (fun g o h => by
        by_cases hb : B1 g = none
        · rw [Blocks.over_none hb] at h; exact keptB_wr h
        · obtain ⟨o', ho'⟩ := Option.ne_none_iff_exists'.1 hb
          exact HB1'.out g o' ho') (fun x => by go_simp) (fun x2 h1 h2 => KLn.out _ u1 (HR1.out.1.moved (fun g hg o ho => Blocks.over_some ho)) HR1.out.2.1 (fun g hg => by
            have h9 := HR1.out.2.2 g hg
            rw [Array.getElem?_eq_getElem (HM.out g hg)] at h9 ⊢
            exact Blocks.over_some h9) x2 h1 h2) (fun u2 B2 hR2 hf2 hB2 => ?_)
      obtain ⟨st', v', ⟨A1, A2, A3, C1, C2, C3, D1, D2, D3, E1, E2, E3, rfl⟩, rfl, hq⟩ := hR2
      have HQ := Lib.hid hq
      have HB2' := Lib.hid hB2
      clear hq hf2 hB2 KLn KWd
      unfold setSlot stV
      go_big_quiet_step (fail)
      refine wpQuiet_nil ?_
      refine lexM_split 6 (by decide) (by rfl) ?_
      simp only [List.take_succ_cons, List.take_zero, List.drop_succ_cons, List.drop_zero]
      refine lex_quietE 3 (by kernel_rfl) (by rfl) ?_
      apply Exists.intro
      refine ⟨fun z hz1 => ?_, ?_⟩
      · clear hz1
        simp only [List.take_succ_cons, List.take_zero]
        unfold Cx
        repeat (go_big_quiet_step (fail))
        exact wpQuiet_nil rfl
      simp only [List.drop_succ_cons, List.drop_zero]
      refine lex_alloc (.agg #[.int .i64 0, .slice none 0 0, .slice none 0 0, .slice none 0 0, .bool false, .int .i64 0, .slice none 0 0, .bool false]) (by rfl) (fun x => by kernel_rfl) (fun g8 hg8 hn8 => ?_)
      unfold setSlot
      go_big_quiet_step (fail)
      refine wpQuiet_nil ?_
      refine lex_store_all g8 #[.int .i64 st'.n, .slice A1 A2 A3, .slice C1 C2 C3, .slice D1 D2 D3, .bool st'.begun, .int .i64 st'.m, .slice E1 E2 E3, .bool st'.op] #[.int .i64 0, .slice none 0 0, .slice none 0 0, .slice none 0 0, .bool false, .int .i64 0, .slice none 0 0, .bool false] 67 (by rfl) (by rfl) (by rfl) (Blocks.put_same _ _ _) rfl (.inr hg8) Tryz.sizeState (by simp [Value.oneCell']) ?_
      refine lex_quietE 1 (by kernel_rfl) (by rfl) ?_
      apply Exists.intro
      refine ⟨fun z hz1 => ?_, ?_⟩
      · clear hz1
        simp only [List.take_succ_cons, List.take_zero]
        unfold Cx
        repeat (go_big_quiet_step (fail))
        exact wpQuiet_nil rfl
      simp only [List.drop_succ_cons, List.drop_zero]
      refine lex_nil ?_
      intro x2 hx2 hH2
      have hT8 := hH2 g8 _ (Blocks.put_same _ _ _)
      have hHq : Has B2 x2 := fun b o hb => by
        have hne : b ≠ g8 := fun e => by
          subst e
          have := hn8
          rw [Blocks.over_some hb] at this
          cases this
        exact hH2 b o (by rw [Blocks.put_other _ _ hne, Blocks.put_other _ _ hne]; exact Blocks.over_some hb)
      have HQ2 := Lib.hid (HQ.out x2 hHq hx2)
      have T8 := Lib.hid hT8
      have S8 := Lib.hid (hx2.keep HS.out HnS.out)
      have F8 := Lib.hid (hx2.keep HFl.out HnF.out)
      have HX2 := Lib.hid hx2
      have HBq := Lib.hid (HBk.out.trans hx2 (fun g hg => .inr (HMV.out g hg)))
      have hs8 := hx2.size
      clear hT8 hHq hx2 hH2 hn8
      by_cases hE : E.2 = 0
      · have hEb : (E.2 != 0) = false := by simp [hE]
        obtain ⟨hq1, hq2, hq3⟩ := HQ2.out hE
        have HQ3 := Lib.hid hq2
        have HQ4 := Lib.hid hq3
        have HQ1 := Lib.hid hq1
        have HG3 := Lib.hid (HG2.out.trans (if_neg (by simpa using hE)))
        clear hq1 hq2 hq3 HQ2 HG2
        have q0 := blk_cell T8.out 0 rfl
        have q1 := blk_cell T8.out 1 rfl
        have q2 := blk_cell T8.out 2 rfl
        have q3 := blk_cell T8.out 3 rfl
        have q4 := blk_cell T8.out 4 rfl
        have q5 := blk_cell T8.out 5 rfl
        have q6 := blk_cell T8.out 6 rfl
        have q7 := blk_cell T8.out 7 rfl
        have o0 := blk_cell S8.out 0 rfl
        have of0 := blk_free S8.out 0
        have o1 := blk_cell S8.out 1 rfl
        have of1 := blk_free S8.out 1
        have o2 := blk_cell S8.out 2 rfl
        have of2 := blk_free S8.out 2
        have o3 := blk_cell S8.out 3 rfl
        have of3 := blk_free S8.out 3
        have o4 := blk_cell S8.out 4 rfl
        have of4 := blk_free S8.out 4
        have o5 := blk_cell S8.out 5 rfl
        have of5 := blk_free S8.out 5
        have o6 := blk_cell S8.out 6 rfl
        have of6 := blk_free S8.out 6
        have o7 := blk_cell S8.out 7 rfl
        have of7 := blk_free S8.out 7
        go_wp2_with fail
        go_roundw
        case rel =>
          have hg8n : g8 ≠ w.heap.size + 1 := by omega
          have hGP1 : ¬ GP (w.heap.size + 1) := fun h => by rw [HGP.out] at h; omega
          refine ⟨k + 1, st', ⟨.slice A1 A2 A3, .slice C1 C2 C3, .slice D1 D2 D3, .slice E1 E2 E3⟩, by omega, by go_num, by rw [HQ1.out]; exact HG3.out, HQ3.out.keep (eight_behind (w := x2) (g := w.heap.size + 1)) (fun g hg => .inl (by simp at hg; subst hg; exact hGP1)), eight_set S8.out, fun g hg => (HQ4.out g hg).elim (fun e => HMV.out g e) (fun e => by omega), by rw [HQ1.out]; exact HRG.out, ⟨?_, ?_, ?_, by rw [HQ1.out]; exact HZZ.out.cl HZ.out.2.2.2⟩, (eight_behind (w := x2) (g := w.heap.size + 1)).keep F8.out (by simp), HBq.out.trans (eight_behind (w := x2) (g := w.heap.size + 1)) (fun g hg => .inl hg)⟩
          · rw [HQ1.out]; have := HZZ.out.sh; have := HWL.out; have := HSL.out; have := HZ.out.1; omega
          · rw [HQ1.out]; have := HZZ.out.ws; have := HWL.out; have := HSL.out; have := HZ.out.2.1; omega
          · rw [HQ1.out]; have := HZZ.out.L; have := HWL.out; have := HSL.out; have := HZ.out.2.2.1; omega
        case measure => simp [intOf]; omega
      · have hEb : (E.2 != 0) = true := by simp [bne, beq_no hE]
        have HG3 := Lib.hid (HG2.out.trans (if_pos (by simpa using hE)))
        have HRF := Lib.hid (show R = (.zero, k + 1, E.2) by rw [HR.out, HG3.out]; exact if_pos (by simpa using hE))
        generalize E.2 = en at *
        have o0 := blk_cell F8.out 0 rfl
        have of0 := blk_free F8.out 0
        have o1 := blk_cell F8.out 1 rfl
        have of1 := blk_free F8.out 1
        have o2 := blk_cell F8.out 2 rfl
        have of2 := blk_free F8.out 2
        have o3 := blk_cell F8.out 3 rfl
        have of3 := blk_free F8.out 3
        go_wp2_with fail
        refine bodyPost_ret (results_cell_tmp2 (p := 2) (q := 3) (r := 4) rfl _ _ (w.heap.size) _ _ (0, 0) _ rfl (four_set F8.out) Tryz.underlying37 rfl Tryz.sizeXFile _ _ rfl rfl) rfl ?_
        rw [HP.out, HRF.out]
        have hB9 : Below w.heap.size w x2 := HB2.out.trans (HBq.out.below_of (fun g hg => by simp at hg; omega) (by omega))
        have hfb := below_written hB9 (four_behind (w := x2) (g := w.heap.size) (x := .int .i64 0) (y := .slice none 0 0) (z := .slice none 0 0) (u := .slice none 0 0)) (Nat.le_refl _) (Nat.le_refl _)
        have hfe := XPost.err (k := k + 1) (n := en) hfb
        simpa using hfe
    · obtain rfl : k = lines.length := by omega
      have hdd : decide (lines.length < lines.length) = false := by simp
      have HG3 := Lib.hid (show G = (st, 0, 0) by rw [HGk.out, List.drop_length]; rfl)
      have hR2 := HR.out
      rw [HG3.out] at hR2
      have HR2 := Lib.hid (show R = if st.begun = false then (.zero, 0, 3) else if st.op = true ∨ ((st.L.length : Nat) : Int) ≠ st.m then (.zero, 0, 5) else (st, 0, 0) from hR2)
      have hB9 : Below w.heap.size w wr := HB2.out.trans (HBk.out.below_of (fun g hg => by simp at hg; omega) (by omega))
      have HB9 := Lib.hid hB9
      have HFB := Lib.hid (fun (x y z u : Value) => below_written hB9 (four_behind (w := wr) (g := w.heap.size) (x := x) (y := y) (z := z) (u := u)) (Nat.le_refl _) (Nat.le_refl _))
      clear hR2 hB9 HG HR HGk HG3
      cases hbg : st.begun with
      | false =>
        have HF3 := Lib.hid (HR2.out.trans (if_pos hbg))
        have S3 := HS.out
        rw [hbg] at S3
        have q4 := blk_cell S3 4 rfl
        have o0 := blk_cell HFl.out 0 rfl
        have of0 := blk_free HFl.out 0
        have o1 := blk_cell HFl.out 1 rfl
        have of1 := blk_free HFl.out 1
        have o2 := blk_cell HFl.out 2 rfl
        have of2 := blk_free HFl.out 2
        have o3 := blk_cell HFl.out 3 rfl
        have of3 := blk_free HFl.out 3
        clear hbg S3
        go_wp2_with fail
        refine bodyPost_ret (results_cell_tmp2 (p := 2) (q := 3) (r := 4) rfl _ _ (w.heap.size) _ _ (0, 0) _ rfl (four_set HFl.out) Tryz.underlying37 rfl Tryz.sizeXFile _ _ rfl rfl) rfl ?_
        rw [HP.out, HF3.out]
        exact XPost.err (k := 0) (HFB.out _ _ _ _)
      | true =>
      have HF3 := Lib.hid (HR2.out.trans (if_neg (by rw [hbg]; simp)))
      have S3 := HS.out
      rw [hbg] at S3
      have S3 := Lib.hid S3
      clear hbg HR2
      cases hop : st.op with
      | true =>
        have HF4 := Lib.hid (HF3.out.trans (if_pos (.inl hop)))
        have S4 := S3.out
        rw [hop] at S4
        have q4 := blk_cell S4 4 rfl
        have q7 := blk_cell S4 7 rfl
        have o0 := blk_cell HFl.out 0 rfl
        have of0 := blk_free HFl.out 0
        have o1 := blk_cell HFl.out 1 rfl
        have of1 := blk_free HFl.out 1
        have o2 := blk_cell HFl.out 2 rfl
        have of2 := blk_free HFl.out 2
        have o3 := blk_cell HFl.out 3 rfl
        have of3 := blk_free HFl.out 3
        clear hop S4
        go_wp2_with fail
        refine bodyPost_ret (results_cell_tmp2 (p := 2) (q := 3) (r := 4) rfl _ _ (w.heap.size) _ _ (0, 0) _ rfl (four_set HFl.out) Tryz.underlying37 rfl Tryz.sizeXFile _ _ rfl rfl) rfl ?_
        rw [HP.out, HF4.out]
        exact XPost.err (k := 0) (HFB.out _ _ _ _)
      | false =>
      have S4 := S3.out
      rw [hop] at S4
      have S4 := Lib.hid S4
      have hLl : st.L.length ≤ 10000000 := by have := HZ.out.2.2.1; omega
      have q1 := blk_cell S4.out 1 rfl
      have q4 := blk_cell S4.out 4 rfl
      have q5 := blk_cell S4.out 5 rfl
      have q7 := blk_cell S4.out 7 rfl
      by_cases hcn : ((st.L.length : Nat) : Int) ≠ st.m
      · have HF4 := Lib.hid (HF3.out.trans (if_pos (.inr hcn)))
        have hb1 : (((st.L.length : Nat) : Int) != st.m) = true := by simp [bne, beq_no hcn]
        have o0 := blk_cell HFl.out 0 rfl
        have of0 := blk_free HFl.out 0
        have o1 := blk_cell HFl.out 1 rfl
        have of1 := blk_free HFl.out 1
        have o2 := blk_cell HFl.out 2 rfl
        have of2 := blk_free HFl.out 2
        have o3 := blk_cell HFl.out 3 rfl
        have of3 := blk_free HFl.out 3
        clear hop hcn
        go_wp2_with fail
        refine bodyPost_ret (results_cell_tmp2 (p := 2) (q := 3) (r := 4) rfl _ _ (w.heap.size) _ _ (0, 0) _ rfl (four_set HFl.out) Tryz.underlying37 rfl Tryz.sizeXFile _ _ rfl rfl) rfl ?_
        rw [HP.out, HF4.out]
        exact XPost.err (k := 0) (HFB.out _ _ _ _)
      · have hcm : ((st.L.length : Nat) : Int) = st.m := Decidable.not_not.1 hcn
        have HF4 := Lib.hid (HF3.out.trans (if_neg (fun h' => h'.elim (fun h'' => by rw [hop] at h''; cases h'') (fun h'' => hcn h''))))
        have hb1 : (((st.L.length : Nat) : Int) != st.m) = false := by simp [bne, hcm]
        have q0 := blk_cell S4.out 0 rfl
        have q2 := blk_cell S4.out 2 rfl
        have q3 := blk_cell S4.out 3 rfl
        have o0 := blk_cell HFl.out 0 rfl
        have of0 := blk_free HFl.out 0
        have o1 := blk_cell HFl.out 1 rfl
        have of1 := blk_free HFl.out 1
        have o2 := blk_cell HFl.out 2 rfl
        have of2 := blk_free HFl.out 2
        have o3 := blk_cell HFl.out 3 rfl
        have of3 := blk_free HFl.out 3
        clear hop hcn hcm
        go_wp2_with fail
        refine bodyPost_ret (results_cell_tmp2 (p := 2) (q := 3) (r := 4) rfl _ _ (w.heap.size) _ _ (0, 0) _ rfl (four_set HFl.out) Tryz.underlying37 rfl Tryz.sizeXFile _ _ rfl rfl) rfl ?_
        rw [HP.out, HF4.out]
        have hGP1 : ¬ GP w.heap.size := fun h => by rw [HGP.out] at h; omega
        exact ⟨⟨.slice pL1 st.L.length cL1, .slice pS1 st.sh.length cS1, .slice pW1 st.ws.length cW1, .slice pc1 st.cl.length cc1⟩, rfl, (HD.out.keep (four_behind (w := wr) (g := w.heap.size)) (fun g hg => .inl (by simp at hg; subst hg; exact hGP1))).mono (fun g hg => by rw [HGP.out] at hg; omega), HFB.out _ _ _ _⟩
end Go.Proofs.YtajjgfiojlagmaaGreatDoor
