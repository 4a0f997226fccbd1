/- Texts of this claim, joined: JE. -/
import Derived.Test.YtmaiofimmjedjaaDoorMW04
import Derived.Test.YtmaiofimmjedjaaDoorMW06
import Derived.Test.YtmaiofimmjedjaaDoorMW07
import Derived.Test.YtmaiofimmjedjaaDoorShelf
import Derived.Deep.DeepCutAuto

/- The tokens of a text: the program's. -/
namespace Go.Proofs.YtmaiofimmjedjaaDoor
open Go.RowKit

def wrongV (p : Nat) (e : Int) : Value := .iface 54 (.agg #[.int .i64 (p : Int), .int .i64 e])
def wrongE (p : Nat) (e : Int) : Ending := .panicked [{ v := wrongV p e, recovered := false }]
def tokE (l : List UInt8) (p : Nat) : Ending := match tokI (l.drop (nxtI l p)) with
  | some t => .returned (.tuple #[.string ⟨t.toArray⟩, .int .i64 (nxtI l p : Nat)])
  | none => wrongE (nxtI l p) 5
theorem bl_facts (l : List UInt8) (p : Nat) (hp : p ≤ l.length) : nxtI l p ≤ l.length ∧ (∀ j, p + j < nxtI l p → l[p + j]? = some 32) ∧ (∀ c, l[nxtI l p]? = some c → c ≠ 32) := by
  have h : ∀ (m : List UInt8), blI m ≤ m.length ∧ (∀ j, j < blI m → m[j]? = some 32) ∧ ∀ c, m[blI m]? = some c → c ≠ 32 := by
    intro m
    induction m with
    | nil => exact ⟨Nat.le_refl _, fun j hj => by simp [blI] at hj, fun c hc => by simp at hc⟩
    | cons a m ih =>
      by_cases e : a = 32
      · subst e
        have e1 : blI (32 :: m) = blI m + 1 := by simp [blI]
        rw [e1]
        refine ⟨by simp; exact ih.1, fun j hj => ?_, fun c hc => ih.2.2 c (by simpa using hc)⟩
        cases j with
        | zero => rfl
        | succ j => exact ih.2.1 j (by omega)
      · have e1 : blI (a :: m) = 0 := by simp [blI, e]
        rw [e1]
        exact ⟨Nat.zero_le _, fun j hj => by omega, fun c hc => by simp at hc; subst hc; exact e⟩
  obtain ⟨h1, h2, h3⟩ := h (l.drop p)
  rw [List.length_drop] at h1
  refine ⟨by unfold nxtI; omega, fun j hj => ?_, fun c hc => h3 c ?_⟩
  · have := h2 j (by unfold nxtI at hj; omega)
    rwa [List.getElem?_drop] at this
  · rw [List.getElem?_drop]; exact hc
theorem small_pred (w : World) : PredAtRunes Tryd.prog 50 #[] notR w := fun W x hx _ => by
  unfold FnGives
  have HR := Lib.hid (show notR x = !((decide (97 ≤ x) && decide (x ≤ 122)) || (decide (48 ≤ x) && decide (x ≤ 57))) from rfl)
  have d1 : decide ((97 : Int) ≤ (x : Int)) = decide (97 ≤ x) := by by_cases h : 97 ≤ x <;> simp [h] <;> omega
  have d2 : decide ((x : Int) ≤ 122) = decide (x ≤ 122) := by by_cases h : x ≤ 122 <;> simp [h] <;> omega
  have d3 : decide ((48 : Int) ≤ (x : Int)) = decide (48 ≤ x) := by by_cases h : 48 ≤ x <;> simp [h] <;> omega
  have d4 : decide ((x : Int) ≤ 57) = decide (x ≤ 57) := by by_cases h : x ≤ 57 <;> simp [h] <;> omega
  generalize notR x = nr at *
  generalize hb1 : decide (97 ≤ x) = b1 at *
  generalize hb2 : decide (x ≤ 122) = b2 at *
  generalize hb3 : decide (48 ≤ x) = b3 at *
  generalize hb4 : decide (x ≤ 57) = b4 at *
  clear hx hb1 hb2 hb3 hb4
  cases b1 <;> cases b2 <;> cases b3 <;> cases b4 <;>
  · go_enter Tryd.func50, Tryd.ntmps50
    go_wp2_with fail
    go_ret
    exact ⟨by rw [HR.out]; rfl, 0, rfl⟩
theorem signs_none {r : List UInt8} (h : ∀ s ∈ signsI, Lib.hasPrefix r s = false) : signsI.find? (fun s => Lib.hasPrefix r s) = none := by
  rw [List.find?_eq_none]
  intro s hs
  rw [h s hs]; simp
theorem signs_some {r : List UInt8} {j : Nat} {s : List UInt8} (hs : signsI[j]? = some s) (h0 : ∀ t ∈ signsI.take j, Lib.hasPrefix r t = false) (h1 : Lib.hasPrefix r s = true) : signsI.find? (fun s => Lib.hasPrefix r s) = some s := by
  have hj := (List.getElem?_eq_some_iff.1 hs).1
  have e : signsI = signsI.take j ++ s :: signsI.drop (j + 1) := by
    conv => lhs; rw [← List.take_append_drop j signsI]
    rw [List.drop_eq_getElem_cons hj, (List.getElem?_eq_some_iff.1 hs).2]
  rw [e, List.find?_append]
  have : (signsI.take j).find? (fun s => Lib.hasPrefix r s) = none := by
    rw [List.find?_eq_none]; intro t ht; rw [h0 t ht]; simp
  rw [this]
  simp [h1]
theorem tok_sign {r : List UInt8} {j : Nat} {s : List UInt8} (hr : r ≠ []) (hs : signsI[j]? = some s) (h0 : ∀ t ∈ signsI.take j, Lib.hasPrefix r t = false) (h1 : Lib.hasPrefix r s = true) : tokI r = some s := by
  unfold tokI
  rw [if_neg hr, signs_some hs h0 h1]
theorem tok_rest {r : List UInt8} (hr : r ≠ []) (h0 : ∀ t ∈ signsI, Lib.hasPrefix r t = false) : tokI r = if r.takeWhile smallI = [] then none else some (r.takeWhile smallI) := by
  unfold tokI
  rw [if_neg hr, signs_none h0]

theorem sign_at (j : Nat) (t : List UInt8) (ht : signsI[j]? = some t) (x : World) : (Instr.index 79 (.agg #[.string ⟨#[33]⟩, .string ⟨#[38]⟩, .string ⟨#[94]⟩, .string ⟨#[124]⟩, .string ⟨#[45, 62]⟩, .string ⟨#[60, 45, 62]⟩, .string ⟨#[40]⟩, .string ⟨#[41]⟩, .string ⟨#[44]⟩]) (.int .i64 (j : Int))).run Tryd.prog x = .ok (.string ⟨t.toArray⟩) x := by
  have hj := (List.getElem?_eq_some_iff.1 ht).1
  have hc : j = 0 ∨ j = 1 ∨ j = 2 ∨ j = 3 ∨ j = 4 ∨ j = 5 ∨ j = 6 ∨ j = 7 ∨ j = 8 := by simp [signsI] at hj; omega
  rcases hc with rfl | rfl | rfl | rfl | rfl | rfl | rfl | rfl | rfl <;> (cases ht; change _ = _; kernel_rfl)

set_option maxHeartbeats 3200000 in
set_option maxRecDepth 100000 in
theorem gToken (l : List UInt8) (p : Nat) (hp : p ≤ l.length) (hl : l.length ≤ 1048576) (w : World) : Calls Tryd.prog 24 #[.string ⟨l.toArray⟩, .int .i64 (p : Int)] w fun e w' => e = tokE l p ∧ Below w.heap.size w w' := by
  obtain ⟨Post, hPost⟩ : ∃ P : Ending → World → Prop, P = fun e w' => e = tokE l p ∧ Below w.heap.size w w' := ⟨_, rfl⟩
  rw [← hPost]
  obtain ⟨hk1, hk2, hk3⟩ := bl_facts l p hp
  have HTE := Lib.hid (show tokE l p = match tokI (l.drop (nxtI l p)) with | some t => .returned (.tuple #[.string ⟨t.toArray⟩, .int .i64 (nxtI l p : Nat)]) | none => wrongE (nxtI l p) 5 from rfl)
  have hpk : p ≤ nxtI l p := Nat.le_add_right _ _
  obtain ⟨R, hR⟩ : ∃ R, R = tokE l p := ⟨_, rfl⟩
  rw [← hR] at HTE hPost
  have HP := Lib.hid hPost
  clear hR hPost
  obtain ⟨k, hk⟩ : ∃ k, k = nxtI l p := ⟨_, rfl⟩
  rw [← hk] at hk1 hk2 hk3 HTE hpk
  clear hk
  obtain ⟨r, hr⟩ : ∃ r, r = l.drop k := ⟨_, rfl⟩
  rw [← hr] at HTE
  obtain ⟨s, hs⟩ : ∃ s : ByteArray, s = ⟨l.toArray⟩ := ⟨_, rfl⟩
  obtain ⟨hsz, hG, -, -⟩ := ba_facts hs
  have hx := ext_list hs k s.size (by omega) (Nat.le_refl _)
  have HX := Lib.hid (show s.extract k s.size = ⟨r.toArray⟩ by rw [hx, hr, hsz, List.take_length])
  have hrl : r.length = l.length - k := by rw [hr, List.length_drop]
  have HK2 := Lib.hid (fun j (hj : p + j < k) (h : p + j < s.size) => show s[p + j] = 32 by
    have h1 := hG (p + j) h
    rw [hk2 j hj] at h1
    exact (Option.some.inj h1).symm)
  have HK3 := Lib.hid (fun (h : k < s.size) => show s[k] ≠ 32 from hk3 _ (hG k h))
  rw [← hs]
  have hsl : s.size = l.length := hsz
  clear hs hG hx hk2 hk3 hr
  go_enter Tryd.func24, Tryd.ntmps24
  go_wp2_with fail
  go_loopw [1] (fun t1 wr => ∃ j : Nat, p + j ≤ k ∧ t1 = .int .i64 ((p + j : Nat) : Int) ∧ wr = w) (fun t1 _ => k - (intOf t1).toNat)
  case atStart => exact ⟨0, hpk, rfl, rfl⟩
  case round =>
    obtain ⟨j, hj, rfl, rfl⟩ := hrel
    by_cases hlt : p + j < k
    · have hls : p + j < s.size := by omega
      have hdd : decide (((p + j : Nat) : Int) < (s.size : Int)) = true := decide_eq_true (by omega)
      have hdd2 : decide (p + j < s.size) = true := decide_eq_true hls
      have hb := HK2.out j hlt hls
      have h4 : ((s[p + j].toNat : Int) == 32) = true := by simp [hb]
      generalize hq : p + j = q at *
      clear hb
      go_wp2_with fail
      go_roundw
      case rel => exact ⟨j + 1, by omega, by rw [show p + (j + 1) = q + 1 by omega]; go_num, trivial⟩
      case measure => simp [intOf]; omega
    · have hjk : p + j = k := by omega
      rw [hjk]
      clear hlt hj
      by_cases hend : k = s.size
      · have hdd : decide ((k : Int) < (s.size : Int)) = false := decide_eq_false (by omega)
        have hdd2 : decide (k < s.size) = false := decide_eq_false (by omega)
        have hr0 : r = [] := List.length_eq_zero_iff.1 (by omega)
        have h := HTE.out
        rw [hr0, show tokI [] = some [] from rfl] at h
        have HR := Lib.hid h
        clear h
        go_wp2_with fail
        rw [HP.out, HR.out, show k = l.length by omega]
        exact ⟨rfl, Below.refl _ _⟩
      have hks : k < s.size := by omega
      have hdd : decide ((k : Int) < (s.size : Int)) = true := decide_eq_true (by omega)
      have hdd2 : decide (k < s.size) = true := decide_eq_true hks
      have hb := HK3.out hks
      have h4 : ((s[k].toNat : Int) == 32) = false := byte_no (n := 32) hb (by omega)
      have hrne : r ≠ [] := fun e => by rw [e] at hrl; simp at hrl; omega
      clear hb
      have hie : r.isEmpty = false := by simpa using hrne
      have HSZ := Lib.hid hsz
      clear hsz hsl hrl
      go_upto_region 4 with fail
      rw [HX.out]
      go_wp2_with fail
      have KH := Lib.hid (fun (t : List UInt8) (x : World) => (show Calls Tryd.prog 27 #[.string ⟨r.toArray⟩, .string ⟨t.toArray⟩] x fun e w' => e = .returned (.bool (Lib.hasPrefix r t)) ∧ w' = x from by
        have h := Tryd.strings_HasPrefix ⟨r.toArray⟩ ⟨t.toArray⟩ x
        simpa only [List.toList_toArray] using h))
      have HTS := Lib.hid (fun (j : Nat) (t : List UInt8) (hs : signsI[j]? = some t) (h0 : ∀ t ∈ signsI.take j, Lib.hasPrefix r t = false) (h1 : Lib.hasPrefix r t = true) => tok_sign hrne hs h0 h1)
      have HTR := Lib.hid (fun h0 => tok_rest hrne h0)
      clear hdd hdd2 h4
      go_loopw [29] (fun t29 wq => ∃ j : Nat, j ≤ 9 ∧ t29 = .int .i64 j ∧ Hid (∀ t ∈ signsI.take j, Lib.hasPrefix r t = false) ∧ wq = wr) (fun t29 _ => 9 - (intOf t29).toNat)
      case atStart => exact ⟨0, Nat.zero_le _, rfl, (fun t ht => by simp at ht), rfl⟩
      case round =>
        obtain ⟨i, hi, rfl, HI, rfl⟩ := hrel
        by_cases hi9 : i = 9
        · subst hi9
          have KF := Tryd.strings_IndexFunc_runes 50 #[] (enters_of Tryd.func50 (by kernel_rfl) rfl) notR ⟨r.toArray⟩ wr (small_pred wr)
          rw [idx_small] at KF
          have HT := HTR.out (fun t ht => HI.out t (by rw [List.take_of_length_le (by decide)]; exact ht))
          have hpre : r.takeWhile smallI = r.take (r.takeWhile smallI).length := (List.prefix_iff_eq_take.1 (List.takeWhile_prefix _))
          have hle := (List.takeWhile_prefix (l := r) smallI).length_le
          obtain ⟨tw, htw⟩ : ∃ tw, tw = r.takeWhile smallI := ⟨_, rfl⟩
          rw [← htw] at KF HT hpre hle
          have h := HTE.out
          rw [HT] at h
          clear htw HT HTR HTS KH
          rw [show ((9 : Nat) : Int) = 9 from rfl]
          by_cases hall : tw.length < r.length
          · rw [if_pos hall] at KF
            by_cases h0 : tw = []
            · rw [if_pos h0] at h
              have HR := Lib.hid h
              have hz : tw.length = 0 := by rw [h0]; rfl
              rw [hz, show ((0 : Nat) : Int) = 0 from rfl] at KF
              clear h hz h0 hall hpre hle
              go_wp2_with fail
              refine KF.mono ?_
              rintro e w3 ⟨rfl, hB⟩
              have HB := Lib.hid hB
              clear hB KF
              go_wp2_with fail
              rw [HP.out, HR.out]
              exact ⟨rfl, rfl, HB.out⟩
            · rw [if_neg h0] at h
              have HR := Lib.hid h
              have hm : 0 < tw.length := List.length_pos_iff.2 h0
              obtain ⟨s2, hs2⟩ : ∃ s2 : ByteArray, s2 = ⟨r.toArray⟩ := ⟨_, rfl⟩
              have hx2 := ext_list hs2 0 tw.length (Nat.zero_le _) (by rw [hs2, ba_size]; omega)
              rw [List.drop_zero, ← hpre] at hx2
              have HX2 := Lib.hid hx2
              have hsz2 : s2.size = r.length := by rw [hs2]; exact ba_size r
              rw [← hs2] at KF ⊢
              obtain ⟨m, hmm⟩ : ∃ m, m = tw.length := ⟨_, rfl⟩
              rw [← hmm] at KF hm hall hle HX2
              have HM := Lib.hid hmm
              have hd1 : decide ((m : Int) < 0) = false := decide_eq_false (by omega)
              have hd2 : ((m : Int) == 0) = false := beq_no (by omega)
              have hms : m ≤ s2.size := by omega
              clear h h0 hpre hs2 hx2 hmm hsz2 hall hle
              go_wp2_with fail
              refine KF.mono ?_
              rintro e w3 ⟨rfl, hB⟩
              have HB := Lib.hid hB
              clear hB KF
              go_wp2_with fail
              rw [HP.out, HR.out, HX2.out]
              exact ⟨rfl, HB.out⟩
          · rw [if_neg hall] at KF
            have htr : tw = r := by rw [hpre]; exact List.take_of_length_le (by omega)
            rw [htr, if_neg hrne] at h
            have HR := Lib.hid h
            clear h htr hall hpre hle
            go_wp2_with fail
            refine KF.mono ?_
            rintro e w3 ⟨rfl, hB⟩
            have HB := Lib.hid hB
            clear hB KF
            go_wp2_with fail
            rw [HP.out, HR.out]
            exact ⟨rfl, HB.out⟩
        have hj : i = 0 ∨ i = 1 ∨ i = 2 ∨ i = 3 ∨ i = 4 ∨ i = 5 ∨ i = 6 ∨ i = 7 ∨ i = 8 := by omega
        clear hi9 hi
        have HSTEP := Lib.hid (fun (t : List UInt8) (ht : signsI[i]? = some t) (h : Lib.hasPrefix r t = false) => show ∀ t ∈ signsI.take (i + 1), Lib.hasPrefix r t = false from fun u hu => by
          have hlt := (List.getElem?_eq_some_iff.1 ht).1
          rw [List.take_succ_eq_append_getElem hlt, List.mem_append, List.mem_singleton] at hu
          rcases hu with hu | rfl
          · exact HI.out u hu
          · rw [(List.getElem?_eq_some_iff.1 ht).2]; exact h)
        rcases hj with rfl | rfl | rfl | rfl | rfl | rfl | rfl | rfl | rfl
        · have K := KH.out [33] wr
          have hix := sign_at 0 [33] rfl
          rw [show ((0 : Nat) : Int) = 0 from rfl] at hix ⊢
          cases hq : Lib.hasPrefix r [33] with
          | true =>
            rw [hq] at K
            have h := HTE.out
            rw [HTS.out 0 [33] rfl HI.out hq] at h
            have HR := Lib.hid h
            clear h hq
            go_wp2_with fail
            refine K.mono ?_
            rintro e w3 ⟨rfl, rfl⟩
            go_wp2_with fail
            rw [HP.out, HR.out]
            exact ⟨rfl, Below.refl _ _⟩
          | false =>
            rw [hq] at K
            have HN := Lib.hid (HSTEP.out [33] rfl hq)
            clear hq
            go_wp2_with fail
            refine K.mono ?_
            rintro e w3 ⟨rfl, rfl⟩
            go_wp2_with fail
            go_roundw
            case rel => exact ⟨1, by omega, rfl, HN.out, trivial⟩
            case measure => simp [intOf]
        · have K := KH.out [38] wr
          have hix := sign_at 1 [38] rfl
          rw [show ((1 : Nat) : Int) = 1 from rfl] at hix ⊢
          cases hq : Lib.hasPrefix r [38] with
          | true =>
            rw [hq] at K
            have h := HTE.out
            rw [HTS.out 1 [38] rfl HI.out hq] at h
            have HR := Lib.hid h
            clear h hq
            go_wp2_with fail
            refine K.mono ?_
            rintro e w3 ⟨rfl, rfl⟩
            go_wp2_with fail
            rw [HP.out, HR.out]
            exact ⟨rfl, Below.refl _ _⟩
          | false =>
            rw [hq] at K
            have HN := Lib.hid (HSTEP.out [38] rfl hq)
            clear hq
            go_wp2_with fail
            refine K.mono ?_
            rintro e w3 ⟨rfl, rfl⟩
            go_wp2_with fail
            go_roundw
            case rel => exact ⟨2, by omega, rfl, HN.out, trivial⟩
            case measure => simp [intOf]
        · have K := KH.out [94] wr
          have hix := sign_at 2 [94] rfl
          rw [show ((2 : Nat) : Int) = 2 from rfl] at hix ⊢
          cases hq : Lib.hasPrefix r [94] with
          | true =>
            rw [hq] at K
            have h := HTE.out
            rw [HTS.out 2 [94] rfl HI.out hq] at h
            have HR := Lib.hid h
            clear h hq
            go_wp2_with fail
            refine K.mono ?_
            rintro e w3 ⟨rfl, rfl⟩
            go_wp2_with fail
            rw [HP.out, HR.out]
            exact ⟨rfl, Below.refl _ _⟩
          | false =>
            rw [hq] at K
            have HN := Lib.hid (HSTEP.out [94] rfl hq)
            clear hq
            go_wp2_with fail
            refine K.mono ?_
            rintro e w3 ⟨rfl, rfl⟩
            go_wp2_with fail
            go_roundw
            case rel => exact ⟨3, by omega, rfl, HN.out, trivial⟩
            case measure => simp [intOf]
        · have K := KH.out [124] wr
          have hix := sign_at 3 [124] rfl
          rw [show ((3 : Nat) : Int) = 3 from rfl] at hix ⊢
          cases hq : Lib.hasPrefix r [124] with
          | true =>
            rw [hq] at K
            have h := HTE.out
            rw [HTS.out 3 [124] rfl HI.out hq] at h
            have HR := Lib.hid h
            clear h hq
            go_wp2_with fail
            refine K.mono ?_
            rintro e w3 ⟨rfl, rfl⟩
            go_wp2_with fail
            rw [HP.out, HR.out]
            exact ⟨rfl, Below.refl _ _⟩
          | false =>
            rw [hq] at K
            have HN := Lib.hid (HSTEP.out [124] rfl hq)
            clear hq
            go_wp2_with fail
            refine K.mono ?_
            rintro e w3 ⟨rfl, rfl⟩
            go_wp2_with fail
            go_roundw
            case rel => exact ⟨4, by omega, rfl, HN.out, trivial⟩
            case measure => simp [intOf]
        · have K := KH.out [45, 62] wr
          have hix := sign_at 4 [45, 62] rfl
          rw [show ((4 : Nat) : Int) = 4 from rfl] at hix ⊢
          cases hq : Lib.hasPrefix r [45, 62] with
          | true =>
            rw [hq] at K
            have h := HTE.out
            rw [HTS.out 4 [45, 62] rfl HI.out hq] at h
            have HR := Lib.hid h
            clear h hq
            go_wp2_with fail
            refine K.mono ?_
            rintro e w3 ⟨rfl, rfl⟩
            go_wp2_with fail
            rw [HP.out, HR.out]
            exact ⟨rfl, Below.refl _ _⟩
          | false =>
            rw [hq] at K
            have HN := Lib.hid (HSTEP.out [45, 62] rfl hq)
            clear hq
            go_wp2_with fail
            refine K.mono ?_
            rintro e w3 ⟨rfl, rfl⟩
            go_wp2_with fail
            go_roundw
            case rel => exact ⟨5, by omega, rfl, HN.out, trivial⟩
            case measure => simp [intOf]
        · have K := KH.out [60, 45, 62] wr
          have hix := sign_at 5 [60, 45, 62] rfl
          rw [show ((5 : Nat) : Int) = 5 from rfl] at hix ⊢
          cases hq : Lib.hasPrefix r [60, 45, 62] with
          | true =>
            rw [hq] at K
            have h := HTE.out
            rw [HTS.out 5 [60, 45, 62] rfl HI.out hq] at h
            have HR := Lib.hid h
            clear h hq
            go_wp2_with fail
            refine K.mono ?_
            rintro e w3 ⟨rfl, rfl⟩
            go_wp2_with fail
            rw [HP.out, HR.out]
            exact ⟨rfl, Below.refl _ _⟩
          | false =>
            rw [hq] at K
            have HN := Lib.hid (HSTEP.out [60, 45, 62] rfl hq)
            clear hq
            go_wp2_with fail
            refine K.mono ?_
            rintro e w3 ⟨rfl, rfl⟩
            go_wp2_with fail
            go_roundw
            case rel => exact ⟨6, by omega, rfl, HN.out, trivial⟩
            case measure => simp [intOf]
        · have K := KH.out [40] wr
          have hix := sign_at 6 [40] rfl
          rw [show ((6 : Nat) : Int) = 6 from rfl] at hix ⊢
          cases hq : Lib.hasPrefix r [40] with
          | true =>
            rw [hq] at K
            have h := HTE.out
            rw [HTS.out 6 [40] rfl HI.out hq] at h
            have HR := Lib.hid h
            clear h hq
            go_wp2_with fail
            refine K.mono ?_
            rintro e w3 ⟨rfl, rfl⟩
            go_wp2_with fail
            rw [HP.out, HR.out]
            exact ⟨rfl, Below.refl _ _⟩
          | false =>
            rw [hq] at K
            have HN := Lib.hid (HSTEP.out [40] rfl hq)
            clear hq
            go_wp2_with fail
            refine K.mono ?_
            rintro e w3 ⟨rfl, rfl⟩
            go_wp2_with fail
            go_roundw
            case rel => exact ⟨7, by omega, rfl, HN.out, trivial⟩
            case measure => simp [intOf]
        · have K := KH.out [41] wr
          have hix := sign_at 7 [41] rfl
          rw [show ((7 : Nat) : Int) = 7 from rfl] at hix ⊢
          cases hq : Lib.hasPrefix r [41] with
          | true =>
            rw [hq] at K
            have h := HTE.out
            rw [HTS.out 7 [41] rfl HI.out hq] at h
            have HR := Lib.hid h
            clear h hq
            go_wp2_with fail
            refine K.mono ?_
            rintro e w3 ⟨rfl, rfl⟩
            go_wp2_with fail
            rw [HP.out, HR.out]
            exact ⟨rfl, Below.refl _ _⟩
          | false =>
            rw [hq] at K
            have HN := Lib.hid (HSTEP.out [41] rfl hq)
            clear hq
            go_wp2_with fail
            refine K.mono ?_
            rintro e w3 ⟨rfl, rfl⟩
            go_wp2_with fail
            go_roundw
            case rel => exact ⟨8, by omega, rfl, HN.out, trivial⟩
            case measure => simp [intOf]
        · have K := KH.out [44] wr
          have hix := sign_at 8 [44] rfl
          rw [show ((8 : Nat) : Int) = 8 from rfl] at hix ⊢
          cases hq : Lib.hasPrefix r [44] with
          | true =>
            rw [hq] at K
            have h := HTE.out
            rw [HTS.out 8 [44] rfl HI.out hq] at h
            have HR := Lib.hid h
            clear h hq
            go_wp2_with fail
            refine K.mono ?_
            rintro e w3 ⟨rfl, rfl⟩
            go_wp2_with fail
            rw [HP.out, HR.out]
            exact ⟨rfl, Below.refl _ _⟩
          | false =>
            rw [hq] at K
            have HN := Lib.hid (HSTEP.out [44] rfl hq)
            clear hq
            go_wp2_with fail
            refine K.mono ?_
            rintro e w3 ⟨rfl, rfl⟩
            go_wp2_with fail
            go_roundw
            case rel => exact ⟨9, by omega, rfl, HN.out, trivial⟩
            case measure => simp [intOf]
end Go.Proofs.YtmaiofimmjedjaaDoor
