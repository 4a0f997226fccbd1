/- The reference's number: what digits read. -/
import Derived.Test.YtchamkbnapjidaaDoorKP
import Derived.Test.YtchamkbnapjidaaDoorKZa
import Derived.Deep.DeepCutAuto
namespace Go.Proofs.YtchamkbnapjidaaDoor
open Go.RowKit

theorem digs_lt {l : List UInt8} {k : Nat} (h : ∀ c ∈ l.take k, isDig c = true) (h10 : k ≤ 10) : decV (l.take k) < 10000000000 := by
  have h1 := decV_lt _ _ rfl h
  have h2 : (l.take k).length ≤ 10 := by rw [List.length_take]; omega
  have h3 : (10 : Nat) ^ (l.take k).length ≤ 10 ^ 10 := Nat.pow_le_pow_right (by omega) h2
  have e : (10 : Nat) ^ 10 = 10000000000 := by decide
  omega
theorem numR_zero {l x : List UInt8} (hx : x = if numS l then l.drop 1 else l) (h : x.all isDig = false ∨ 10 < x.length) : numR l = 0 := by
  unfold numR
  simp only [← hx]
  rw [if_neg]
  rcases h with h | h
  · rw [h]; simp
  · have : decide (x.length ≤ 10) = false := by simp; omega
    rw [this]; simp
theorem numR_dig {l x : List UInt8} (hx : x = if numS l then l.drop 1 else l) (h : ∀ c ∈ x, isDig c = true) (h10 : x.length ≤ 10) : numR l = (if numS l then (-1 : Int) else 1) * ((decV x : Nat) : Int) := by
  unfold numR
  simp only [← hx]
  rw [if_pos]
  rw [List.all_eq_true.2 h, decide_eq_true h10]; rfl
theorem not_dig {x : List UInt8} {c : UInt8} (h : c ∈ x) (hc : isDig c = false) : x.all isDig = false := by
  rw [Bool.eq_false_iff]
  intro ha
  rw [List.all_eq_true.1 ha c h] at hc; cases hc

set_option maxHeartbeats 1600000 in
set_option maxRecDepth 100000 in
theorem xNumber (l : List UInt8) (hl : l.length ≤ 5000) : Gives 41 #[.string ⟨l.toArray⟩] (.int .i64 (numR l)) := by
  intro w
  obtain ⟨x, hx⟩ : ∃ x, x = if numS l then l.drop 1 else l := ⟨_, rfl⟩
  have HZ := Lib.hid (numR_zero hx)
  have HD := Lib.hid (numR_dig hx)
  have hxl : x.length ≤ 5000 := by
    rw [hx]; split
    · rw [List.length_drop]; omega
    · exact hl
  obtain ⟨sg, hsg⟩ : ∃ sg : Int, sg = if numS l then -1 else 1 := ⟨_, rfl⟩
  rw [← hsg] at HD
  have HX := Lib.hid hx
  have HS := Lib.hid hsg
  have hsb : -1 ≤ sg ∧ sg ≤ 1 := by rw [hsg]; split <;> omega
  obtain ⟨s, hs⟩ : ∃ s : ByteArray, s = ⟨l.toArray⟩ := ⟨_, rfl⟩
  have hsz : s.size = l.length := by rw [hs]; exact ba_size l
  have HH := Lib.hid (show ∀ h : 0 < s.size, l.head? = some s[0] from fun h => by
    subst hs
    cases l with
    | nil => simp [ba_size] at h
    | cons a l => rfl)
  have HU := Lib.hid (show (⟨(l.drop 1).toArray⟩ : ByteArray) = s.extract 1 s.size by
    rw [hs, ba_size]; apply ByteArray.ext; simp only [ByteArray.data_extract, List.extract_toArray, List.extract_eq_take_drop]; rw [List.take_of_length_le (by rw [List.length_drop]; omega)])
  rw [← hs]
  have HL0 := Lib.hid (show s.size = 0 → l = [] from fun h => List.length_eq_zero_iff.1 (by omega))
  have HSE := Lib.hid hs
  have hsl : s.size ≤ 5000 := by omega
  clear hx hsg hs hsz
  go_enter Tryd.func41, Tryd.ntmps41
  go_upto_region 2 with fail
  go_cut [13] (fun t13 wx => t13 = .bool (numS l) ∧ (numS l = true → 0 < s.size) ∧ w = wx)
  case first =>
    by_cases h0 : 0 < s.size
    · have hdd : decide (0 < s.size) = true := by simpa using h0
      have hh := HH.out h0
      by_cases h45 : s[0] = 45
      · have h4 : ((s[0].toNat : Int) == 45) = true := by simp [h45]
        have HN := Lib.hid (show numS l = true by unfold numS; rw [hh, h45]; rfl)
        clear h45 hh
        go_wp2_with fail
        go_meet
        case rel => exact ⟨by rw [HN.out]; try rfl, fun _ => h0, rfl⟩
      · have h4 : ((s[0].toNat : Int) == 45) = false := by
          rw [beq_eq_false_iff_ne]
          intro h; apply h45; apply UInt8.toNat_inj.1; show s[0].toNat = 45; omega
        have HN := Lib.hid (show numS l = false by unfold numS; rw [hh, decide_eq_false]; intro e; exact h45 (Option.some.inj e))
        clear h45 hh
        go_wp2_with fail
        go_meet
        case rel => exact ⟨by rw [HN.out]; try rfl, fun _ => h0, rfl⟩
    · have hdd : decide (0 < s.size) = false := by simpa using h0
      have HN := Lib.hid (show numS l = false by rw [HL0.out (by omega)]; rfl)
      go_wp2_with fail
      go_meet
      case rel => exact ⟨by rw [HN.out]; try rfl, fun h => (by rw [HN.out] at h; cases h), rfl⟩
  case rest =>
  obtain ⟨rfl, hs0, rfl⟩ := hcut
  go_upto_if 13 with fail
  go_cut [3, 0] (fun t3 t0 wx => t3 = .int .i64 sg ∧ t0 = .string ⟨x.toArray⟩ ∧ w = wx)
  case first =>
    cases hb : numS l with
    | true =>
      have hs1 := hs0 hb
      have HA := Lib.hid (HS.out.trans (by rw [hb, if_pos rfl]))
      have HB := Lib.hid (HX.out.trans (by rw [hb, if_pos rfl]))
      clear hb hs0
      go_wp2_with fail
      go_meet
      case rel => exact ⟨by rw [HA.out], by rw [HB.out, HU.out], rfl⟩
    | false =>
      have HA := Lib.hid (HS.out.trans (by rw [hb, if_neg (by simp)]))
      have HB := Lib.hid (HX.out.trans (by rw [hb, if_neg (by simp)]))
      clear hb hs0
      go_wp2_with fail
      go_meet
      case rel => exact ⟨by rw [HA.out], by rw [HB.out, HSE.out], rfl⟩
  case rest =>
  obtain ⟨rfl, rfl, rfl⟩ := hcut
  clear HH HU HL0 HSE hsl hs0 HX HS
  obtain ⟨y, hy⟩ : ∃ y : ByteArray, y = ⟨x.toArray⟩ := ⟨_, rfl⟩
  have hyz : y.size = x.length := by rw [hy]; exact ba_size x
  have HG := Lib.hid (show ∀ k (h : k < y.size), x[k]? = some y[k] from fun k h => by
    subst hy
    rw [List.getElem?_eq_getElem (by rw [ba_size] at h; exact h)]; rfl)
  rw [← hy]
  have hyl : y.size ≤ 5000 := by omega
  have HY := Lib.hid hyz
  clear hy hyz hxl
  go_wp2_with fail
  go_loopw [5, 4] (fun t5 t4 wr => ∃ (k v : Nat), k ≤ y.size ∧ t5 = .int .i64 k ∧ t4 = .int .i64 v ∧ v < 10000000000 ∧ (k = 0 ∨ y.size ≤ 10) ∧ Hid (decV (x.take k) = v) ∧ Hid (∀ c ∈ x.take k, isDig c = true) ∧ Hid (Below w.heap.size w wr)) (fun t5 _ _ => y.size - (intOf t5).toNat)
  case atStart => exact ⟨0, 0, Nat.zero_le _, rfl, rfl, by omega, .inl rfl, by simp [decV, Hid], by simp [Hid], Below.refl _ _⟩
  case round =>
    obtain ⟨k, v, hk, rfl, rfl, hv, hk0, HV, HC, HB⟩ := hrel
    by_cases hlt : k < y.size
    · have hdd : decide (k < y.size) = true := by simpa using hlt
      by_cases h10 : 10 < y.size
      · have h1 : decide (10 < y.size) = true := by simpa using h10
        have h2 : decide ((10 : Int) < (y.size : Int)) = true := by simp; omega
        have HF := Lib.hid (HZ.out (.inr (by have := HY.out; omega)))
        go_wp2_with fail
        go_ret
        exact ⟨by rw [HF.out]; rfl, HB.out⟩
      have h1 : decide (10 < y.size) = false := by simpa using h10
      have h2 : decide ((10 : Int) < (y.size : Int)) = false := by simp; omega
      have hget := HG.out k hlt
      have HM := Lib.hid (show y[k] ∈ x from List.mem_of_getElem? hget)
      have htk : x.take (k + 1) = x.take k ++ [y[k]] := by rw [List.take_add_one, hget]; rfl
      by_cases hlo : y[k].toNat < 48
      · have h3 : decide ((y[k].toNat : Int) < 48) = true := by simp; omega
        have HF := Lib.hid (HZ.out (.inl (not_dig HM.out (by simp [isDig]; omega))))
        clear htk hget
        go_wp2_with fail
        go_ret
        exact ⟨by rw [HF.out]; rfl, HB.out⟩
      have h3 : decide ((y[k].toNat : Int) < 48) = false := by simp; omega
      by_cases hhi : 57 < y[k].toNat
      · have h5 : decide ((57 : Int) < (y[k].toNat : Int)) = true := by simp; omega
        have HF := Lib.hid (HZ.out (.inl (not_dig HM.out (by simp [isDig]; omega))))
        clear htk hget
        go_wp2_with fail
        go_ret
        exact ⟨by rw [HF.out]; rfl, HB.out⟩
      have h5 : decide ((57 : Int) < (y[k].toNat : Int)) = false := by simp; omega
      have hdc : ∀ c ∈ x.take (k + 1), isDig c = true := fun c hc => by
        rw [htk] at hc
        rcases List.mem_append.1 hc with hc | hc
        · exact HC.out c hc
        · rw [List.mem_singleton.1 hc]; simp [isDig]; omega
      have hlt2 := digs_lt hdc (by omega)
      have hdv : decV (x.take (k + 1)) = v * 10 + (y[k].toNat - 48) := by rw [htk, decV_snoc, HV.out]
      have HDV := Lib.hid hdv
      have HDC := Lib.hid hdc
      have hlt3 : v * 10 + (y[k].toNat - 48) < 10000000000 := by rw [← hdv]; exact hlt2
      clear htk hget hdc hlt2 hdv
      go_wp2_with fail
      go_roundw
      case rel => exact ⟨k + 1, v * 10 + (y[k].toNat - 48), by omega, by go_num, by congr 1; omega, hlt3, by omega, HDV.out, HDC.out, HB.out⟩
      case measure => simp [intOf]; omega
    · obtain rfl : k = y.size := by omega
      have hdd : decide (y.size < y.size) = false := by simp
      have HF := Lib.hid (HD.out (fun c hc => HC.out c (by rw [HY.out, List.take_length]; exact hc)) (by
        have := HY.out
        rcases hk0 with h | h
        · omega
        · omega))
      have HE : decV x = v := by have := HV.out; rw [HY.out, List.take_length] at this; exact this
      rw [HE] at HF
      have hb1 : -10000000000 ≤ sg * (v : Int) ∧ sg * (v : Int) ≤ 10000000000 := by
        rcases (show sg = -1 ∨ sg = 0 ∨ sg = 1 by omega) with h | h | h <;> subst h <;> omega
      go_wp2_with fail
      go_ret
      exact ⟨by rw [HF.out]; rfl, HB.out⟩
end Go.Proofs.YtchamkbnapjidaaDoor
