/- Texts of this claim, joined: RefB, ZGive, VXRead, BGive. -/
import Derived.Test.YtbacloneddnaeaaE32
import Derived.Deep.QuietTactic
import Derived.BigQuiet
import Derived.Deep.LoopGhost
import Derived.Test.YtbacloneddnaeaaE15
import Derived.Test.YtbacloneddnaeaaE29
import Derived.Test.YtbacloneddnaeaaE34

/- The reference of chapter 01: Mul, Div, Gcd. -/
namespace Go.Proofs.Ytbacloneddnaeaa
open Go.RowKit Num

theorem digs_set (B : Nat) : ∀ (l : List Nat) (j v : Nat), j < l.length → digs B (l.set j v) + B ^ j * l.getD j 0 = digs B l + B ^ j * v
  | [], j, v, h => by simp at h
  | d :: l, 0, v, _ => by simp [digs_cons]; omega
  | d :: l, j + 1, v, h => by
    have ih := digs_set B l j v (by simpa using h)
    simp only [List.set_cons_succ, List.getD_cons_succ, digs_cons, Nat.pow_succ]
    have e1 : B ^ j * B * l.getD j 0 = B * (B ^ j * l.getD j 0) := by grind
    have e2 : B ^ j * B * v = B * (B ^ j * v) := by grind
    rw [e1, e2]
    have : B * (digs B (l.set j v) + B ^ j * l.getD j 0) = B * (digs B l + B ^ j * v) := by rw [ih]
    rw [Nat.mul_add, Nat.mul_add] at this
    omega

theorem allLt_set {l : List Nat} (h : AllLt 10 l) (j v : Nat) (hv : v < 10) : AllLt 10 (l.set j v) := fun d hd => by
  rcases List.mem_or_eq_of_mem_set hd with h1 | h1
  · exact h d h1
  · omega

theorem getD_set_other' {l : List Nat} {i j v : Nat} (h : i ≠ j) : (l.set i v).getD j 0 = l.getD j 0 := by
  rw [List.getD_eq_getElem?_getD, List.getD_eq_getElem?_getD, List.getElem?_set_ne h]

theorem xmul_step {a b i k c : Nat} {M : List Nat} (hj : i + k < M.length) (h : digs 10 M + 10 ^ (i + k) * c = a % 10 ^ i * b + 10 ^ i * dgt a i * (b % 10 ^ k)) :
    digs 10 (M.set (i + k) ((M.getD (i + k) 0 + dgt a i * dgt b k + c) % 10)) + 10 ^ (i + (k + 1)) * ((M.getD (i + k) 0 + dgt a i * dgt b k + c) / 10) = a % 10 ^ i * b + 10 ^ i * dgt a i * (b % 10 ^ (k + 1)) := by
  have hs := digs_set 10 M (i + k) ((M.getD (i + k) 0 + dgt a i * dgt b k + c) % 10) hj
  rw [mod_succ b k]
  have e := Nat.mod_add_div (M.getD (i + k) 0 + dgt a i * dgt b k + c) 10
  generalize (M.getD (i + k) 0 + dgt a i * dgt b k + c) % 10 = u at *
  generalize (M.getD (i + k) 0 + dgt a i * dgt b k + c) / 10 = v at *
  generalize digs 10 (M.set (i + k) u) = D at *
  generalize digs 10 M = D0 at *
  generalize M.getD (i + k) 0 = m at *
  generalize dgt a i = x at *
  generalize dgt b k = y at *
  generalize a % 10 ^ i * b = r at *
  generalize b % 10 ^ k = s at *
  rw [show i + (k + 1) = (i + k) + 1 by omega, Nat.pow_succ]
  have ep : (10 : Nat) ^ (i + k) = 10 ^ i * 10 ^ k := Nat.pow_add 10 i k
  have e1 : 10 ^ i * x * (s + 10 ^ k * y) = 10 ^ i * x * s + 10 ^ (i + k) * (x * y) := by rw [ep]; grind
  rw [e1]
  generalize 10 ^ (i + k) = t at *
  generalize 10 ^ i * x * s = q at *
  have e2 : t * m + t * (x * y) + t * c = t * u + t * 10 * v := by
    have : t * (m + x * y + c) = t * (u + 10 * v) := by rw [e]
    grind
  omega

theorem mul_acc (a b i : Nat) : a % 10 ^ i * b + 10 ^ i * dgt a i * b = a % 10 ^ (i + 1) * b := by
  rw [mod_succ]; grind

set_option maxHeartbeats 3200000 in
set_option maxRecDepth 100000 in
theorem xmul_any (a b : Nat) (ha : (dec a).size ≤ 536870912) (hb : (dec b).size ≤ 536870912) (w : World) :
    Calls Try.prog 104 #[.string (dec a), .string (dec b)] w fun e w' => e = .returned (.string (dec (a * b))) ∧ Below w.heap.size w w' := by
  obtain ⟨i0, hi, hz0, hz1, hz2⟩ := info_parts Try.infoInt
  have HDA := Lib.hid (digOf a (by omega))
  have HDB := Lib.hid (digOf b (by omega))
  have HMA := Lib.hid (mod_beyond a (dec a).size (by rw [← dec_size]; exact Nat.le_refl _))
  have HMB := Lib.hid (fun i (h : (dec b).size ≤ i) => mod_beyond b i (by rw [← dec_size]; exact h))
  have HZB := Lib.hid (fun i (h : (dec b).size ≤ i) => dgt_beyond b i (by rw [← dec_size]; exact h))
  generalize dec a = sA at *
  generalize dec b = sB at *
  go_enter Try.func104, Try.ntmps104
  go_wp2_with (at_make; refine wpList_make_full _ rfl (.tmp 15) (.tmp 15) 30 rfl w.heap.size 3 i0 (.int .i64 0) 1 Try.underlying30 hi hz0 hz1 .i64 .i64 _ _ (sA.size + sB.size + 1) rfl rfl (by omega) (by omega) (by rw [hz2]; omega) (by unfold maxLen; omega) (Nat.le_refl _) ?_)
  intro w1 hown hgr
  have hRo := Row.ofOwns hown
  rw [iis_zeros] at hRo
  have HRo := Lib.hid hRo
  have HB1 := Lib.hid (grown_below hgr (Nat.le_refl _) (by simp) : Below w.heap.size w w1)
  clear hown hgr hRo
  go_wp2_with fail
  go_loopw [6] (fun iv wr => ∃ (i : Nat) (O : List Nat), i ≤ sA.size ∧ iv = .int .i64 (i : Nat) ∧ Hid (Row wr w.heap.size 3 (iis O)) ∧ Hid (O.length = sA.size + sB.size + 1) ∧ Hid (AllLt 10 O) ∧ Hid (digs 10 O = a % 10 ^ i * b) ∧
      Hid (∀ j, i + sB.size ≤ j → O.getD j 0 = 0) ∧ Hid (Below w.heap.size w wr))
    (fun iv _ => sA.size - (intOf iv).toNat)
  case atStart =>
    exact ⟨0, List.replicate (sA.size + sB.size + 1) 0, Nat.zero_le _, rfl, HRo, by simp [Hid], AllLt.zeros (by decide) _, by simp [Hid, digs_zeros, Nat.mod_one], fun j _ => by
      rw [List.getD_eq_getElem?_getD, List.getElem?_replicate]; split <;> rfl, HB1⟩
  case round =>
    obtain ⟨i, O, hik, rfl, HR, HOl, HOlt, HOd, HOz, HBB⟩ := hrel
    clear HRo HB1
    by_cases hlt : i < sA.size
    · have hx := dgt_lt a i
      have KA := Lib.hid (HDA.out i (by omega))
      have HST := Lib.hid (fun (k c : Nat) (M : List Nat) => xmul_step (a := a) (b := b) (i := i) (k := k) (c := c) (M := M))
      have HACC := Lib.hid (mul_acc a b i)
      generalize dgt a i = x at *
      obtain ⟨wo, rfl⟩ : ∃ wo : World, wo = wr := ⟨_, rfl⟩
      go_wp2_with fail
      go_loopw [7, 8] (fun cv kv wr => ∃ (k c : Nat) (M : List Nat), k ≤ sB.size + 1 ∧ kv = .int .i64 (k : Nat) ∧ cv = .int .i64 (c : Nat) ∧ c < 10 ∧ (k = sB.size + 1 → c = 0) ∧ Hid (Row wr w.heap.size 3 (iis M)) ∧ Hid (M.length = sA.size + sB.size + 1) ∧ Hid (AllLt 10 M) ∧
          Hid (digs 10 M + 10 ^ (i + k) * c = a % 10 ^ i * b + 10 ^ i * x * (b % 10 ^ k)) ∧ Hid (k ≤ sB.size → ∀ j, i + sB.size ≤ j → M.getD j 0 = 0) ∧ Hid (∀ j, i + 1 + sB.size ≤ j → M.getD j 0 = 0) ∧ Hid (Below w.heap.size w wr))
        (fun _ kv _ => sB.size + 2 - (intOf kv).toNat)
      case atStart => exact ⟨0, 0, O, by omega, rfl, rfl, by omega, by omega, HR, HOl, HOlt, by unfold Hid; rw [HOd.out]; simp [Nat.mod_one], fun _ => HOz.out, fun j hj => HOz.out j (by omega), HBB⟩
      case round =>
        obtain ⟨k, c, M, hk, rfl, rfl, hc10, hkc, HR2, HMl, HMlt, HMd, HMz, HMz2, HB2⟩ := hrel
        clear HR HBB HOz HOd HOlt HOl
        by_cases hgo : k < sB.size ∨ 0 < c
        · have hk2 : k ≤ sB.size := by
            rcases Nat.lt_or_ge sB.size k with h | h
            · have := hkc (by omega); omega
            · exact h
          have hjl : i + k < M.length := by rw [HMl.out]; omega
          have hy := dgt_lt b k
          have hm := HMlt.out.getD (by decide) (i + k)
          have HS := Lib.hid (HST.out k c M hjl HMd.out)
          have hc1 : wr.cell? ⟨w.heap.size, i + k, none⟩ = some (.int .i64 (M.getD (i + k) 0 : Nat)) := HR2.out.cell (iis_getD hjl)
          have hfr := HR2.out.free (i + k)
          have KB := Lib.hid (HDB.out k (by omega))
          have HLAST : Hid (k = sB.size → (M.getD (i + k) 0 + x * dgt b k + c) / 10 = 0) := fun h => by
            rw [HMz.out hk2 (i + k) (by omega), HZB.out k (by omega), Nat.mul_zero]; omega
          have HSET := Lib.hid (fun (v j : Nat) (h : i + k ≠ j) => getD_set_other' (l := M) (v := v) h)
          generalize M.getD (i + k) 0 = m at *
          generalize dgt b k = y at *
          obtain ⟨p, hp⟩ : ∃ p : Nat, p = x * y := ⟨_, rfl⟩
          have hpI : (x : Int) * y = p := by rw [hp]; simp
          have hp2 : p ≤ 9 * 9 := by rw [hp]; exact Nat.mul_le_mul (by omega) (by omega)
          rw [← hp] at HS HLAST
          clear hp hkc
          have KAq : ∀ n, Calls Try.prog 117 #[.string sA, .int .i64 (i : Nat)] (wr.drewN n) fun e w'' => e = .returned (.int .i64 (x : Nat)) ∧ ∃ m, w'' = wr.drewN m := fun n => (KA.out _).mono fun _ _ ⟨h1, h2⟩ => ⟨h1, n, h2.symm⟩
          have KBq : ∀ n, Calls Try.prog 117 #[.string sB, .int .i64 (k : Nat)] (wr.drewN n) fun e w'' => e = .returned (.int .i64 (y : Nat)) ∧ ∃ m, w'' = wr.drewN m := fun n => (KB.out _).mono fun _ _ ⟨h1, h2⟩ => ⟨h1, n, h2.symm⟩
          have KAQ := Lib.hid KAq
          have KBQ := Lib.hid KBq
          clear KAq KBq
          have hcase : k < sB.size ∨ (¬ k < sB.size ∧ 0 < c) := by omega
          clear hgo
          rcases hcase with h1 | ⟨h1, h2⟩
          all_goals
            go_wp2_with fail
            go_quiet ((first | with_reducible exact KAQ.out _ | with_reducible exact KBQ.out _))
            go_wp2_with fail
            go_roundw
            case rel =>
              refine ⟨k + 1, (m + p + c) / 10, M.set (i + k) ((m + p + c) % 10), by omega, by go_num, by go_num, by omega, fun h => HLAST.out (by omega), ?_, by unfold Hid; rw [List.length_set]; exact HMl.out, allLt_set HMlt.out _ _ (Nat.mod_lt _ (by omega)), HS.out, ?_, ?_, (HB2.out.drewN _).setCell (by simp) _⟩
              · have := (HR2.out.drewN nq).set (i + k) (.int .i64 ((m + p + c) % 10 : Nat))
                rw [iis_set] at this
                unfold Hid
                simpa using this
              · intro hk3 j hj
                rw [HSET.out _ j (by omega)]; exact HMz.out hk2 j hj
              · intro j hj
                rw [HSET.out _ j (by omega)]; exact HMz2.out j hj
            case measure => simp [intOf]; omega
        · have h1 : ¬ k < sB.size := fun h => hgo (.inl h)
          have h2 : ¬ 0 < c := fun h => hgo (.inr h)
          have HE : Hid (digs 10 M = a % 10 ^ (i + 1) * b) := by
            have := HMd.out
            rw [HMB.out k (by omega), show c = 0 by omega, Nat.mul_zero, Nat.add_zero] at this
            exact this.trans HACC.out
          clear hgo hkc
          go_wp2_with fail
          go_roundw
          case rel => exact ⟨i + 1, M, by omega, by go_num, HR2, HMl, HMlt, HE, HMz2, HB2⟩
          case measure => simp [intOf]; omega
    · obtain rfl : i = sA.size := by omega
      have HE : Hid (digs 10 O = a * b) := by
        have := HOd.out
        rw [HMA.out] at this
        exact this
      go_wp2_with fail
      refine (form_any (some ⟨w.heap.size, 0, none⟩) O (sA.size + sB.size + 1) (sA.size + sB.size + 1) HOl.out HOlt.out (by omega) wr (CellsI.ofRow HR.out)).mono ?_
      rintro e w2 ⟨rfl, hB2⟩
      have HB2 := Lib.hid (below_form HBB.out hB2)
      clear hB2
      rw [HE.out]
      go_wp2_with fail
      go_ret
      exact ⟨rfl, HB2.out⟩

theorem dec_size_le (x k : Nat) (hk : 0 < k) (h : x < 10 ^ k) : (dec x).size ≤ k := by
  rw [dec_size]; exact decL_length_le x k hk h
theorem dec_size_pos (x : Nat) : 0 < (dec x).size := by rw [dec_size]; exact decL_pos x
theorem lt_dec_size (x : Nat) : x < 10 ^ (dec x).size := by rw [dec_size]; exact decL_high x
theorem dec_size_mono {x y : Nat} (h : x ≤ y) : (dec x).size ≤ (dec y).size := dec_size_le x _ (dec_size_pos y) (Nat.lt_of_le_of_lt h (lt_dec_size y))
theorem dec_size_ten {x y : Nat} (h : x < 10 * y) : (dec x).size ≤ (dec y).size + 1 := by
  refine dec_size_le x _ (by omega) ?_
  have := lt_dec_size y
  rw [Nat.pow_succ]; omega
theorem dec10 : ({ data := #[49, 48] } : ByteArray) = dec 10 := by kernel_rfl
theorem dec_toList_ne {b : Nat} (h : b ≠ 0) : ((dec b).toList == [48]) = false := by
  rw [beq_eq_false_iff_ne]
  intro e
  have h3 : (dec 0).toList = [48] := by
    unfold dec
    rw [toList_mkStr]; rfl
  rw [← h3, ByteArray.toList_eq, ByteArray.toList_eq] at e
  apply h
  apply dec_inj
  generalize dec b = x at *
  generalize dec 0 = y at *
  cases x; cases y
  simpa using Array.toList_inj.1 e

theorem div_digit (a b j : Nat) (hb : 0 < b) : 10 * (a / 10 ^ (j + 1) % b) + dgt a j < 10 * b ∧
    a / 10 ^ j / b = 10 * (a / 10 ^ (j + 1) / b) + (10 * (a / 10 ^ (j + 1) % b) + dgt a j) / b ∧ a / 10 ^ j % b = (10 * (a / 10 ^ (j + 1) % b) + dgt a j) % b := by
  have h1 : a / 10 ^ j = 10 * (a / 10 ^ (j + 1)) + dgt a j := by
    unfold dgt
    rw [Nat.pow_succ, ← Nat.div_div_eq_div_mul]
    have := Nat.mod_add_div (a / 10 ^ j) 10
    omega
  have hd := dgt_lt a j
  generalize dgt a j = x at *
  generalize a / 10 ^ (j + 1) = u at *
  have hm := Nat.mod_lt u hb
  have e := Nat.mod_add_div u b
  have h2 : a / 10 ^ j = b * (10 * (u / b)) + (10 * (u % b) + x) := by
    rw [h1]
    have : 10 * u = 10 * (u % b) + b * (10 * (u / b)) := by
      have : 10 * (u % b + b * (u / b)) = 10 * u := by rw [e]
      grind
    omega
  refine ⟨by omega, ?_, ?_⟩
  · rw [h2, Nat.mul_add_div hb]
  · rw [h2, Nat.mul_add_mod]

theorem inner_end {t q b : Nat} (_hb : 0 < b) (h1 : q * b ≤ t) (h2 : t - q * b < b) : q = t / b ∧ t - q * b = t % b := by
  have h3 : t / b = q := Nat.div_eq_of_lt_le h1 (by rw [Nat.succ_mul]; omega)
  refine ⟨h3.symm, ?_⟩
  have := Nat.mod_add_div t b
  rw [h3, Nat.mul_comm] at this
  omega

theorem div_acc (Q j q : Nat) : Q * 10 ^ (j + 1) + 10 ^ j * q = (10 * Q + q) * 10 ^ j := by
  rw [Nat.pow_succ]; grind

theorem cmp_nonneg {x y : Nat} : 0 ≤ cmpI x y ↔ y ≤ x := by
  unfold cmpI
  constructor
  · intro h; split at h
    · omega
    · split at h <;> omega
  · intro h; split
    · omega
    · split <;> omega

set_option maxHeartbeats 1000000 in
set_option maxRecDepth 100000 in
theorem xdiv_pos (a b : Nat) (ha : (dec a).size ≤ 100000000) (hb : (dec b).size ≤ 100000000) (h0 : 0 < b) (w : World) :
    Calls Try.prog 116 #[.string (dec a), .string (dec b)] w fun e w' => e = .returned (.tuple #[.string (dec (a / b)), .string (dec (a % b)), .bool true]) ∧ Below w.heap.size w w' := by
  obtain ⟨i0, hi, hz0, hz1, hz2⟩ := info_parts Try.infoInt
  have HDA := Lib.hid (digOf a (by omega))
  have HDIG := Lib.hid (fun j => div_digit a b j h0)
  have HTOP : Hid (a / 10 ^ (dec a).size = 0) := Nat.div_eq_of_lt (lt_dec_size a)
  have hbz := dec_toList_ne (b := b) (by omega)
  have HSB := Lib.hid (fun (x : Nat) (h : x < 10 * b) => dec_size_ten (x := x) (y := b) h)
  have HSM := Lib.hid (fun (x : Nat) (h : x ≤ b) => dec_size_mono h)
  have HCMP := Lib.hid (fun x w => xcmp_any x b w)
  have HSUB := Lib.hid (fun (x : Nat) (hx : (dec x).size ≤ 1073741824) (h : b ≤ x) (w : World) => xsub_geq x b hx (by omega) h w)
  have H0 := Lib.hid h0
  clear h0
  generalize dec a = sA at *
  generalize dec b = sB at *
  go_enter Try.func116, Try.ntmps116
  go_wp2_with (at_make; refine wpList_make_full _ rfl (.tmp 13) (.tmp 13) 30 rfl w.heap.size 3 i0 (.int .i64 0) 1 Try.underlying30 hi hz0 hz1 .i64 .i64 _ _ sA.size rfl rfl (by omega) (by omega) (by rw [hz2]; omega) (by unfold maxLen; omega) (Nat.le_refl _) ?_)
  intro w1 hown hgr
  have hRo := Row.ofOwns hown
  rw [iis_zeros] at hRo
  have HRo := Lib.hid hRo
  have HB1 := Lib.hid (grown_below hgr (Nat.le_refl _) (by simp) : Below w.heap.size w w1)
  clear hown hgr hRo hbz
  go_wp2_with fail
  go_loopw [8, 9] (fun rv iv wr => ∃ (i : Nat) (L : List Nat), i ≤ sA.size ∧ iv = .int .i64 ((i : Int) - 1) ∧ rv = .string (dec (a / 10 ^ i % b)) ∧ Hid (Row wr w.heap.size 3 (iis L)) ∧ Hid (L.length = sA.size) ∧ Hid (AllLt 10 L) ∧ Hid (digs 10 L = a / 10 ^ i / b * 10 ^ i) ∧
      Hid (∀ j, j < i → L.getD j 0 = 0) ∧ Hid (Below w.heap.size w wr))
    (fun _ iv _ => (intOf iv + 1).toNat)
  case atStart =>
    refine ⟨sA.size, List.replicate sA.size 0, Nat.le_refl _, rfl, ?_, HRo, by simp [Hid], AllLt.zeros (by decide) _, by unfold Hid; rw [HTOP.out, digs_zeros]; simp, fun j _ => by
      rw [List.getD_eq_getElem?_getD, List.getElem?_replicate]; split <;> rfl, HB1⟩
    rw [HTOP.out, Nat.zero_mod, dec_zero48]
  case round =>
    obtain ⟨i, L, hik, rfl, rfl, HR, HLl, HLlt, HLd, HLz, HBB⟩ := hrel
    clear HRo HB1 HTOP
    rcases Nat.eq_zero_or_pos i with rfl | hp
    · have HE : Hid (digs 10 L = a / b) := by
        have := HLd.out
        unfold Hid
        simpa using this
      have HE2 : Hid (dec (a / 10 ^ 0 % b) = dec (a % b)) := by unfold Hid; simp
      rw [HE2.out]
      generalize hsR : dec (a % b) = sR
      have HSR := Lib.hid hsR
      clear hsR HE2
      go_wp2_with fail
      refine (form_any (some ⟨w.heap.size, 0, none⟩) L sA.size sA.size HLl.out HLlt.out (by omega) wr (CellsI.ofRow HR.out)).mono ?_
      rintro e w2 ⟨rfl, hB2⟩
      have HB2 := Lib.hid (below_form HBB.out hB2)
      clear hB2
      rw [HE.out]
      go_wp2_with fail
      go_ret3
      refine ⟨?_, HB2.out⟩
      rw [HSR.out]
      rfl
    · obtain ⟨j, rfl⟩ : ∃ j, i = j + 1 := ⟨i - 1, by omega⟩
      rw [show ((j + 1 : Nat) : Int) - 1 = (j : Nat) by omega]
      clear hp
      have HD := Lib.hid (HDIG.out j)
      have hx := dgt_lt a j
      have KA := Lib.hid (HDA.out j (by omega))
      have hr := Nat.mod_lt (a / 10 ^ (j + 1)) H0.out
      have hrs := HSM.out _ (Nat.le_of_lt hr)
      have ht := HD.out.1
      have hts := HSB.out _ ht
      have htm : 10 * (a / 10 ^ (j + 1) % b) < 10 * b := by omega
      have htms := HSB.out _ htm
      have KM := Lib.hid (fun w => xmul_any (a / 10 ^ (j + 1) % b) 10 (by omega) (Nat.le_trans (dec_size_le 10 2 (by omega) (by omega)) (by omega)) w)
      rw [Nat.mul_comm (a / 10 ^ (j + 1) % b) 10, ← dec10] at KM
      have KO := Lib.hid (fun w => xof_any (dgt a j) (by omega) w)
      have KP := Lib.hid (fun w => xadd_any (10 * (a / 10 ^ (j + 1) % b)) (dgt a j) (by omega) (Nat.le_trans (dec_size_le (dgt a j) 1 (by omega) (by omega)) (by omega)) w)
      have HLS := Lib.hid (fun v => digs_set 10 L j v (by rw [HLl.out]; omega))
      have hLj : L.getD j 0 = 0 := HLz.out j (by omega)
      rw [hLj] at HLS
      have HLJ := Lib.hid hLj
      clear hr hrs htm htms hLj
      generalize a / 10 ^ (j + 1) % b = r at *
      generalize a / 10 ^ (j + 1) / b = Q at *
      generalize dgt a j = x at *
      generalize hT : 10 * r + x = t at *
      have HT := Lib.hid hT
      clear hT
      obtain ⟨wo, rfl⟩ : ∃ wo : World, wo = wr := ⟨_, rfl⟩
      go_wp2_with fail
      refine (KM.out _).mono ?_
      rintro e w2 ⟨rfl, hB2⟩
      have HR2 := Lib.hid (HR.out.below hB2 HR.out.lt)
      have HB2 := Lib.hid (below_form HBB.out hB2)
      clear hB2
      go_wp2_with fail
      refine (KA.out _).mono ?_
      rintro e w3 ⟨rfl, rfl⟩
      go_wp2_with fail
      refine (KO.out _).mono ?_
      rintro e w4 ⟨rfl, hB4⟩
      have HR4 := Lib.hid (HR2.out.below hB4 HR2.out.lt)
      have HB4 := Lib.hid (below_form HB2.out hB4)
      clear hB4 HR2 HB2
      go_wp2_with fail
      refine (KP.out _).mono ?_
      rintro e w5 ⟨rfl, hB5⟩
      have HR5 := Lib.hid (HR4.out.below hB5 HR4.out.lt)
      have HB5 := Lib.hid (below_form HB4.out hB5)
      clear hB5 HR4 HB4 KM KO KP KA
      go_wp2_with fail
      go_loopw [8] (fun rv wr => ∃ (q : Nat) (M : List Nat), q * b ≤ t ∧ rv = .string (dec (t - q * b)) ∧ q < 10 ∧ Hid (Row wr w.heap.size 3 (iis M)) ∧ Hid (M.length = sA.size) ∧ Hid (M = L.set j q) ∧ Hid (Below w.heap.size w wr))
        (fun rv _ => match rv with | .string s => (decVal (bts s)) | _ => 0)
      case atStart => exact ⟨0, L, by omega, by simp, by omega, HR5, HLl, by
        unfold Hid
        have e : L[j]? = some 0 := by
          have := HLJ.out
          rw [List.getD_eq_getElem?_getD, List.getElem?_eq_getElem (by rw [HLl.out]; omega)] at this
          rw [List.getElem?_eq_getElem (by rw [HLl.out]; omega)]
          simpa using this
        have e2 : L.set j 0 = L := by
          apply List.ext_getElem?
          intro k
          by_cases hk : j = k
          · subst hk
            rw [List.getElem?_set_self (by rw [HLl.out]; omega), e]
          · rw [List.getElem?_set_ne hk]
        exact e2.symm, HB5⟩
      case round =>
        obtain ⟨q, M, hq, rfl, hq10, HRM, HMl, HMq, HBM⟩ := hrel
        clear HR5 HB5
        have hcell : M[j]? = some q := by rw [HMq.out, List.getElem?_set_self (by rw [HLl.out]; omega)]
        have HCELL := Lib.hid hcell
        clear hcell
        have hsz : (dec (t - q * b)).size ≤ sB.size + 1 := HSB.out _ (by omega)
        have KC := Lib.hid (HCMP.out (t - q * b))
        by_cases hge : b ≤ t - q * b
        · have hq9 : q + 1 < 10 := by
            rcases Nat.lt_or_ge (q + 1) 10 with h | h
            · exact h
            · have h9 : q = 9 := by omega
              subst h9; omega
          have hqs : (q + 1) * b = q * b + b := Nat.succ_mul q b
          have KS := Lib.hid (HSUB.out (t - q * b) (by omega) hge)
          have HTS : Hid (t - q * b - b = t - (q + 1) * b) := by unfold Hid; omega
          have hq' : (q + 1) * b ≤ t := by omega
          have HDEC : Hid (decVal (bts (dec (t - (q + 1) * b))) < decVal (bts (dec (t - q * b)))) := by
            unfold Hid
            rw [bts_dec, bts_dec, decVal_decL, decVal_decL]
            have := H0.out
            omega
          have hc1 : wr.cell? ⟨w.heap.size, j, none⟩ = some (.int .i64 (q : Nat)) := HRM.out.cell (iis_get _ _ _ HCELL.out)
          have hfr := HRM.out.free j
          have hcc : 0 ≤ cmpI (t - q * b) b := cmp_nonneg.2 hge
          rw [HTS.out] at KS
          clear hge hqs HTS
          generalize cmpI (t - q * b) b = cc at *
          have HQ2 := Lib.hid hq'
          clear hq' hq
          generalize hsN : dec (t - (q + 1) * b) = sN at *
          have HSN := Lib.hid hsN
          clear hsN
          generalize dec (t - q * b) = sO at *
          go_wp2_with fail
          refine (KC.out _).mono ?_
          rintro e w6 ⟨rfl, rfl⟩
          go_wp2_with fail
          refine (KS.out _).mono ?_
          rintro e w7 ⟨rfl, hB7⟩
          have HR7 := Lib.hid (HRM.out.below hB7 HRM.out.lt)
          have HB7 := Lib.hid (below_form HBM.out hB7)
          have hc7 : w7.cell? ⟨w.heap.size, j, none⟩ = some (.int .i64 (q : Nat)) := HR7.out.cell (iis_get _ _ _ HCELL.out)
          have hf7 := HR7.out.free j
          clear hB7 hc1 hfr
          go_wp2_with fail
          go_roundw
          case rel =>
            refine ⟨q + 1, M.set j (q + 1), HQ2.out, by rw [HSN.out], hq9, ?_, by unfold Hid; rw [List.length_set]; exact HMl.out, by unfold Hid; rw [HMq.out, List.set_set], HB7.out.setCell (by simp) _⟩
            have := HR7.out.set j (.int .i64 (q + 1 : Nat))
            rw [iis_set] at this
            unfold Hid
            simpa using this
          case measure => exact HDEC.out
        · have hcc : cmpI (t - q * b) b < 0 := by
            have := cmp_nonneg (x := t - q * b) (y := b)
            omega
          obtain ⟨g1, g2⟩ := inner_end H0.out hq (by omega)
          obtain ⟨_, d2, d3⟩ := HD.out
          rw [← g1] at d2
          rw [← g2] at d3
          have HE : Hid (digs 10 M = a / 10 ^ j / b * 10 ^ j) := by
            have h1 := HLS.out q
            rw [Nat.mul_zero, Nat.add_zero] at h1
            unfold Hid
            rw [HMq.out, h1, d2, HLd.out]
            exact div_acc Q j q
          have HLT : Hid (AllLt 10 M) := by unfold Hid; rw [HMq.out]; exact allLt_set HLlt.out _ _ hq10
          have HZ : Hid (∀ k, k < j → M.getD k 0 = 0) := fun k hk => by rw [HMq.out, getD_set_other' (by omega)]; exact HLz.out k (by omega)
          have HD3 := Lib.hid d3
          clear hge g1 g2 d2 d3
          generalize cmpI (t - q * b) b = cc at *
          go_wp2_with fail
          refine (KC.out _).mono ?_
          rintro e w6 ⟨rfl, rfl⟩
          go_wp2_with fail
          go_roundw
          case rel => exact ⟨j, M, by omega, by go_num, by rw [HD3.out], HRM, HMl, HLT, HE, HZ, HBM⟩
          case measure => simp [intOf]

theorem dec0_list : (dec 0).toList = [48] := by
  unfold dec
  rw [toList_mkStr]; rfl

set_option maxHeartbeats 1000000 in
set_option maxRecDepth 100000 in
theorem xgcd_any (a b : Nat) (ha : (dec a).size ≤ 100000000) (hb : (dec b).size ≤ 100000000) (w : World) :
    Calls Try.prog 115 #[.string (dec a), .string (dec b)] w fun e w' => e = .returned (.string (dec (Nat.gcd a b))) ∧ Below w.heap.size w w' := by
  have HA := Lib.hid ha
  have HBB := Lib.hid hb
  clear ha hb
  go_enter Try.func115, Try.ntmps115
  go_wp2_with fail
  go_loopg [0, 1] b (fun k u v wr => ∃ A B : Nat, u = .string (dec A) ∧ v = .string (dec B) ∧ B ≤ k ∧ Hid (Nat.gcd A B = Nat.gcd a b) ∧ Hid ((dec A).size ≤ 100000000) ∧ Hid ((dec B).size ≤ 100000000) ∧ Hid (Below w.heap.size w wr))
  case atStart => exact ⟨a, b, rfl, rfl, Nat.le_refl _, rfl, HA, HBB, Below.refl _ _⟩
  case round =>
    obtain ⟨A, B, rfl, rfl, hBk, HG, HSA, HSB, HB⟩ := hrel
    by_cases h0 : B = 0
    · have HGA : Hid (dec A = dec (Nat.gcd a b)) := by unfold Hid; rw [← HG.out, h0, Nat.gcd_zero_right]
      subst h0
      have hl := dec0_list
      generalize dec 0 = s0 at *
      generalize hsA : dec A = sA at *
      have HSS := Lib.hid hsA
      clear hsA
      go_wp2_with fail
      go_ret
      refine ⟨?_, HB.out⟩
      rw [← HGA.out]
      rfl
    · have hl := dec_toList_ne h0
      have hp : 0 < B := by omega
      have KD := Lib.hid (fun w => xdiv_pos A B HSA.out HSB.out hp w)
      have HMod := Lib.hid (Nat.mod_lt A hp)
      have HGM : Hid (Nat.gcd B (A % B) = Nat.gcd a b) := by unfold Hid; rw [← HG.out, Nat.gcd_comm A B, Nat.gcd_rec B A, Nat.gcd_comm]
      have HSM : Hid ((dec (A % B)).size ≤ 100000000) := Nat.le_trans (dec_size_mono (Nat.le_of_lt (Nat.mod_lt A hp))) HSB.out
      obtain ⟨R, hR⟩ : ∃ R, R = A % B := ⟨_, rfl⟩
      rw [← hR] at KD HMod HGM HSM
      clear hR h0
      generalize hsB : dec B = sB at *
      have HEB := Lib.hid hsB.symm
      clear hsB
      generalize dec A = sA at *
      generalize hsR : dec R = sR at *
      have HER := Lib.hid hsR.symm
      clear hsR
      generalize dec (A / B) = sQ at *
      go_wp2_with fail
      refine (KD.out _).mono ?_
      rintro e w2 ⟨rfl, hB2⟩
      have HB2 := Lib.hid (below_form HB.out hB2)
      clear hB2
      go_wp2_with fail
      go_roundg R
      case measure => have := HMod.out; omega
      case rel => exact ⟨B, R, by rw [HEB.out], by rw [HER.out], Nat.le_refl _, HGM, by rw [← HEB.out]; exact HSB, by rw [← HER.out]; exact HSM, HB2⟩

theorem gXAdd (a b : Nat) (ha : (dec a).size ≤ 1073741824) (hb : (dec b).size ≤ 1073741824) : Gives 101 #[.string (dec a), .string (dec b)] (.string (dec (a + b))) := fun w => xadd_any a b ha hb w
theorem gXMul (a b : Nat) (ha : (dec a).size ≤ 536870912) (hb : (dec b).size ≤ 536870912) : Gives 104 #[.string (dec a), .string (dec b)] (.string (dec (a * b))) := fun w => xmul_any a b ha hb w
theorem gXDiv (a b : Nat) (ha : (dec a).size ≤ 100000000) (hb : (dec b).size ≤ 100000000) (h0 : 0 < b) : Gives 116 #[.string (dec a), .string (dec b)] (.tuple #[.string (dec (a / b)), .string (dec (a % b)), .bool true]) := fun w => xdiv_pos a b ha hb h0 w
theorem gXGcd (a b : Nat) (ha : (dec a).size ≤ 100000000) (hb : (dec b).size ≤ 100000000) : Gives 115 #[.string (dec a), .string (dec b)] (.string (dec (Nat.gcd a b))) := fun w => xgcd_any a b ha hb w

end Go.Proofs.Ytbacloneddnaeaa

/- The numbers of the reference of chapter 02. -/
namespace Go.Proofs.Ytbacloneddnaeaa
open Go.RowKit Num

def xratV (p : Nat × Nat) : Value := .agg #[.string (dec p.1), .string (dec p.2)]

theorem dec_nl (n k : Nat) (hk : 0 < k) (h : nl n ≤ k) : (dec n).size ≤ 3 * k := dec_small_of n k hk h
theorem dec1 : dec 1 = { data := #[49] } := by kernel_rfl
theorem dec1_list : (dec 1).toList = [49] := by
  unfold dec
  rw [toList_mkStr]; rfl
theorem dec_not1 {b : Nat} (h : b ≠ 1) : ((dec b).toList == [49]) = false := by
  rw [beq_eq_false_iff_ne]
  intro e
  exact toList_ne (fun e2 => h (dec_inj e2)) (e.trans dec1_list.symm)

theorem gXZero : Gives 70 #[] (xratV (0, 1)) := by
  have := w_xzero
  rw [← dec_zero48, ← dec1] at this
  exact this

theorem gXNew (n d : Nat) (hn : nl n ≤ 1000000) (hd : nl d ≤ 1000000) (h0 : 0 < d) : Gives 100 #[.string (dec n), .string (dec d)] (.tuple #[xratV (Q.red n d), .bool true]) := by
  have hg : 0 < Nat.gcd n d := Nat.gcd_pos_of_pos_right n h0
  have sn := dec_nl n 1000000 (by omega) hn
  have sd := dec_nl d 1000000 (by omega) hd
  have sg := Nat.le_trans (dec_size_mono (Nat.gcd_le_right n h0)) sd
  exact w_xnew_n _ _ _ _ _ _ _ (dec_toList_ne (by omega)) (gXGcd n d (by omega) (by omega)) (gXDiv n (Nat.gcd n d) (by omega) (by omega) hg) (gXDiv d (Nat.gcd n d) (by omega) (by omega) hg)
theorem gXNewZ (n : Nat) : Gives 100 #[.string (dec n), .string (dec 0)] (.tuple #[xratV (0, 1), .bool false]) := by
  have := w_xnew_z (dec n) (dec 0) dec0_list (by have := gXZero; unfold xratV at this; rw [dec1, dec_zero48] at this; exact this)
  rw [← dec_zero48, ← dec1] at this
  exact this

theorem gXText (p : Nat × Nat) (hp : Sm 1000000 p) (h0 : 0 < p.2) : Gives 39 #[xratV p] (.string (rtext p)) := by
  obtain ⟨n, d⟩ := p
  obtain ⟨h1, h2⟩ := hp
  unfold rtext
  simp only at *
  rw [dn_of h0]
  by_cases h : d = 1
  · rw [if_pos h]
    subst h
    exact w_xtext1 _ _ dec1_list
  · rw [if_neg h]
    exact w_xtext2 _ _ (dec_not1 h) (dec_small n h1) (dec_small d h2)

theorem sm_dec {p : Nat × Nat} (h : Sm 10000 p) : (dec p.1).size ≤ 30000 ∧ (dec p.2).size ≤ 30000 := ⟨dec_nl _ 10000 (by omega) h.1, dec_nl _ 10000 (by omega) h.2⟩

section
variable (p q : Nat × Nat) (hp : Sm 10000 p) (hq : Sm 10000 q) (lp : Q.Low p) (lq : Q.Low q)
include hp hq

theorem gOver : Gives 99 #[xratV p, xratV q] (.tuple #[.string (dec (p.1 * q.2)), .string (dec (q.1 * p.2)), .string (dec (p.2 * q.2))]) := by
  obtain ⟨h1, h2⟩ := sm_dec hp
  obtain ⟨h3, h4⟩ := sm_dec hq
  exact w_over _ _ _ _ _ _ _ (gXMul _ _ (by omega) (by omega)) (gXMul _ _ (by omega) (by omega)) (gXMul _ _ (by omega) (by omega))

theorem gXCmp2 : Gives 72 #[xratV p, xratV q] (.int .i64 (Q.cmp p q)) := w_xcmp _ _ _ _ _ _ _ _ (gOver p q hp hq) (gXCmp _ _)

include lp lq
theorem gXAdd2 : Gives 71 #[xratV p, xratV q] (xratV (Q.add p q)) := by
  obtain ⟨h1, h2⟩ := hp
  obtain ⟨h3, h4⟩ := hq
  have e1 := nl_mul p.1 q.2
  have e2 := nl_mul q.1 p.2
  have e3 := nl_mul p.2 q.2
  have e4 := nl_add (p.1 * q.2) (q.1 * p.2)
  have s1 := dec_nl (p.1 * q.2) 20000 (by omega) (by omega)
  have s2 := dec_nl (q.1 * p.2) 20000 (by omega) (by omega)
  exact w_xadd _ _ _ _ _ _ _ _ _ _ true (gOver p q ⟨h1, h2⟩ ⟨h3, h4⟩) (gXAdd _ _ (by omega) (by omega)) (gXNew _ _ (by omega) (by omega) (Nat.mul_pos lp.1 lq.1))

end

end Go.Proofs.Ytbacloneddnaeaa

/- The law RatReads. -/
namespace Go.Proofs.Ytbacloneddnaeaa
open Go.RowKit Num

theorem gXRead1 : Gives 106 #[.string { data := #[49] }] (.tuple #[.string { data := #[49] }, .bool true]) := by
  have := gXRead { data := #[49] } (by decide)
  rw [show decOk (bts { data := #[49] }) = true by kernel_rfl, if_pos rfl] at this
  exact this

theorem decOk_none {l : List Nat} (h : readN l = none) : decOk l = false := by
  cases h1 : decOk l with
  | false => rfl
  | true => rw [readN_ok h1] at h; cases h

theorem gXReadN {s : ByteArray} (hs : s.size ≤ 9223372036854775807) (h : readN (bts s) = none) : Gives 106 #[.string s] (.tuple #[.string { data := #[48] }, .bool false]) := by
  have := gXRead s hs
  rw [decOk_none h, if_neg (by decide)] at this
  exact this
theorem gXReadY {s : ByteArray} {n : Nat} (hs : s.size ≤ 9223372036854775807) (h : readN (bts s) = some n) : Gives 106 #[.string s] (.tuple #[.string (dec n), .bool true]) := by
  obtain ⟨h1, _, h3⟩ := readN_small h
  have := gXRead s hs
  rw [h3, if_pos rfl] at this
  rw [← h1]; exact this

theorem gXRatRead (s : ByteArray) (hs : s.size ≤ 1000) : Gives 86 #[.string s] (.tuple #[xratV ((ratRead s).getD (0, 1)), .bool (ratRead s).isSome]) := by
  have KZ := w_xzero
  cases hc : cutL (bts s) with
  | none =>
    rw [ratRead_no hc]
    have hno := (cut_miss hc).2
    cases hr : readN (bts s) with
    | none =>
      have := w_xrread1a s _ _ s s s true hno (by omega) (gXReadN (by omega) hr) gXRead1 KZ
      rw [← dec_zero48, ← dec1] at this
      exact this
    | some n =>
      obtain ⟨h1, h2, _⟩ := readN_small hr
      have KN := gXNew n 1 (by omega) (by decide) (by decide)
      have KT := gXText (n, 1) ⟨by simp only; omega, by simp only; decide⟩ Nat.one_pos
      rw [red_one, dec1] at KN
      rw [show rtext (n, 1) = s by rw [h1]; rfl] at KT
      exact w_xrread1e s _ _ _ _ s true hno (by omega) (gXReadY (by omega) hr) gXRead1 KN KT
  | some p =>
    obtain ⟨a, b⟩ := p
    obtain ⟨hk, _, h47, hno, ea, eb⟩ := cut_hit hc
    have z1 : (s.extract 0 a.length).size ≤ 1000 := by rw [← bts_length, ea]; omega
    have z2 : (s.extract (a.length + 1) s.size).size ≤ 1000 := by
      have := congrArg List.length (cutL_some hc).1
      rw [bts_length] at this
      simp at this
      rw [← bts_length, eb]; omega
    have h47 := h47 hk
    rw [ratRead_at hc]
    cases hra : readN a with
    | none =>
      have hr : readN (bts (s.extract 0 a.length)) = none := by rw [ea]; exact hra
      rw [pairRead_none]
      have KR2 := gXRead (s.extract (a.length + 1) s.size) (by omega)
      have := w_xrread2a s _ _ s s s _ a.length hk h47 hno (by omega) (gXReadN (by omega) hr) KR2 KZ
      rw [← dec_zero48, ← dec1] at this
      exact this
    | some n =>
      have hr : readN (bts (s.extract 0 a.length)) = some n := by rw [ea]; exact hra
      cases hrb : readN b with
      | none =>
        have hr2 : readN (bts (s.extract (a.length + 1) s.size)) = none := by rw [eb]; exact hrb
        rw [pairRead_none2]
        have := w_xrread2b s _ _ s s s true a.length hk h47 hno (by omega) (gXReadY (by omega) hr) (gXReadN (by omega) hr2) KZ
        rw [← dec_zero48, ← dec1] at this
        exact this
      | some d =>
        have hr2 : readN (bts (s.extract (a.length + 1) s.size)) = some d := by rw [eb]; exact hrb
        obtain ⟨_, h2, _⟩ := readN_small hr
        obtain ⟨_, h4, _⟩ := readN_small hr2
        have KR := gXReadY (by omega) hr
        have KR2 := gXReadY (by omega) hr2
        rw [pairRead_some]
        rcases Nat.eq_zero_or_pos d with h0 | h0
        · subst h0
          rw [if_neg (fun h => absurd h.1 (Nat.lt_irrefl 0))]
          have := w_xrread2c s _ _ _ _ s true a.length hk h47 hno (by omega) KR KR2 (gXNewZ n) KZ
          rw [← dec_zero48, ← dec1] at this
          exact this
        · have KN := gXNew n d (by omega) (by omega) h0
          have KT := gXText (Q.red n d) (Sm.mono (Sm.red (k := 1000) (by omega) (by omega)) (by omega)) (Q.red_low h0).1
          by_cases ht : rtext (Q.red n d) = s
          · rw [if_pos ⟨h0, ht⟩]
            rw [ht] at KT
            exact w_xrread2e s _ _ _ _ s true a.length hk h47 hno (by omega) KR KR2 KN KT
          · rw [if_neg fun h => ht h.2]
            have := w_xrread2d s _ _ _ _ _ true a.length hk h47 hno (by omega) (by rw [beq_eq_false_iff_ne]; exact toList_ne ht) KR KR2 KN KZ KT
            rw [← dec_zero48, ← dec1] at this
            exact this

end Go.Proofs.Ytbacloneddnaeaa

/- Numbers of chapter 40. -/
namespace Go.Proofs.Ytbacloneddnaeaa
open Go.RowKit Num

def numQ (s : ByteArray) : Nat × Nat := (ratRead s).getD (0, 1)
theorem numQ_low (s : ByteArray) : Q.Low (numQ s) := by
  unfold numQ
  cases h : ratRead s with
  | none => exact ⟨by decide, by decide⟩
  | some r => exact (ratRead_spec h).2.1
theorem gBOne : Gives 45 #[] (ratV (1, 1)) := w_bone _ _ true (gROf 1 1 (by decide) (by decide) (by decide))

theorem gXNum (s : ByteArray) (hs : s.size ≤ 1000) : Gives 51 #[.string s] (xratV (numQ s)) := by
  have KR := gXRatRead s hs
  unfold numQ
  cases h : ratRead s with
  | none =>
    rw [h] at KR
    have := w_xnum_n s _ _ KR w_xzero
    rw [← dec_zero48, ← dec1] at this
    exact this
  | some r =>
    rw [h] at KR
    exact w_xnum_y s _ _ KR

theorem gXOne : Gives 73 #[] (xratV (1, 1)) := by
  have := gXNum { data := #[49] } (by decide)
  rw [show numQ { data := #[49] } = (1, 1) by kernel_rfl] at this
  exact w_xone _ _ this

end Go.Proofs.Ytbacloneddnaeaa
