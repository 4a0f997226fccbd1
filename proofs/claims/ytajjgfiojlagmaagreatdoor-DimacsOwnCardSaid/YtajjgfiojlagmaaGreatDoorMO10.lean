/- Texts of this claim, joined: WText. -/
import Derived.Test.YtajjgfiojlagmaaGreatDoorMO05
import Derived.Test.YtajjgfiojlagmaaGreatDoorMO03

/- Text. -/
namespace Go.Proofs.YtajjgfiojlagmaaGreatDoor
open Go.RowKit Num

def lenOf : Value → Nat | .slice _ n _ => n | _ => 0

def SlB (base E : Nat) (cs : List Nat) (v : Value) (w : World) : Prop :=
  ∃ a cap, v = .slice a cs.length cap ∧ w.ownsRow base E 1 (.slice a cs.length cap) cs.length (u8s cs)

theorem SlB.of {base E : Nat} {ys : List Nat} {v : Value} {w : World} (h : w.ownsRow base E 1 v ys.length (u8s ys)) : SlB base E ys v w := by
  rcases h.2 with ⟨rfl, h2⟩ | ⟨g, c, cur, rfl, _⟩
  · exact ⟨none, 0, by rw [h2], by rw [h2] at h ⊢; exact h⟩
  · exact ⟨_, _, rfl, h⟩

def revBytes (out : List Nat) : List UInt8 := ((out.map (· + 48)).map UInt8.ofNat).reverse

theorem revBytes_next (out : List Nat) (k : Nat) (h0 : 0 < k) (hk : k ≤ out.length) (hd : AllLt 10 out) :
    Lib.byteCells ((revBytes out).take (out.length - k)) ++ [.int .u8 (out.getD (k - 1) 0 + 48 : Nat)] = Lib.byteCells ((revBytes out).take (out.length - (k - 1))) := by
  have hlen : (revBytes out).length = out.length := by simp [revBytes]
  rw [show out.length - (k - 1) = (out.length - k) + 1 by omega, List.take_succ_eq_append_getElem (by omega), Lib.byteCells_append]
  congr 1
  have hg : (revBytes out)[out.length - k]'(by omega) = UInt8.ofNat (out.getD (k - 1) 0 + 48) := by
    unfold revBytes
    rw [List.getElem_reverse]
    simp only [List.length_map, List.getElem_map]
    rw [List.getD_eq_getElem?_getD, List.getElem?_eq_getElem (by omega)]
    congr 2
    simp only [Option.getD_some]
    congr 1
    omega
  rw [hg]
  have := hd.getD (by omega) (k - 1)
  simp only [Lib.byteCells, List.map_cons, List.map_nil, UInt8.toNat_ofNat']
  congr 3
  omega

set_option maxHeartbeats 4000000 in
set_option maxRecDepth 100000 in
theorem text_any (N : Nat) (hN : nl N ≤ 1073741824) (w : World) :
    Calls Tryz.prog 79 #[natV N] w fun e w' => e = .returned (.string (dec N)) ∧ Below w.heap.size w w' := by
  have hdl := dlen_le N
  have hwl := wlen_le N
  obtain ⟨i0, hi, hz0, hz1, hz2⟩ := info_parts Tryz.infoU8
  unfold natV
  go_enter Tryz.func79, Tryz.ntmps79
  go_wp2_with fail
  refine (words_nat N (by omega) _).mono ?_
  rintro e w1 ⟨rfl, hR, hb⟩
  have es : (w.alloc (Obj.cells #[Value.string (nb N)] 72)).heap.size = w.heap.size + 1 := by simp
  rw [es] at hR hb
  rw [es]
  have hB : Below w.heap.size w w1 := ((Below.refl _ _).alloc (Nat.le_refl _) _).trans (hb.mono (by omega))
  have hsz : w.heap.size + 2 < w1.heap.size := by simpa using hR.lt
  have HR := Lib.hid hR
  have HB := Lib.hid hB
  clear hR hB hb es
  go_wp2_with fail
  go_loopw [3, 4] (fun l o wr => ∃ (n : Nat) (cells out : List Nat), l = .slice (some ⟨w.heap.size + 2, 0, none⟩) n (digitsOf W N).length ∧ Row wr (w.heap.size + 2) 116 (u32s cells) ∧ n ≤ cells.length ∧ AllLt W cells ∧ Canon (cells.take n) ∧
      SlB (w.heap.size + 3) 5 (out.map (· + 48)) o wr ∧ digitsOf 10 N = out ++ digitsOf 10 (digs W (cells.take n)) ∧ Below w.heap.size w wr ∧ w.heap.size + 2 < wr.heap.size ∧ n ≤ (digitsOf W N).length)
    (fun _ o _ => (digitsOf 10 N).length - lenOf o)
  case atStart =>
    refine ⟨(digitsOf W N).length, digitsOf W N, [], by rfl, HR.out, Nat.le_refl _, digitsOf_lt (by decide) N, by rw [List.take_of_length_le (Nat.le_refl _)]; exact digitsOf_canon (by decide) N,
      ⟨none, 0, rfl, World.ownsRow_nil _ _ _ _⟩, by rw [List.take_of_length_le (Nat.le_refl _), digs_digitsOf (by decide)]; rfl, HB.out, hsz, Nat.le_refl _⟩
  case round =>
    obtain ⟨n, cells, out, rfl, hR, hn, hl, hcan, ⟨a, cap, rfl, hown⟩, heq, hB, hsz2, hn40⟩ := hrel
    clear HR HB hsz
    have hol : out.length ≤ (digitsOf 10 N).length := by rw [heq]; simp
    have HEQ := Lib.hid heq
    have HB := Lib.hid hB
    have HL := Lib.hid hl
    have HC := Lib.hid hcan
    have HO := Lib.hid hown
    clear heq hB hl hcan hown
    by_cases hpos : 0 < n
    · have HSH := Lib.hid (shr_digs W 1000000000 (by omega) (cells.take n))
      have HSL := Lib.hid (shr_lt W 1000000000 (by omega) (cells.take n) (HL.out.take n))
      have hsl := shr_length W 1000000000 (cells.take n)
      go_wp2_with fail
      refine (shrink_any (w.heap.size + 2) 116 n (digitsOf W N).length 1000000000 cells hn HL.out (by omega) (by omega) (by omega) wr hR).mono ?_
      rintro e w2 ⟨rfl, hR2, hg2⟩
      have HPOS : Hid (0 < digs W (cells.take n)) := (canon_digs_pos _ HC.out).2 (by rw [List.length_take]; omega)
      have hB2 : Below w.heap.size w w2 := HB.out.grown hg2 (by omega) (by simp)
      have HO2 := Lib.hid (HO.out.kept hg2 (by
        right; intro e
        have := (HO.out.lt _ e).1
        omega))
      have hs2 := hg2.size
      have HB2 := Lib.hid hB2
      clear hR hg2 hB2 HO HB
      unfold shrunk at hR2
      rw [List.take_zero, List.nil_append, List.drop_zero] at hR2
      obtain ⟨M, hM⟩ : ∃ M, M = digs W (cells.take n) := ⟨_, rfl⟩
      have hqd := (shr_digs W 1000000000 (by omega) (cells.take n)).1
      rw [← hM] at HPOS hqd
      have HEQ2 : Hid (digitsOf 10 N = out ++ digitsOf 10 (M % 1000000000 + 10 ^ 9 * (M / 1000000000))) := by
        have := HEQ.out
        rw [← hM] at this
        rw [show (10 : Nat) ^ 9 = 1000000000 by decide, Nat.mod_add_div]
        exact this
      rw [← hM]
      clear hM HEQ HC
      have hp9 : M % 1000000000 < 10 ^ 9 := Nat.mod_lt _ (by decide)
      have hpq : 0 < M % 1000000000 ∨ 0 < M / 1000000000 := by have := HPOS.out; omega
      generalize M % 1000000000 = p at *
      generalize M / 1000000000 = q at *
      generalize (shr W 1000000000 (cells.take n)).1 = Q at *
      clear HPOS HSH
      obtain ⟨cells2, hc2⟩ : ∃ c, c = Q ++ cells.drop n := ⟨_, rfl⟩
      have hl2 : n ≤ cells2.length := by rw [hc2]; simp; rw [hsl, List.length_take]; omega
      have HL2 : Hid (AllLt W cells2) := by rw [hc2]; exact HSL.out.append (HL.out.drop n)
      have ht2 : digs W (cells2.take n) = q := by
        rw [hc2, List.take_append_of_le_length (by rw [hsl, List.length_take]; omega), List.take_of_length_le (by rw [hsl, List.length_take]; omega)]
        exact hqd
      rw [← hc2] at hR2
      have HR2 := Lib.hid hR2
      have HT2 := Lib.hid ht2
      have HP := Lib.hid hpq
      have HP9 := Lib.hid hp9
      clear hc2 hR2 hqd hsl HSL HL ht2 hpq hp9 hn
      go_wp2_with fail
      go_loop [3] (fun l => ∃ m : Nat, l = .slice (some ⟨w.heap.size + 2, 0, none⟩) m (digitsOf W N).length ∧ m ≤ n ∧ digs W (cells2.take m) = q)
        (fun l => lenOf l)
      case atStart => exact ⟨n, rfl, Nat.le_refl _, HT2.out⟩
      case round =>
        obtain ⟨m, rfl, hmn, hqm⟩ := hrel
        have HQ := Lib.hid hqm
        clear hqm HT2
        by_cases hgo : 0 < m ∧ cells2.getD (m - 1) 0 = 0
        · obtain ⟨hm0, hz⟩ := hgo
          have hc : w2.cell? ⟨w.heap.size + 2, m - 1, none⟩ = some (.int .u32 (cells2.getD (m - 1) 0 : Nat)) :=
            HR2.out.cell (u32s_get _ _ _ (by rw [List.getD_eq_getElem?_getD, List.getElem?_eq_getElem (by omega)]; rfl))
          rw [hz] at hc
          have hq' := digs_take_drop_zero cells2 (m - 1) (by omega) hz
          rw [show m - 1 + 1 = m by omega, HQ.out] at hq'
          have HQ' := Lib.hid hq'.symm
          clear hz hq'
          go_wp2_with fail
          go_round
          case rel => exact ⟨m - 1, by rfl, by omega, HQ'.out⟩
          case measure => simp [lenOf]; omega
        · have HC : Hid (Canon (cells2.take m)) := canon_take_of_last _ _ (by omega) (by
            rcases Nat.eq_zero_or_pos m with h | h
            · exact .inl h
            · exact .inr (fun h2 => hgo ⟨h, h2⟩))
          have hmq : 0 < q ↔ 0 < m := by
            rw [← HQ.out, canon_digs_pos _ HC.out, List.length_take]; omega
          have hc : 0 < m → w2.cell? ⟨w.heap.size + 2, m - 1, none⟩ = some (.int .u32 (cells2.getD (m - 1) 0 : Nat)) := fun h =>
            HR2.out.cell (u32s_get _ _ _ (by rw [List.getD_eq_getElem?_getD, List.getElem?_eq_getElem (by omega)]; rfl))
          have hzd : 0 < m → ((cells2.getD (m - 1) 0 : Int) == 0) = false := fun h => beq_no (fun h2 => hgo ⟨h, by omega⟩)
          clear hgo
          generalize cells2.getD (m - 1) 0 = d at *
          have HMQ := Lib.hid hmq
          clear hmq
          by_cases hm0 : 0 < m
          all_goals
            first
              | (have hc := hc hm0; have hzd := hzd hm0)
              | (clear hc hzd)
            go_wp2_with fail
            try clear hc
            go_loopw [4, 5, 6] (fun o pv kv wr => ∃ (j p' : Nat) (out' : List Nat), j ≤ 9 ∧ kv = .int .i64 (9 - (j : Int)) ∧ pv = .int .u32 (p' : Nat) ∧ SlB (w.heap.size + 3) 5 (out'.map (· + 48)) o wr ∧
                digitsOf 10 N = out' ++ digitsOf 10 (p' + 10 ^ j * q) ∧ p' < 10 ^ j ∧ Below w.heap.size w wr ∧ Row wr (w.heap.size + 2) 116 (u32s cells2) ∧ out'.length = out.length + (9 - j) ∧ (j = 9 → p' = p) ∧ w.heap.size + 2 < wr.heap.size)
              (fun _ _ kv _ => (9 - intOf kv).toNat)
            case atStart => exact ⟨9, p, out, Nat.le_refl _, rfl, rfl, ⟨a, cap, by simp, HO2.out⟩, HEQ2.out, HP9.out, HB2.out, HR2.out, by omega, fun _ => rfl, by omega⟩
            case round =>
              obtain ⟨j, p', out', hj, rfl, rfl, ⟨a', cap', rfl, hown'⟩, heq', hp', hB', hR', hlen', hj9, hsz'⟩ := hrel
              rw [List.length_map] at hown' ⊢
              have HOW := Lib.hid hown'
              have HE := Lib.hid heq'
              have HB3 := Lib.hid hB'
              have HR3 := Lib.hid hR'
              have HJ := Lib.hid hj9
              have HPP := Lib.hid hp'
              have HLN := Lib.hid hlen'
              have hol' : out'.length ≤ (digitsOf 10 N).length := by rw [heq']; simp
              have hp32 : p' < 1000000000 := Nat.lt_of_lt_of_le hp' (Nat.le_trans (Nat.pow_le_pow_right (by omega) hj) (by decide))
              clear hown' heq' hB' hR' hj9 hp' hlen'
              by_cases hcont : 0 < j ∧ (0 < m ∨ 0 < p')
              · obtain ⟨hj0, hmp⟩ := hcont
                have hmp2 : 0 < p' ∨ 0 < q := hmp.elim (fun h => .inr (HMQ.out.2 h)) .inl
                obtain ⟨j', hj'⟩ : ∃ j', j = j' + 1 := ⟨j - 1, by omega⟩
                have HE2 : Hid (digitsOf 10 N = (out' ++ [p' % 10]) ++ digitsOf 10 (p' / 10 + 10 ^ j' * q)) :=
                  text_step out' N p' q j' (by have := HE.out; rwa [hj'] at this) hmp2
                have HP2 : Hid (p' / 10 < 10 ^ j') := text_bound p' j' (by have := HPP.out; rwa [hj'] at this)
                have HL2' : Hid ((out' ++ [p' % 10]).length = out.length + (9 - j')) := by
                  unfold Hid; have := HLN.out; simp; omega
                have hjj : (9 - (j : Int)) + 1 = 9 - (j' : Int) := by omega
                clear hmp2 HE
                have hm1 : 0 < m ∨ ¬ 0 < m := by omega
                have hp1 : ¬ 0 < m → 0 < p' := fun h => hmp.resolve_left h
                clear hmp
                first
                  | (have hp1 := hp1 hm0)
                  | (clear hp1)
                go_wp2_with (at_builtin; refine wpList_append_own _ rfl _ _ 50 rfl (w.heap.size + 3) 5 i0 (.int .u8 0) 1 1 Tryz.underlying50 hi hz0 hz1 hz2 rfl (by decide) _ _ _ rfl (HOW.out.alloc _) ⟨wr.heap.size, 0, none⟩ 1 1 [.int .u8 (48 + p' % 10)] rfl rfl ?_ ?_ ?_ ?_ ?_ ?_)
                · exact cell_one_new _ _ _
                · intro u hu; simp at hu; subst hu; rfl
                · unfold maxLen; omega
                · omega
                · simp; omega
                intro v' w3 hown3 hgrow _
                have hB4 : Below w.heap.size w w3 := (HB3.out.alloc (by omega) _).grown hgrow (by simp; omega) (fun i hi => by have := (HOW.out.lt i hi).1; omega)
                have HB4 := Lib.hid hB4
                have hR4 : Row w3 (w.heap.size + 2) 116 (u32s cells2) := (HR3.out.alloc _).grown hgrow (fun e => by have := (HOW.out.lt _ e).1; omega)
                have HR4 := Lib.hid hR4
                have hs3 : w.heap.size + 2 < w3.heap.size := hR4.lt
                have hS3 : SlB (w.heap.size + 3) 5 ((out' ++ [p' % 10]).map (· + 48)) v' w3 := by
                  apply SlB.of
                  have e : u8s ((out' ++ [p' % 10]).map (· + 48)) = u8s (List.map (fun x => x + 48) out') ++ [Value.int IntKind.u8 (48 + ↑p' % 10)] := by
                    simp [u8s]; omega
                  rw [e]
                  simpa using hown3
                have HS3 := Lib.hid hS3
                clear hown3 hgrow hB4 hR4 hS3
                go_wp2_with fail
                go_roundw
                case rel => exact ⟨j', p' / 10, out' ++ [p' % 10], by omega, by rw [← hjj]; go_num, by go_num, HS3.out, HE2.out, HP2.out, HB4.out, HR4.out, HL2'.out, fun h => by omega, hs3⟩
                case measure => simp [intOf]; omega
              · have hfin : p' + 10 ^ j * q = q ∧ out.length < out'.length := by
                  have hL := HLN.out
                  rcases Nat.eq_zero_or_pos j with h | h
                  · subst h
                    have := HPP.out
                    simp at this
                    rw [this]; simp; omega
                  · have h1 : ¬ (0 < m ∨ 0 < p') := fun h2 => hcont ⟨h, h2⟩
                    have hm1 : ¬ 0 < m := fun h2 => h1 (.inl h2)
                    have hq0 : q = 0 := by have := HMQ.out; omega
                    have hp0 : p' = 0 := by omega
                    refine ⟨by rw [hq0, hp0]; simp, ?_⟩
                    by_cases h9 : j = 9
                    · have := HJ.out h9
                      have := HP.out
                      omega
                    · omega
                have HFE : Hid (digitsOf 10 N = out' ++ digitsOf 10 (digs W (cells2.take m))) := by
                  unfold Hid
                  have := HE.out
                  rw [hfin.1] at this
                  rw [HQ.out]; exact this
                have hlt := hfin.2
                clear hfin
                by_cases hj0 : 0 < j
                · have h1 : ¬ (0 < m ∨ 0 < p') := fun h2 => hcont ⟨hj0, h2⟩
                  first
                    | (exfalso; omega)
                    | (have hp0 : ¬ 0 < p' := fun h2 => h1 (.inr h2)
                       clear hcont h1
                       go_wp2_with fail
                       go_roundw
                       case rel => exact ⟨m, cells2, out', rfl, HR3.out, by omega, HL2.out, HC.out, SlB.of (by simpa using HOW.out), HFE.out, HB3.out, hsz', by omega⟩
                       case measure => simp [lenOf]; omega)
                · clear hcont
                  go_wp2_with fail
                  go_roundw
                  case rel => exact ⟨m, cells2, out', rfl, HR3.out, by omega, HL2.out, HC.out, SlB.of (by simpa using HOW.out), HFE.out, HB3.out, hsz', by omega⟩
                  case measure => simp [lenOf]; omega
    · obtain rfl : n = 0 := by omega
      have HEQ2 : Hid (digitsOf 10 N = out) := by
        have := HEQ.out
        rw [List.take_zero, digs_nil, digitsOf_zero, List.append_nil] at this
        exact this
      rw [List.length_map] at HO ⊢
      clear HEQ HC HL
      obtain ⟨wo, rfl⟩ : ∃ wo : World, wo = wr := ⟨_, rfl⟩
      have hbw0 : Lib.IsBuilder 143 5 wo.heap.size wo.heap.size (Lib.byteCells ((revBytes out).take (out.length - out.length))) (wo.alloc (.cells #[.pointer none, .slice none 0 0] 143)) := by
        rw [Nat.sub_self, List.take_zero]
        exact .inl ⟨Nat.le_refl _, _, heap_alloc_new wo _, World.ownsRow_nil _ _ _ _, by simp [Value.ownBlock]⟩
      have HBW := Lib.hid hbw0
      clear hbw0
      go_wp2_with fail
      go_loopw [8] (fun i wr => ∃ k : Nat, k ≤ out.length ∧ i = .int .i64 ((k : Int) - 1) ∧ Lib.IsBuilder 143 5 wo.heap.size wo.heap.size (Lib.byteCells ((revBytes out).take (out.length - k))) wr ∧ Below wo.heap.size wo wr)
        (fun i _ => (intOf i + 1).toNat)
      case atStart => exact ⟨out.length, Nat.le_refl _, rfl, HBW.out, (Below.refl _ _).alloc (Nat.le_refl _) _⟩
      case round =>
        obtain ⟨k, hk, rfl, hbw, hBx⟩ := hrel
        have HBX := Lib.hid hBx
        have hxs := hBx.size
        have hbl : (Lib.byteCells ((revBytes out).take (out.length - k))).length ≤ out.length := by
          simp [Lib.byteCells, List.length_take]; omega
        have HBW2 := Lib.hid hbw
        clear HBW hBx hbw
        by_cases hk0 : 0 < k
        · obtain ⟨g, rfl, hg1, hg2⟩ := owns_some HO.out (by omega)
          have hcell : wr.cell? ⟨g, k - 1, none⟩ = some (.int .u8 (out.getD (k - 1) 0 + 48 : Nat)) := by
            refine below_cell HBX.out hg2 ?_
            rw [HO.out.cellAt (k - 1) (by omega)]
            refine u8s_get _ _ _ ?_
            rw [List.getElem?_map, List.getElem?_eq_getElem (by omega), List.getD_eq_getElem?_getD, List.getElem?_eq_getElem (by omega)]
            rfl
          have HNX := Lib.hid (revBytes_next out k hk0 hk (HEQ2.out ▸ digitsOf_lt (by omega) N))
          generalize out.getD (k - 1) 0 + 48 = c at *
          go_wp2_with fail
          refine (writeByte_any wo.heap.size wo.heap.size _ c wr HBW2.out (by omega) hxs).mono ?_
          rintro e w4 ⟨rfl, hb4, hB4⟩
          rw [HNX.out] at hb4
          have HB4 := Lib.hid (HBX.out.trans hB4)
          have HW4 : Hid (Lib.IsBuilder 143 5 wo.heap.size wo.heap.size (Lib.byteCells ((revBytes out).take (out.length - (k - 1)))) w4) := .inr hb4
          clear hb4 hB4 HBW2 HBX
          go_wp2_with fail
          go_roundw
          case rel => exact ⟨k - 1, by omega, by go_num, HW4.out, HB4.out⟩
          case measure => simp [intOf]; omega
        · obtain rfl : k = 0 := by omega
          rw [Nat.sub_zero, List.take_of_length_le (by simp [revBytes])] at HBW2
          have HD := Lib.hid (text_dec N out HEQ2.out)
          have HBF : Hid (Below w.heap.size w wr) := HB.out.trans (HBX.out.mono (by omega))
          by_cases hL : out.length = 0
          · have hb : ((out.length : Int) == 0) = true := beq_yes (by omega)
            have HOE : Hid (out = []) := List.eq_nil_of_length_eq_zero hL
            clear hL
            go_wp2_with fail
            go_ret
            refine ⟨ret_str ?_, HBF.out⟩
            unfold dec
            rw [HD.out, if_pos HOE.out]; rfl
          · have hb : ((out.length : Int) == 0) = false := beq_no (by omega)
            have HOE : Hid (¬ out = []) := fun e => hL (by rw [e]; rfl)
            clear hL
            go_wp2_with fail
            refine (Tryz.Builder_String_any wo.heap.size wo.heap.size (revBytes out) wr HBW2.out hxs).mono ?_
            rintro e w4 ⟨rfl, hB4⟩
            have HB4 : Hid (Below w.heap.size w w4) := HBF.out.trans (hB4.mono (by omega))
            clear hB4
            go_wp2_with fail
            go_ret
            refine ⟨ret_str ?_, HB4.out⟩
            unfold dec mkStr
            rw [HD.out, if_neg HOE.out]
            simp [revBytes, List.map_reverse]
end Go.Proofs.YtajjgfiojlagmaaGreatDoor
