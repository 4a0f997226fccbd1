/- Texts of this claim, joined: WAdd, WSub, WMul, WTake. -/
import Derived.Test.YtajjgfiojlagmaaGreatDoorMO05
import Derived.Test.YtajjgfiojlagmaaGreatDoorMO03
import Derived.Deep.RegionHeld3
import Derived.Laws.CopyOwn

/- Add. -/
namespace Go.Proofs.YtajjgfiojlagmaaGreatDoor
open Go.RowKit Num

theorem words_nb (n : Nat) (hn : nl n ≤ 1099511627776) (w : World) :
    Calls Tryz.prog 92 #[.agg #[.string (nb n)]] w fun e w' =>
      e = .returned (.slice (some ⟨w.heap.size + 1, 0, none⟩) (digitsOf W n).length (digitsOf W n).length) ∧ Row w' (w.heap.size + 1) 116 (u32s (digitsOf W n)) ∧ Below w.heap.size w w' := words_nat n hn w

theorem Tryz.sizeU32 : (Tryz.prog.info? 116).map (·.size) = some 1 := by kernel_rfl

theorem u32s_length (l : List Nat) : (u32s l).length = l.length := by simp [u32s]
theorem u32s_one (l : List Nat) : ∀ v ∈ u32s l, v.oneCell' = true := by
  intro v hv; obtain ⟨d, _, rfl⟩ := List.mem_map.1 hv; rfl
end Go.Proofs.YtajjgfiojlagmaaGreatDoor

/- Sub. -/
namespace Go.Proofs.YtajjgfiojlagmaaGreatDoor
open Go.RowKit Num

end Go.Proofs.YtajjgfiojlagmaaGreatDoor

/- Mul. -/
namespace Go.Proofs.YtajjgfiojlagmaaGreatDoor
open Go.RowKit Num

end Go.Proofs.YtajjgfiojlagmaaGreatDoor

/- takeAway, giveBack. -/
namespace Go.Proofs.YtajjgfiojlagmaaGreatDoor
open Go.RowKit Num

theorem seg_get {lo xs hi : List Nat} {t i : Nat} (hl : lo.length = i) : (∀ k, k < xs.length → (lo ++ xs ++ t :: hi)[i + k]? = some (xs.getD k 0)) ∧ (lo ++ xs ++ t :: hi)[i + xs.length]? = some t := by
  constructor
  · intro k hk
    rw [List.append_assoc, List.getElem?_append_right (by omega), hl, show i + k - i = k by omega, List.getElem?_append_left hk, List.getD_eq_getElem?_getD, List.getElem?_eq_getElem hk]; rfl
  · rw [List.getElem?_append_right (by simp; omega)]
    simp [hl]

theorem seg_drop {lo xs hi : List Nat} {t i : Nat} (hl : lo.length = i) : (lo ++ xs ++ t :: hi).drop (i + xs.length) = t :: hi := by
  rw [List.drop_append_of_le_length (by simp; omega), List.drop_eq_nil_of_le (by simp; omega), List.nil_append]

def TookPost (gx E : Nat) (lo xs : List Nat) (t : Nat) (hi Y : List Nat) (d : Nat) (w : World) (e : Ending) (w' : World) : Prop :=
  e = .returned (.bool (decide (digs W (xs ++ [t]) < d * digs W Y))) ∧ w.grownBy w' (some gx) ∧
  ∃ (xs' : List Nat) (t' : Nat), Row w' gx E (u32s (lo ++ xs' ++ t' :: hi)) ∧ xs'.length = xs.length ∧ AllLt W (xs' ++ [t']) ∧
    digs W (xs' ++ [t']) = (if digs W (xs ++ [t]) < d * digs W Y then digs W (xs ++ [t]) + W ^ (xs.length + 1) - d * digs W Y else digs W (xs ++ [t]) - d * digs W Y)

theorem grown_set {w wr : World} {g : Nat} (h : w.grownBy wr (some g)) (o : Nat) (v : Value) : w.grownBy (wr.setCell ⟨g, o, none⟩ v) (some g) :=
  ⟨h.os, h.tape, h.output, by simpa using h.size, fun i hi hne => by
    rw [Below.heap_setCell _ _ _ _ (fun e => hne (by rw [e]))]; exact h.block i hi hne⟩
theorem grown_drewN {w wr : World} {r : Option Nat} (h : w.grownBy wr r) (n : Nat) : w.grownBy (wr.drewN n) r := ⟨h.os, h.tape, h.output, h.size, h.block⟩

set_option maxHeartbeats 800000 in
set_option maxRecDepth 100000 in
theorem takeAway_any (gx gy E i cx cy d t : Nat) (lo xs hi Y : List Nat) (hl : lo.length = i) (hxy : xs.length = Y.length) (hx : AllLt W xs) (ht : t < 4294967296) (hy : AllLt W Y) (hd : d < 4294967296) (hne : gx ≠ gy)
    (hs : i + xs.length ≤ 1099511627776) (w : World) (hRx : Row w gx E (u32s (lo ++ xs ++ t :: hi))) (hRy : Row w gy 116 (u32s Y)) :
    Calls Tryz.prog 118 #[.slice (some ⟨gx, i, none⟩) (Y.length + 1) cx, .slice (some ⟨gy, 0, none⟩) Y.length cy, .int .u64 d] w (TookPost gx E lo xs t hi Y d w) := by
  have HTT := Lib.hid (ta_top d hd xs Y t hxy hx hy ht)
  have HSP := Lib.hid (fun k => ta_spec d hd (xs.take k) (Y.take k) 0 (by simp [hxy]) (hx.take k) (hy.take k) (by decide))
  have HG := Lib.hid (seg_get (xs := xs) (hi := hi) (t := t) hl)
  have HD := Lib.hid (seg_drop (xs := xs) (hi := hi) (t := t) hl)
  have HX := Lib.hid hx
  have HY := Lib.hid hy
  have HL := Lib.hid hl
  have HXY := Lib.hid hxy
  have HRx := Lib.hid hRx
  have HRy := Lib.hid hRy
  have hxl : xs.length ≤ Y.length := by omega
  have hxl2 : Y.length ≤ xs.length := by omega
  clear hx hy hl hxy hRx hRy
  generalize hZ : lo ++ xs ++ t :: hi = Z at *
  have HZ := Lib.hid hZ
  clear hZ
  go_enter Tryz.func118, Tryz.ntmps118
  go_wp2_with fail
  go_loopw [7, 13] (fun r kv wr => ∃ k : Nat, k ≤ Y.length ∧ kv = .int .i64 (k : Nat) ∧ r = .int .u64 ((ta d 0 (xs.take k) (Y.take k)).2 : Nat) ∧
      Row wr gx E (u32s (lo ++ (ta d 0 (xs.take k) (Y.take k)).1 ++ Z.drop (i + k))) ∧ Row wr gy 116 (u32s Y) ∧ w.grownBy wr (some gx))
    (fun _ kv _ => Y.length - (intOf kv).toNat)
  case atStart =>
    refine ⟨0, Nat.zero_le _, rfl, by simp [ta], ?_, HRy.out, World.grownBy.refl _ _⟩
    have : lo ++ (ta d 0 (xs.take 0) (Y.take 0)).1 ++ Z.drop (i + 0) = Z := by
      simp only [List.take_zero, ta, List.append_nil, Nat.add_zero]
      rw [← HZ.out, List.append_assoc, List.drop_append_of_le_length (by have := HL.out; omega), List.drop_eq_nil_of_le (by have := HL.out; omega), List.nil_append]
    rw [this]; exact HRx.out
  case round =>
    obtain ⟨k, hk, rfl, rfl, hR, hRy, hG⟩ := hrel
    clear HRx HRy
    have hb1 := (HSP.out k).2.2
    unfold W at hb1
    have hclen : (lo ++ (ta d 0 (xs.take k) (Y.take k)).1).length = i + k := by
      rw [List.length_append, ta_length _ _ _ _ (by rw [List.length_take, List.length_take]; omega), List.length_take]; have := HL.out; omega
    by_cases hlk : k < Y.length
    · have HST := Lib.hid (ta_take_succ d 0 xs Y k HXY.out (by omega))
      have hc1 : wr.cell? ⟨gx, i + k, none⟩ = some (.int .u32 (xs.getD k 0 : Nat)) :=
        hR.cell (u32s_get _ _ _ (by rw [get_done hclen (Nat.le_refl _)]; exact HG.out.1 k (by omega)))
      have hc2 : wr.cell? ⟨gy, k, none⟩ = some (.int .u32 (Y.getD k 0 : Nat)) :=
        hRy.cell (u32s_get _ _ _ (by rw [List.getD_eq_getElem?_getD, List.getElem?_eq_getElem (by omega)]; rfl))
      have hf := hR.free (i + k)
      have hxk := HX.out.getD (by decide) k
      have hyk := HY.out.getD (by decide) k
      unfold W at hxk hyk
      have HSD := Lib.hid (fun v => set_done (v := v) (xs := Z) hclen (by
        rw [← HZ.out]; simp [HL.out]; omega))
      have HR := Lib.hid hR
      have HRY := Lib.hid hRy
      have HGG := Lib.hid hG
      clear hR hRy hG hclen
      generalize Y.getD k 0 = y at *
      generalize xs.getD k 0 = x at *
      generalize ta d 0 (xs.take k) (Y.take k) = cc at *
      obtain ⟨p, hp⟩ : ∃ p : Nat, p = d * y := ⟨_, rfl⟩
      have hpI : (d : Int) * y = p := by rw [hp]; simp
      have hp2 : p ≤ 4294967295 * 4294967295 := by rw [hp]; exact Nat.mul_le_mul (by omega) (by omega)
      rw [← hp] at HST
      clear hp
      by_cases hless : x < (p + cc.2) % 4294967296
      case' pos =>
        have HE1 : Hid (((x : Int) - (p + cc.2)) % 4294967296 = (ta1 x ((p + cc.2) % W) : Nat)) := by unfold Hid ta1 W; rw [if_pos hless]; omega
        have HE2 : Hid (((p : Int) + cc.2) / 4294967296 + 1 = (ta2 x ((p + cc.2) % W) (p + cc.2) : Nat)) := by unfold Hid ta2 W; rw [if_pos hless]; omega
      case' neg =>
        have HE1 : Hid ((x : Int) - (p + cc.2) % 4294967296 = (ta1 x ((p + cc.2) % W) : Nat)) := by unfold Hid ta1 W; rw [if_neg hless]; omega
        have HE2 : Hid (((p : Int) + cc.2) / 4294967296 = (ta2 x ((p + cc.2) % W) (p + cc.2) : Nat)) := by unfold Hid ta2 W; rw [if_neg hless]; omega
      all_goals
        go_wp2_with fail
        go_roundw
        case rel =>
          refine ⟨k + 1, by omega, by go_num, ?_, ?_, HRY.out.setOther _ hne _, grown_set HGG.out _ _⟩
          · rw [HST.out, HE2.out]
          · rw [HE1.out]
            have := HR.out.set (i + k) (.int .u32 (ta1 x ((p + cc.2) % W) : Nat))
            rw [u32s_set, HSD.out] at this
            rw [HST.out]
            simpa [Nat.add_assoc] using this
        case measure => simp [intOf]; omega
    · obtain rfl : k = Y.length := by omega
      have htx : xs.take Y.length = xs := List.take_of_length_le hxl
      have hty : Y.take Y.length = Y := List.take_of_length_le (Nat.le_refl _)
      have hil : i + Y.length = i + xs.length := by omega
      rw [htx, hty] at hR hclen hb1 ⊢
      have hdr := HD.out
      rw [← hil] at hdr
      rw [hdr] at hR
      have HSP2 := HSP.out Y.length
      rw [htx, hty] at HSP2
      have HLT := Lib.hid HSP2.2.1
      have hlen2 := ta_length d xs Y 0 HXY.out
      have hc1 : wr.cell? ⟨gx, i + Y.length, none⟩ = some (.int .u32 (t : Nat)) :=
        hR.cell (u32s_get _ _ _ (by rw [List.getElem?_append_right (by omega), hclen, Nat.sub_self]; rfl))
      have hf := hR.free (i + Y.length)
      have HR := Lib.hid hR
      have HRY := Lib.hid hRy
      have HGG := Lib.hid hG
      have HCN := Lib.hid hclen
      have HLN := Lib.hid hlen2
      clear hR hRy hG hclen htx hty hil hdr HSP2 hlen2
      generalize ta d 0 xs Y = cc at *
      by_cases hless : t < cc.2
      case' pos =>
        have HE1 : Hid (((t : Int) - cc.2) % 4294967296 = (ta1 t cc.2 : Nat)) := by unfold Hid ta1 W; rw [if_pos hless]; omega
        have HE2 : Hid (decide (digs W (xs ++ [t]) < d * digs W Y) = true) := by unfold Hid; rw [decide_eq_true_eq]; exact HTT.out.1.1 hless
      case' neg =>
        have HE1 : Hid ((t : Int) - cc.2 = (ta1 t cc.2 : Nat)) := by unfold Hid ta1 W; rw [if_neg hless]; omega
        have HE2 : Hid (decide (digs W (xs ++ [t]) < d * digs W Y) = false) := by unfold Hid; rw [decide_eq_false_iff_not]; exact fun h => hless (HTT.out.1.2 h)
      all_goals
        go_wp2_with fail
        go_ret
        refine ⟨by rw [HE2.out]; rfl, grown_set HGG.out _ _, cc.1, ta1 t cc.2, ?_, HLN.out, HLT.out.append (AllLt.cons (ta1_lt ht hb1) (AllLt.nil W)), HTT.out.2⟩
        rw [HE1.out]
        have := HR.out.set (i + Y.length) (.int .u32 (ta1 t cc.2 : Nat))
        rw [u32s_set, List.set_append_right _ _ (by rw [HCN.out]; omega), HCN.out, Nat.sub_self] at this
        exact this
end Go.Proofs.YtajjgfiojlagmaaGreatDoor
