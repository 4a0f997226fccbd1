/- giveBack, shifted. -/
import Derived.Test.YtlomlcljjidfjaaWTake
import Derived.Test.YtlomlcljjidfjaaNatK
namespace Go.Proofs.Ytlomlcljjidfjaa
open Go.RowKit Num

/-- What giveBack leaves. -/
def GavePost (gx E : Nat) (lo xs : List Nat) (t : Nat) (hi Y : List Nat) (w : World) (e : Ending) (w' : World) : Prop :=
  e = .returned (.tuple #[]) ∧ w.grownBy w' (some gx) ∧
  ∃ (xs' : List Nat) (t' : Nat), Row w' gx E (u32s (lo ++ xs' ++ t' :: hi)) ∧ xs'.length = xs.length ∧ AllLt W (xs' ++ [t']) ∧
    digs W (xs' ++ [t']) = (digs W (xs ++ [t]) + digs W Y) % W ^ (xs.length + 1)

set_option maxHeartbeats 800000 in
set_option maxRecDepth 100000 in
theorem giveBack_any (gx gy E i cx cy t : Nat) (lo xs hi Y : List Nat) (hl : lo.length = i) (hxy : xs.length = Y.length) (hx : AllLt W xs) (ht : t < 4294967296) (hy : AllLt W Y) (hne : gx ≠ gy)
    (hs : i + xs.length ≤ 1099511627776) (w : World) (hRx : Row w gx E (u32s (lo ++ xs ++ t :: hi))) (hRy : Row w gy 83 (u32s Y)) :
    Calls Try.prog 79 #[.slice (some ⟨gx, i, none⟩) (Y.length + 1) cx, .slice (some ⟨gy, 0, none⟩) Y.length cy] w (GavePost gx E lo xs t hi Y w) := by
  have HTT := Lib.hid (gb_top xs Y t hxy)
  have HTE := Lib.hid (addL_le (B := W) (by decide) hx hy)
  have htl := addL_length xs Y hxy
  have HTG := Lib.hid (addL_getD xs Y hxy)
  have HCL := Lib.hid (cl_lt W (by decide) (addL xs Y) 0)
  have HG := Lib.hid (seg_get (xs := xs) (hi := hi) (t := t) hl)
  have HD := Lib.hid (seg_drop (xs := xs) (hi := hi) (t := t) hl)
  have HX := Lib.hid hx
  have HY := Lib.hid hy
  have HL := Lib.hid hl
  have HRx := Lib.hid hRx
  have HRy := Lib.hid hRy
  have hxl : xs.length ≤ Y.length := by omega
  have hxl2 : Y.length ≤ xs.length := by omega
  clear hx hy hl hxy hRx hRy
  generalize hZ : lo ++ xs ++ t :: hi = Z at *
  have HZ := Lib.hid hZ
  have HTL := Lib.hid htl
  clear hZ htl
  go_enter Try.func79, Try.ntmps79
  go_wp2_with fail
  go_loopw [4, 8] (fun r kv wr => ∃ k : Nat, k ≤ Y.length ∧ kv = .int .i64 (k : Nat) ∧ r = .int .u64 ((cl W 0 ((addL xs Y).take k)).2 : Nat) ∧
      Row wr gx E (u32s (lo ++ (cl W 0 ((addL xs Y).take k)).1 ++ Z.drop (i + k))) ∧ Row wr gy 83 (u32s Y) ∧ w.grownBy wr (some gx))
    (fun _ kv _ => Y.length - (intOf kv).toNat)
  case atStart =>
    refine ⟨0, Nat.zero_le _, rfl, by simp [cl], ?_, HRy.out, World.grownBy.refl _ _⟩
    have : lo ++ (cl W 0 ((addL xs Y).take 0)).1 ++ Z.drop (i + 0) = Z := by
      simp only [List.take_zero, cl, List.append_nil, Nat.add_zero]
      rw [← HZ.out, List.append_assoc, List.drop_append_of_le_length (by have := HL.out; omega), List.drop_eq_nil_of_le (by have := HL.out; omega), List.nil_append]
    rw [this]; exact HRx.out
  case round =>
    obtain ⟨k, hk, rfl, rfl, hR, hRy, hG⟩ := hrel
    clear HRx HRy
    have hb1 : (cl W 0 ((addL xs Y).take k)).2 < 4294967296 := cl_carry W (by decide) _ _ (by decide) (fun t ht => HTE.out t (List.mem_of_mem_take ht))
    have hclen : (lo ++ (cl W 0 ((addL xs Y).take k)).1).length = i + k := by
      rw [List.length_append, cl_length, List.length_take, HTL.out]; have := HL.out; omega
    by_cases hlk : k < Y.length
    · have HST := Lib.hid (cl_take_succ W 0 (addL xs Y) k (by rw [HTL.out]; omega))
      rw [HTG.out k] at HST
      have hc1 : wr.cell? ⟨gx, i + k, none⟩ = some (.int .u32 (xs.getD k 0 : Nat)) :=
        hR.cell (u32s_get _ _ _ (by rw [get_done hclen (Nat.le_refl _)]; exact HG.out.1 k (by omega)))
      have hc2 : wr.cell? ⟨gy, k, none⟩ = some (.int .u32 (Y.getD k 0 : Nat)) :=
        hRy.cell (u32s_get _ _ _ (by rw [List.getD_eq_getElem?_getD, List.getElem?_eq_getElem (by omega)]; rfl))
      have hf := hR.free (i + k)
      have hxk := HX.out.getD (by decide) k
      have hyk := HY.out.getD (by decide) k
      unfold W at hxk hyk
      have HSD := Lib.hid (fun v => set_done (v := v) (xs := Z) hclen (by
        rw [← HZ.out]; simp [HL.out]; omega))
      have HR := Lib.hid hR
      have HRY := Lib.hid hRy
      have HGG := Lib.hid hG
      clear hR hRy hG hclen
      generalize Y.getD k 0 = y at *
      generalize xs.getD k 0 = x at *
      generalize cl W 0 ((addL xs Y).take k) = cc at *
      go_wp2_with fail
      go_quiet (fail)
      go_wp2_with fail
      go_roundw
      case rel =>
        refine ⟨k + 1, by omega, by go_num, ?_, ?_, (HRY.out.drewN _).setOther _ hne _, grown_set (grown_drewN HGG.out _) _ _⟩
        · rw [HST.out]; simp [W]
        · have := (HR.out.drewN nq).set (i + k) (.int .u32 ((cc.2 + (x + y)) % W : Nat))
          rw [u32s_set, HSD.out] at this
          rw [HST.out]
          simpa [W, Nat.add_assoc] using this
      case measure => simp [intOf]; omega
    · obtain rfl : k = Y.length := by omega
      have htx : (addL xs Y).take Y.length = addL xs Y := List.take_of_length_le (by rw [HTL.out]; omega)
      have hil : i + Y.length = i + xs.length := by omega
      rw [htx] at hR hclen hb1 ⊢
      have hdr := HD.out
      rw [← hil] at hdr
      rw [hdr] at hR
      have hc1 : wr.cell? ⟨gx, i + Y.length, none⟩ = some (.int .u32 (t : Nat)) :=
        hR.cell (u32s_get _ _ _ (by rw [List.getElem?_append_right (by omega), hclen, Nat.sub_self]; rfl))
      have hf := hR.free (i + Y.length)
      have HR := Lib.hid hR
      have HRY := Lib.hid hRy
      have HGG := Lib.hid hG
      have HCN := Lib.hid hclen
      have HLN : Hid ((cl W 0 (addL xs Y)).1.length = xs.length) := by unfold Hid; rw [cl_length, HTL.out]
      clear hR hRy hG hclen htx hil hdr
      generalize cl W 0 (addL xs Y) = cc at *
      go_wp2_with fail
      go_end0
      refine ⟨rfl, grown_set HGG.out _ _, cc.1, (t + cc.2) % W, ?_, HLN.out, HCL.out.append (AllLt.cons (Nat.mod_lt _ (by decide)) (AllLt.nil W)), HTT.out⟩
      have := HR.out.set (i + Y.length) (.int .u32 ((t + cc.2) % W : Nat))
      rw [u32s_set, List.set_append_right _ _ (by rw [HCN.out]; omega), HCN.out, Nat.sub_self] at this
      simpa [W] using this

/-! ### shifted -/

/-- A word shifted, and what it hands on, in the walk's spelling. -/
theorem shl_word (x c s : Nat) (hs : s ≤ 31) (hx : x < 4294967296) (hc : c < 2 ^ s) :
    bits BinOp.or IntKind.u32 ((x : Int) * 2 ^ s % 4294967296) (c : Nat) = ((c + x * 2 ^ s) % W : Nat) ∧ (x : Int) / 2 ^ (32 - s) % 4294967296 = ((c + x * 2 ^ s) / W : Nat) := by
  have e0 : (x : Int) * 2 ^ s % 4294967296 = ((x * 2 ^ s % 4294967296 : Nat) : Int) := by simp
  have hp : (2 : Nat) ^ s * 2 ^ (32 - s) = 4294967296 := by rw [← Nat.pow_add]; rw [show s + (32 - s) = 32 by omega]
  have h1 : x * 2 ^ s % 4294967296 = (x % 2 ^ (32 - s)) * 2 ^ s := by
    rw [← hp, Nat.mul_comm x, Nat.mul_mod_mul_left, Nat.mul_comm]
  have h2 := Nat.div_add_mod x (2 ^ (32 - s))
  have hc2 : c < 4294967296 := by
    have : (2 : Nat) ^ s ≤ 2 ^ 31 := Nat.pow_le_pow_right (by omega) hs
    have e : (2 : Nat) ^ 31 = 2147483648 := by decide
    omega
  have h3 : (x % 2 ^ (32 - s)) < 2 ^ (32 - s) := Nat.mod_lt _ (Nat.pow_pos (by omega))
  have h5 : c + (x % 2 ^ (32 - s)) * 2 ^ s < 4294967296 := by
    have : (x % 2 ^ (32 - s) + 1) * 2 ^ s ≤ 2 ^ (32 - s) * 2 ^ s := Nat.mul_le_mul_right _ h3
    rw [Nat.add_mul, Nat.mul_comm (2 ^ (32 - s)), hp] at this
    omega
  have h6 : c + x * 2 ^ s = 4294967296 * (x / 2 ^ (32 - s)) + (c + (x % 2 ^ (32 - s)) * 2 ^ s) := by
    conv => lhs; rw [← h2]
    rw [Nat.add_mul, Nat.mul_comm (2 ^ (32 - s)), Nat.mul_assoc, Nat.mul_comm (2 ^ (32 - s)), hp]
    omega
  constructor
  · rw [e0, u32_or_nat _ _ (Nat.mod_lt _ (by decide)) hc2, h1, Nat.or_comm, or_high _ _ _ hc]
    have : (c + x * 2 ^ s) % W = c + (x % 2 ^ (32 - s)) * 2 ^ s := by
      rw [h6]; unfold W; omega
    rw [this]
  · have : (c + x * 2 ^ s) / W = x / 2 ^ (32 - s) := by
      rw [h6]; unfold W; omega
    rw [this]
    have e7 : (x : Int) / 2 ^ (32 - s) = ((x / 2 ^ (32 - s) : Nat) : Int) := by simp
    rw [e7]
    have : x / 2 ^ (32 - s) ≤ x := Nat.div_le_self _ _
    omega

theorem CellsU.all {w : World} {a : Option Addr} {l : List Nat} (h : CellsU w a l) (h0 : 0 < l.length) :
    ∃ b o, a = some ⟨b, o, none⟩ ∧ b < w.heap.size ∧ ∀ j d, l[j]? = some d → w.cell? ⟨b, o + j, none⟩ = some (.int .u32 (d : Nat)) := by
  obtain ⟨b, o, rfl, hc⟩ := h 0 _ (List.getElem?_eq_getElem h0)
  refine ⟨b, o, rfl, ?_, fun j d hj => ?_⟩
  · have := World.block_lt_of_cell? w _ hc; simpa using this
  · obtain ⟨b', o', e, hc'⟩ := h j d hj
    simp only [Option.some.injEq, Addr.mk.injEq, and_true] at e
    rw [e.1, e.2]; exact hc'

theorem splice_all (l : List Nat) : splice (u32s (List.replicate l.length 0)) 0 (u32s l) = u32s l := by
  unfold splice
  simp [u32s]

set_option maxHeartbeats 800000 in
set_option maxRecDepth 100000 in
theorem shifted_any (a : Option Addr) (n c s : Nat) (l : List Nat) (hn : l.length = n) (hl : AllLt W l) (hs : s ≤ 31) (hsz : n ≤ 1099511627776) (w : World) (hcell : CellsU w a l) :
    Calls Try.prog 70 #[.slice a n c, .int .u64 s] w fun e w' =>
      e = .returned (.slice (some ⟨w.heap.size, 0, none⟩) n n) ∧ Row w' w.heap.size 83 (u32s (shl l s)) ∧ Below w.heap.size w w' := by
  obtain ⟨i0, hi, hz0, hz1, hz2⟩ := info_parts Try.infoU32
  have HC := Lib.hid hcell
  have HL := Lib.hid hl
  have HN := Lib.hid hn
  clear hcell hl hn
  go_enter Try.func70, Try.ntmps70
  go_wp2_with (at_make; refine wpList_make_full _ rfl (.tmp 10) (.tmp 10) 80 rfl w.heap.size 83 i0 (.int .u32 0) 1 Try.underlying80 hi hz0 hz1 .i64 .i64 _ _ n rfl rfl (by omega) (by omega) (by rw [hz2]; omega) (by unfold maxLen; omega) (Nat.le_refl _) ?_)
  intro w1 hown hgr
  have hR := Row.ofOwns hown
  rw [u32s_zeros] at hR
  have hB : Below w.heap.size w w1 := grown_below hgr (Nat.le_refl _) (by simp)
  have HR := Lib.hid hR
  have HB := Lib.hid hB
  have hs1 : w.heap.size < w1.heap.size := hR.lt
  clear hown hgr hR hB
  go_wp2_with (refine wpList_copy_splice (o := ⟨some 14, _, _, _, _, _⟩) rfl (.tmp 12) (.tmp 13) 80 80 rfl 83 Try.underlying80 Try.sizeU32 _ _ _ _ _ _ rfl rfl w.heap.size 0 (u32s (List.replicate n 0)) 83 HR.out (u32s l) ?_ ?_ ?_ ?_ w.heap.size w HB.out (Nat.le_refl _) ?_)
  · rw [u32s_length, HN.out]; exact (Nat.min_self n).symm
  · intro h0
    obtain ⟨b, o, rfl, hb, hc⟩ := HC.out.all (by simpa [u32s] using h0)
    refine ⟨_, rfl, fun j v hj => ?_⟩
    obtain ⟨d, hd, rfl⟩ : ∃ d, l[j]? = some d ∧ Value.int .u32 (d : Nat) = v := by
      simpa [u32s, List.getElem?_map, Option.map_eq_some_iff] using hj
    rw [show (⟨b, o, none⟩ : Addr).add j = ⟨b, o + j, none⟩ by unfold Addr.add; split <;> simp_all]
    exact below_cell HB.out hb (hc j d hd)
  · simp [u32s, HN.out]
  · exact u32s_one l
  intro w2 hR2 hB2
  have hspl := splice_all l
  rw [HN.out] at hspl
  rw [hspl] at hR2
  have HR2 : Hid (Row w2 w.heap.size 83 (u32s l)) := hR2
  have HB2 := Lib.hid hB2
  have hs2 : w.heap.size < w2.heap.size := Row.lt HR2.out
  clear hspl hR2 hB2 HR HB
  have hml : (l.map (· * 2 ^ s)).length = l.length := by simp
  have HML := Lib.hid hml
  clear hml
  have HCA := Lib.hid (shl_carry l s hs HL.out)
  go_wp2_with fail
  go_loopw [6, 17] (fun r iv wr => ∃ k : Nat, k ≤ n ∧ iv = .int .i64 (k : Nat) ∧ r = .int .u32 ((cl W 0 ((l.map (· * 2 ^ s)).take k)).2 : Nat) ∧
      Row wr w.heap.size 83 (u32s ((cl W 0 ((l.map (· * 2 ^ s)).take k)).1 ++ l.drop k)) ∧ Below w.heap.size w wr)
    (fun _ iv _ => n - (intOf iv).toNat)
  case atStart => exact ⟨0, Nat.zero_le _, rfl, by simp [cl], by simpa [cl] using HR2.out, HB2.out⟩
  case round =>
    obtain ⟨k, hk, rfl, rfl, hR, hB⟩ := hrel
    clear HR2 HB2 hs2 hs1
    have hclen : (cl W 0 ((l.map (· * 2 ^ s)).take k)).1.length = k := by rw [cl_length, List.length_take, HML.out, HN.out]; omega
    by_cases hlk : k < n
    · have hkl : k < l.length := by rw [HN.out]; exact hlk
      obtain ⟨b, o, rfl, hb, hc⟩ := HC.out.all (by omega)
      have HST := Lib.hid (cl_take_succ W 0 (l.map (· * 2 ^ s)) k (by rw [HML.out]; exact hkl))
      have hgm : (l.map (· * 2 ^ s)).getD k 0 = l.getD k 0 * 2 ^ s := by simp [List.getD_eq_getElem?_getD, hkl]
      rw [hgm] at HST
      have hc1 : wr.cell? ⟨b, o + k, none⟩ = some (.int .u32 (l.getD k 0 : Nat)) :=
        below_cell hB hb (hc k _ (by rw [List.getD_eq_getElem?_getD, List.getElem?_eq_getElem hkl]; rfl))
      have hc2 : wr.cell? ⟨w.heap.size, k, none⟩ = some (.int .u32 (l.getD k 0 : Nat)) :=
        hR.cell (u32s_get _ _ _ (by rw [get_done hclen (Nat.le_refl _), List.getD_eq_getElem?_getD, List.getElem?_eq_getElem hkl]; rfl))
      have hf := hR.free k
      have hx := HL.out.getD (by decide) k
      unfold W at hx
      have hcc := HCA.out k
      have HSD := Lib.hid (fun v => set_done (v := v) (xs := l) hclen hkl)
      have HR := Lib.hid hR
      have HB := Lib.hid hB
      clear hR hB hclen hc hgm
      generalize l.getD k 0 = x at *
      generalize cl W 0 ((l.map (· * 2 ^ s)).take k) = cc at *
      have HW1 := Lib.hid (shl_word x cc.2 s hs hx hcc)
      have HCC := Lib.hid hcc
      clear hcc
      go_wp2_with fail
      go_roundw
      case rel =>
        refine ⟨k + 1, by omega, by go_num, ?_, ?_, HB.out.setCell (by simp) _⟩
        · rw [HST.out, HW1.out.2]
        · rw [HW1.out.1]
          have := HR.out.set k (.int .u32 ((cc.2 + x * 2 ^ s) % W : Nat))
          rw [u32s_set, HSD.out] at this
          rw [HST.out]
          exact this
      case measure => simp [intOf]; omega
    · have HR := Lib.hid hR
      have HB := Lib.hid hB
      clear hR hB
      go_wp2_with fail
      go_ret
      refine ⟨rfl, ?_, HB.out⟩
      have := HR.out
      rw [List.take_of_length_le (by rw [HML.out, HN.out]; omega), List.drop_eq_nil_of_le (by rw [HN.out]; omega), List.append_nil] at this
      exact this
end Go.Proofs.Ytlomlcljjidfjaa
