/- shrink, grow. -/
import Derived.Test.YtlomlcljjidfjaaWSmall
import Derived.Test.YtlomlcljjidfjaaNatC
namespace Go.Proofs.Ytlomlcljjidfjaa
open Go.RowKit Num

/-- What shrink leaves in a row of words whose first n are its slice. -/
def shrunk (cells : List Nat) (n b k : Nat) : List Nat := cells.take k ++ (shr W b ((cells.take n).drop k)).1 ++ cells.drop n

theorem shrunk_full (cells : List Nat) (n b : Nat) (hn : n ≤ cells.length) : shrunk cells n b n = cells := by
  unfold shrunk
  rw [List.drop_eq_nil_of_le (by simp; omega)]
  simp [shr]

theorem shr_drop_pred (l : List Nat) (b k : Nat) (hk : 0 < k) (hl : k ≤ l.length) :
    shr W b (l.drop (k - 1)) = (((shr W b (l.drop k)).2 * W + l.getD (k - 1) 0) / b :: (shr W b (l.drop k)).1, ((shr W b (l.drop k)).2 * W + l.getD (k - 1) 0) % b) := by
  rw [List.drop_eq_getElem_cons (i := k - 1) (by omega), show k - 1 + 1 = k by omega]
  simp only [shr]
  rw [List.getD_eq_getElem?_getD, List.getElem?_eq_getElem (by omega)]
  rfl

theorem shrunk_step (cells : List Nat) (n b k : Nat) (hn : n ≤ cells.length) (hk : 0 < k) (hkn : k ≤ n) :
    (shrunk cells n b k).set (k - 1) (((shr W b ((cells.take n).drop k)).2 * W + cells.getD (k - 1) 0) / b) = shrunk cells n b (k - 1) := by
  have hl : (cells.take n).length = n := by simp; omega
  have hg : (cells.take n).getD (k - 1) 0 = cells.getD (k - 1) 0 := by rw [getD_take, if_pos (by omega)]
  unfold shrunk
  rw [shr_drop_pred (cells.take n) b k hk (by omega), hg]
  have h1 : cells.take k = cells.take (k - 1) ++ [cells[k - 1]'(by omega)] := by
    have := List.take_succ_eq_append_getElem (i := k - 1) (l := cells) (by omega)
    rwa [show k - 1 + 1 = k by omega] at this
  rw [h1, List.append_assoc, List.append_assoc, List.set_append_right _ _ (by rw [List.length_take]; omega)]
  have h2 : k - 1 - (cells.take (k - 1)).length = 0 := by rw [List.length_take]; omega
  rw [h2]
  simp

theorem shrunk_get (cells : List Nat) (n b k : Nat) (hn : n ≤ cells.length) (hk : 0 < k) (hkn : k ≤ n) : (shrunk cells n b k)[k - 1]? = some (cells.getD (k - 1) 0) := by
  unfold shrunk
  rw [List.append_assoc, List.getElem?_append_left (by simp; omega), List.getElem?_take, if_pos (by omega), List.getD_eq_getElem?_getD, List.getElem?_eq_getElem (by omega)]
  rfl

theorem shl_or (r d : Nat) (hr : r < 4294967296) (hd : d < 4294967296) :
    bits BinOp.or IntKind.u64 ((r : Int) * 4294967296) (d : Nat) = (r : Int) * 4294967296 + d := by
  have e : (r : Int) * 4294967296 = ((r * 4294967296 : Nat) : Int) := by omega
  rw [e, u64_or_nat _ _ (by omega) (by omega), Nat.or_comm]
  have := or_high 32 d r (by omega)
  rw [show (2 : Nat) ^ 32 = 4294967296 by decide] at this
  rw [this]; omega

set_option maxHeartbeats 400000 in
theorem shrink_any (g E n c b : Nat) (cells : List Nat) (hn : n ≤ cells.length) (hl : AllLt W cells) (hb0 : 0 < b) (hb : b < 4294967296) (hs : n ≤ 1099511627776) (w : World) (hR : Row w g E (u32s cells)) :
    Calls Try.prog 65 #[.slice (some ⟨g, 0, none⟩) n c, .int .u32 b] w fun e w' =>
      e = .returned (.int .u32 (digs W (cells.take n) % b : Nat)) ∧ Row w' g E (u32s (shrunk cells n b 0)) ∧ w.grownBy w' (some g) := by
  have HR := Lib.hid hR
  have HL := Lib.hid hl
  clear hR hl
  go_enter Try.func65, Try.ntmps65
  go_wp2_with fail
  go_loopw [5, 6] (fun r i wr => ∃ k : Nat, k ≤ n ∧ i = .int .i64 ((k : Int) - 1) ∧ r = .int .u64 ((shr W b ((cells.take n).drop k)).2 : Nat) ∧ Row wr g E (u32s (shrunk cells n b k)) ∧ w.grownBy wr (some g))
    (fun _ i _ => (intOf i + 1).toNat)
  case atStart =>
    refine ⟨n, Nat.le_refl _, rfl, ?_, by rw [shrunk_full _ _ _ hn]; exact HR.out, World.grownBy.refl _ _⟩
    rw [List.drop_eq_nil_of_le (by simp; omega)]; rfl
  case round =>
    obtain ⟨k, hk, rfl, rfl, hR, hG⟩ := hrel
    clear HR
    have HRem := Lib.hid (shr_digs W b hb0 ((cells.take n).drop 0)).2
    have hrl := (shr_spec W b hb0 ((cells.take n).drop k)).2
    by_cases hpos : 0 < k
    · have hd := HL.out.getD (by decide) (k - 1)
      unfold W at hd
      have hc : wr.cell? ⟨g, k - 1, none⟩ = some (.int .u32 (cells.getD (k - 1) 0 : Nat)) := hR.cell (u32s_get _ _ _ (shrunk_get _ _ _ _ hn hpos hk))
      have hf : wr.frozen? ⟨g, k - 1, none⟩ = false := hR.free _
      have HR := Lib.hid hR
      have HG := Lib.hid hG
      clear hR hG
      have HST := Lib.hid (shrunk_step cells n b k hn hpos hk)
      have HSP := Lib.hid (congrArg Prod.snd (shr_drop_pred (cells.take n) b k hpos (by simp; omega)))
      rw [show (cells.take n).getD (k - 1) 0 = cells.getD (k - 1) 0 by rw [getD_take, if_pos (by omega)]] at HSP
      generalize cells.getD (k - 1) 0 = d at *
      generalize (shr W b ((cells.take n).drop k)).2 = r at *
      have hO := shl_or r d (by omega) hd
      have hq : (r * 4294967296 + d) / b < 4294967296 := by
        rw [Nat.div_lt_iff_lt_mul hb0]
        have : (r + 1) * 4294967296 ≤ b * 4294967296 := Nat.mul_le_mul_right _ hrl
        omega
      have HQ : Hid (((r : Int) * 4294967296 + d) / b % 4294967296 = (((r * 4294967296 + d) / b : Nat) : Int)) := by
        have : ((r : Int) * 4294967296 + d) / b = (((r * 4294967296 + d) / b : Nat) : Int) := by simp
        rw [this]; generalize (r * 4294967296 + d) / b = z at *; unfold Hid; omega
      clear hq
      go_wp2_with fail
      go_roundw
      case rel =>
        refine ⟨k - 1, by omega, by go_num, ?_, ?_, ?_⟩
        · rw [HSP.out]; simp [W]
        · rw [HQ.out]
          have := HR.out.set (k - 1) (.int .u32 ((r * 4294967296 + d) / b : Nat))
          rw [u32s_set] at this
          have h2 := HST.out
          unfold W at h2
          rw [h2] at this
          exact this
        · exact ⟨HG.out.os, HG.out.tape, HG.out.output, by simpa using HG.out.size, fun i hi hne => by
            rw [Below.heap_setCell _ _ _ _ (fun e => hne (by rw [e]))]; exact HG.out.block i hi hne⟩
      case measure => simp [intOf]; omega
    · obtain rfl : k = 0 := by omega
      have HR := Lib.hid hR
      have HG := Lib.hid hG
      clear hR hG
      have hlt : (shr W b ((cells.take n).drop 0)).2 < 4294967296 := by omega
      generalize hgen : (shr W b ((cells.take n).drop 0)).2 = r at *
      have HE := Lib.hid hgen
      clear hgen
      go_wp2
      go_ret
      refine ⟨?_, HR.out, HG.out⟩
      rw [List.drop_zero] at HRem
      rw [← HRem.out]
      exact ret_int (by omega)
end Go.Proofs.Ytlomlcljjidfjaa
