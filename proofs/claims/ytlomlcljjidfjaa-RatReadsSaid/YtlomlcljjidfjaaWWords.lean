/- The walk of words. -/
import Derived.Test.YtlomlcljjidfjaaRows
import Derived.Test.YtlomlcljjidfjaaBase
import Derived.Test.YtlomlcljjidfjaaNatA
import Derived.WalkKit
import Derived.WalkSpells
import Derived.WalkLawsBesides
import Derived.Lib.Hide
namespace Go.Proofs.Ytlomlcljjidfjaa
open Go.RowKit Num

theorem Try.infoU32 : (Try.prog.info? 83).map (fun i => (i.zero, i.size, i.bytes)) = some (some (.int .u32 0), 1, 4) := by kernel_rfl

set_option maxHeartbeats 400000 in
theorem words_any (s : ByteArray) (hs : s.size ≤ 1099511627776) (w : World) :
    Calls Try.prog 64 #[.agg #[.string s]] w fun e w' =>
      e = .returned (.slice (some ⟨w.heap.size + 1, 0, none⟩) ((s.size + 3) / 4) ((s.size + 3) / 4)) ∧ Row w' (w.heap.size + 1) 83 (u32s (wds (bts s) ((s.size + 3) / 4))) ∧ Below w.heap.size w w' := by
  obtain ⟨i0, hi, hz0, hz1, hz2⟩ := info_parts Try.infoU32
  go_enter Try.func64, Try.ntmps64
  go_wp2_with (at_make; refine wpList_make_full _ rfl (.tmp 9) (.tmp 9) 80 rfl (w.heap.size + 1) 83 i0 (.int .u32 0) 1 Try.underlying80 hi hz0 hz1 .i64 .i64 _ _ ((s.size + 3)/4) rfl rfl (by omega) (by omega) (by rw [hz2]; omega) (by unfold maxLen; omega) (by simp) ?_)
  intro w1 hown hgr
  have hR := Row.ofOwns hown
  have hb : Below (w.heap.size+1) (w.alloc (Obj.cells #[Value.string s] 25)) w1 := grown_below hgr (by simp) (by simp)
  have hbox : w1.cell? ⟨w.heap.size, 0, none⟩ = some (.string s) := below_cell hb (by omega) (by simp)
  have hB : Below w.heap.size w w1 := ((Below.refl _ _).alloc (Nat.le_refl _) _).trans (hb.mono (by omega))
  clear hown hgr hb
  rw [u32s_zeros] at hR
  have HR := Lib.hid hR
  have HB := Lib.hid hB
  clear hR hB
  go_wp2_with fail
  go_loopw [14] (fun i wr => ∃ k : Nat, k ≤ s.size ∧ i = .int .i64 k ∧ Row wr (w.heap.size+1) 83 (u32s (wds ((bts s).take k) ((s.size + 3)/4))) ∧ wr.cell? ⟨w.heap.size, 0, none⟩ = some (.string s) ∧ Below w.heap.size w wr)
    (fun i _ => s.size - (intOf i).toNat)
  case atStart =>
    refine ⟨0, Nat.zero_le _, rfl, ?_, hbox, HB.out⟩
    have e : List.replicate ((s.size + 3) / 4) 0 = wds ((bts s).take 0) ((s.size + 3)/4) := by
      apply List.ext_getElem
      · simp [wds]
      · intro i h1 h2; simp [wds, wdAt]
    rw [← e]; exact HR.out
  case round =>
    obtain ⟨k, hk, rfl, hR, hbox, hB⟩ := hrel
    clear HR HB
    by_cases hlt : k < s.size
    · have hc : wr.cell? ⟨w.heap.size + 1, k / 4, none⟩ = some (.int .u32 (wdAt ((bts s).take k) (k/4) : Nat)) := hR.cell (u32s_get _ _ _ (wds_get _ _ _ (by omega)))
      have hf : wr.frozen? ⟨w.heap.size + 1, k / 4, none⟩ = false := hR.free _
      have HR := Lib.hid hR
      have HB := Lib.hid hB
      clear hR hB
      go_wp2_with fail
      refine wp_region_tail 16 (by kernel_rfl) (by kernel_rfl) ?_
      simp only [List.take_succ_cons, List.take_zero, List.drop_succ_cons, List.drop_zero]
      repeat (go_big_quiet_step (fail))
      refine wpQuiet_nil ?_
      rw [word_or (bts s) (bts_lt s) k _ (bts_getD s k hlt)]
      go_wp2
      go_roundw
      case rel =>
        refine ⟨k + 1, by omega, by go_num, ?_, ?_, ?_⟩
        · have := (HR.out.drew).set (k / 4) (.int .u32 (wdAt ((bts s).take k) (k / 4) ||| (bts s).getD k 0 * 2 ^ (8 * (k % 4)) : Nat))
          rw [u32s_set, ← wds_step _ (bts_lt s) _ _ (by rw [bts_length]; exact hlt)] at this
          exact this
        · exact cell_setOther (w := wr.drew) hbox (by simp)
        · exact (HB.out.drew).setCell (by simp) _
      case measure => simp [intOf]; omega
    · have HR := Lib.hid hR
      have HB := Lib.hid hB
      clear hR hB
      go_wp2
      go_ret
      refine ⟨rfl, ?_, HB.out⟩
      have := HR.out
      rwa [List.take_of_length_le (by rw [bts_length]; omega)] at this
end Go.Proofs.Ytlomlcljjidfjaa
