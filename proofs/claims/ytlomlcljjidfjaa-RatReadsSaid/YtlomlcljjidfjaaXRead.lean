/- The reference's Read (chapter 01). -/
import Derived.Test.YtlomlcljjidfjaaLGive
import Derived.Test.YtlomlcljjidfjaaGame2
namespace Go.Proofs.Ytlomlcljjidfjaa
open Go.RowKit Num

def XReadPost (s : ByteArray) (w : World) (e : Ending) (w' : World) : Prop :=
  e = .returned (.tuple #[.string (if decOk (bts s) then s else { data := #[48] }), .bool (decOk (bts s))]) ∧ w = w'

theorem xread_no {s : ByteArray} {w : World} (h : decOk (bts s) = false) : XReadPost s w (.returned (.tuple #[.string { data := #[48] }, .bool false])) w :=
  ⟨by rw [h]; rfl, rfl⟩
theorem xread_yes {s : ByteArray} {w : World} (h : decOk (bts s) = true) : XReadPost s w (.returned (.tuple #[.string s, .bool true])) w :=
  ⟨by rw [h]; rfl, rfl⟩

set_option maxHeartbeats 400000 in
set_option maxRecDepth 100000 in
theorem xread_bad1 (s : ByteArray) (hs : s.size = 0 ∨ 2000 < s.size) (hs2 : s.size ≤ 9223372036854775807) (w : World) :
    Calls Try.prog 52 #[.string s] w (XReadPost s w) := by
  have HP : Hid (decOk (bts s) = false) := by
    have hsz := bts_length s
    rcases hs with h | h
    · rw [List.eq_nil_of_length_eq_zero (hsz.trans h)]; rfl
    · exact decOk_long (by omega)
  rcases hs with h | h
  · have hb : ((s.size : Int) == 0) = true := beq_yes (by omega)
    clear h
    go_enter Try.func52, Try.ntmps52
    go_wp2_with fail
    go_ret2
    exact xread_no HP.out
  · have hb : ((s.size : Int) == 0) = false := beq_no (by omega)
    go_enter Try.func52, Try.ntmps52
    go_wp2_with fail
    go_ret2
    exact xread_no HP.out

set_option maxHeartbeats 400000 in
set_option maxRecDepth 100000 in
theorem xread_bad2 (s : ByteArray) (hs : 1 < s.size) (hs2 : s.size ≤ 2000) (h0 : s[0].toNat = 48) (w : World) :
    Calls Try.prog 52 #[.string s] w (XReadPost s w) := by
  have HP : Hid (decOk (bts s) = false) := decOk_zero (by rw [bts_length]; exact hs) (by rw [bts_getD s 0 (by omega)]; exact h0)
  have hb : ((s.size : Int) == 0) = false := beq_no (by omega)
  have hz : ((s[0].toNat : Int) == 48) = true := by simp [h0]
  clear h0
  go_enter Try.func52, Try.ntmps52
  go_wp2_with fail
  go_ret2
  exact xread_no HP.out

set_option maxHeartbeats 1600000 in
set_option maxRecDepth 100000 in
theorem xread_loop (s : ByteArray) (hs : 0 < s.size) (hs2 : s.size ≤ 2000) (h0 : s.size ≤ 1 ∨ s[0].toNat ≠ 48) (w : World) :
    Calls Try.prog 52 #[.string s] w (XReadPost s w) := by
  have hsz := bts_length s
  have hb : ((s.size : Int) == 0) = false := beq_no (by omega)
  have hz : 1 < s.size → ((s[0].toNat : Int) == 48) = false := read_test s hs h0
  have HOK := Lib.hid (fun (h4 : ∀ j, j < (bts s).length → 48 ≤ (bts s).getD j 0 ∧ (bts s).getD j 0 ≤ 57) =>
    decOk_all (l := bts s) (by intro e; rw [e] at hsz; simp at hsz; omega) (by omega) (by rw [hsz, bts_getD s 0 hs]; exact h0) h4)
  clear h0
  go_enter Try.func52, Try.ntmps52
  by_cases h1 : 1 < s.size
  all_goals
    first
      | (have hz := hz h1)
      | (clear hz)
    go_wp2_with fail
    go_loop [4] (fun i => ∃ k : Nat, k ≤ s.size ∧ i = .int .i64 (k : Nat) ∧ Hid (∀ j, j < k → 48 ≤ (bts s).getD j 0 ∧ (bts s).getD j 0 ≤ 57))
      (fun i => s.size - (intOf i).toNat)
    case atStart => exact ⟨0, Nat.zero_le _, rfl, fun j hj => by omega⟩
    case round =>
      obtain ⟨k, hk, rfl, HD⟩ := hrel
      by_cases hlt : k < s.size
      · have hc := bts_getD s k hlt
        have HCH := Lib.hid (fun h => decOk_char (l := bts s) (k := k) (by omega) h)
        have HDG : Hid (48 ≤ (bts s).getD k 0 ∧ (bts s).getD k 0 ≤ 57 → ∀ j, j < k + 1 → 48 ≤ (bts s).getD j 0 ∧ (bts s).getD j 0 ≤ 57) := by
          intro h j hj
          by_cases hjk : j = k
          · rw [hjk]; exact h
          · exact HD.out j (by omega)
        rw [hc] at HCH HDG
        clear hc
        by_cases hbad : s[k].toNat < 48 ∨ 57 < s[k].toNat
        · have HP : Hid (decOk (bts s) = false) := HCH.out hbad
          clear HCH
          rcases hbad with hbad | hbad
          all_goals
            go_wp2_with fail
            go_ret2
            exact xread_no HP.out
        · clear HCH
          have hlo : 48 ≤ s[k].toNat := by omega
          have hhi : s[k].toNat ≤ 57 := by omega
          clear hbad
          go_wp2_with fail
          go_round
          case rel => exact ⟨k + 1, by omega, by go_num, HDG.out ⟨hlo, hhi⟩⟩
          case measure => simp [intOf]; omega
      · obtain rfl : k = s.size := by omega
        have HP : Hid (decOk (bts s) = true) := HOK.out (fun j hj => HD.out j (by omega))
        go_wp2_with fail
        go_ret2
        exact xread_yes HP.out

theorem gXRead (s : ByteArray) (hs : s.size ≤ 9223372036854775807) : Gives 52 #[.string s] (.tuple #[.string (if decOk (bts s) then s else { data := #[48] }), .bool (decOk (bts s))]) := fun w => by
  have h : Calls Try.prog 52 #[.string s] w (XReadPost s w) := by
    by_cases h0 : s.size = 0 ∨ 2000 < s.size
    · exact xread_bad1 s h0 hs w
    · by_cases h1 : 1 < s.size
      · by_cases h2 : s[0].toNat = 48
        · exact xread_bad2 s h1 (by omega) h2 w
        · exact xread_loop s (by omega) (by omega) (.inr h2) w
      · exact xread_loop s (by omega) (by omega) (.inl (by omega)) w
  exact h.mono fun e w' ⟨h1, h2⟩ => ⟨h1, h2 ▸ Below.refl _ _⟩

end Go.Proofs.Ytlomlcljjidfjaa
