/- Read. -/
import Derived.Test.YtlomlcljjidfjaaWGrow
import Derived.Test.YtlomlcljjidfjaaNatD
namespace Go.Proofs.Ytlomlcljjidfjaa
open Go.RowKit Num

/-- A slice of words of the call's own. -/
def SlW (base E : Nat) (ys : List Nat) (v : Value) (w : World) : Prop :=
  ∃ a cap, v = .slice a ys.length cap ∧ w.ownsRow base E 1 (.slice a ys.length cap) ys.length (u32s ys)

theorem SlW.of {base E : Nat} {ys : List Nat} {v : Value} {w : World} (h : w.ownsRow base E 1 v ys.length (u32s ys)) : SlW base E ys v w := by
  rcases h.2 with ⟨rfl, h2⟩ | ⟨g, c, cur, rfl, _⟩
  · exact ⟨none, 0, by rw [h2], by rw [h2] at h ⊢; exact h⟩
  · exact ⟨_, _, rfl, h⟩

theorem CellsU.ofOwns {w : World} {base E n cap : Nat} {a : Option Addr} {xs : List Nat} (h : w.ownsRow base E 1 (.slice a n cap) n (u32s xs)) : CellsU w a xs := by
  intro i d hd
  have hl : xs.length = n := by have := h.1; simpa [u32s] using this
  have hi : i < n := by rw [← hl]; exact (List.getElem?_eq_some_iff.1 hd).1
  obtain ⟨g, rfl, _, _⟩ := owns_some h (by omega)
  exact ⟨g, 0, rfl, by rw [Nat.zero_add, h.cellAt i (by omega)]; exact u32s_get _ _ _ hd⟩

theorem grownW_length (xs : List Nat) (b m : Nat) : (grownW xs b m).length ≤ xs.length + 1 := by
  unfold grownW
  simp only
  split
  · simp [cl_length]
  · simp [cl_length]

def ReadPost (s : ByteArray) (w : World) (e : Ending) (w' : World) : Prop :=
  e = .returned (.tuple #[natV ((readN (bts s)).getD 0), .bool (readN (bts s)).isSome]) ∧ Below w.heap.size w w'

theorem readN_bad {l : List Nat} (h : decOk l = false) : readN l = none := by unfold readN; rw [h]; rfl
theorem readN_ok {l : List Nat} (h : decOk l = true) : readN l = some (decVal l) := by unfold readN; rw [h]; rfl

theorem decOk_nil : decOk [] = false := rfl
theorem decOk_long {l : List Nat} (h : 2000 < l.length) : decOk l = false := by
  unfold decOk
  have : decide (l.length ≤ 2000) = false := by simp; omega
  rw [this]; simp
theorem decOk_zero {l : List Nat} (h : 1 < l.length) (h0 : l.getD 0 0 = 48) : decOk l = false := by
  unfold decOk
  have h1 : decide (1 < l.length) = true := by simp [h]
  rw [h1, h0]; simp
theorem decOk_char {l : List Nat} {k : Nat} (hk : k < l.length) (h : l.getD k 0 < 48 ∨ 57 < l.getD k 0) : decOk l = false := by
  unfold decOk
  rw [Bool.and_eq_false_iff]
  right
  rw [List.all_eq_false]
  refine ⟨l.getD k 0, ?_, by generalize l.getD k 0 = c at *; simp; omega⟩
  rw [List.getD_eq_getElem?_getD, List.getElem?_eq_getElem hk]
  exact List.getElem_mem hk
theorem decOk_all {l : List Nat} (h1 : l ≠ []) (h2 : l.length ≤ 2000) (h3 : l.length ≤ 1 ∨ l.getD 0 0 ≠ 48) (h4 : ∀ j, j < l.length → 48 ≤ l.getD j 0 ∧ l.getD j 0 ≤ 57) : decOk l = true := by
  unfold decOk
  simp only [Bool.and_eq_true, Bool.not_eq_true', List.isEmpty_eq_false_iff, decide_eq_true_eq, List.all_eq_true, Bool.and_eq_false_iff, decide_eq_false_iff_not, beq_eq_false_iff_ne]
  refine ⟨⟨⟨h1, h2⟩, ?_⟩, fun c hc => ?_⟩
  · rcases h3 with h | h
    · left; omega
    · right; exact h
  · obtain ⟨j, hj, rfl⟩ := List.getElem_of_mem hc
    have := h4 j hj
    rwa [List.getD_eq_getElem?_getD, List.getElem?_eq_getElem hj] at this

set_option maxHeartbeats 400000 in
theorem read_bad1 (s : ByteArray) (hs : s.size = 0 ∨ 2000 < s.size) (hs2 : s.size ≤ 1099511627776) (w : World) :
    Calls Try.prog 49 #[.string s] w (ReadPost s w) := by
  have HP : Hid (readN (bts s) = none) := readN_bad (by
    have hsz := bts_length s
    rcases hs with h | h
    · rw [List.eq_nil_of_length_eq_zero (hsz.trans h)]; rfl
    · exact decOk_long (by omega))
  rcases hs with h | h
  · have hb : ((s.size : Int) == 0) = true := beq_yes (by omega)
    clear h
    go_enter Try.func49, Try.ntmps49
    go_wp2_with fail
    exact bodyPost_ret (v := .tuple #[natV 0, .bool false]) (by simp [results, Try.results49, go_sem, natV_zero]) rfl ⟨by rw [HP.out]; rfl, ((Below.refl _ _).alloc (Nat.le_refl _) _)⟩
  · have hb : ((s.size : Int) == 0) = false := beq_no (by omega)
    go_enter Try.func49, Try.ntmps49
    go_wp2_with fail
    exact bodyPost_ret (v := .tuple #[natV 0, .bool false]) (by simp [results, Try.results49, go_sem, natV_zero]) rfl ⟨by rw [HP.out]; rfl, ((Below.refl _ _).alloc (Nat.le_refl _) _)⟩

set_option maxHeartbeats 400000 in
theorem read_bad2 (s : ByteArray) (hs : 1 < s.size) (hs2 : s.size ≤ 2000) (h0 : s[0].toNat = 48) (w : World) :
    Calls Try.prog 49 #[.string s] w (ReadPost s w) := by
  have HP : Hid (readN (bts s) = none) := readN_bad (decOk_zero (by rw [bts_length]; exact hs) (by rw [bts_getD s 0 (by omega)]; exact h0))
  have hb : ((s.size : Int) == 0) = false := beq_no (by omega)
  have hz : ((s[0].toNat : Int) == 48) = true := by simp [h0]
  clear h0
  go_enter Try.func49, Try.ntmps49
  go_wp2_with fail
  exact bodyPost_ret (v := .tuple #[natV 0, .bool false]) (by simp [results, Try.results49, go_sem, natV_zero]) rfl ⟨by rw [HP.out]; rfl, ((Below.refl _ _).alloc (Nat.le_refl _) _)⟩

/-- Before the loop of Read: what the test at its head says. -/
theorem read_test (s : ByteArray) (h : 0 < s.size) (h0 : s.size ≤ 1 ∨ s[0].toNat ≠ 48) : (1 < s.size → ((s[0].toNat : Int) == 48) = false) := by
  intro h1
  rcases h0 with h0 | h0
  · omega
  · simp; omega

set_option maxHeartbeats 1600000 in
theorem read_loop (s : ByteArray) (hs : 0 < s.size) (hs2 : s.size ≤ 2000) (h0 : s.size ≤ 1 ∨ s[0].toNat ≠ 48) (w : World) :
    Calls Try.prog 49 #[.string s] w (ReadPost s w) := by
  have hsz := bts_length s
  have hb : ((s.size : Int) == 0) = false := beq_no (by omega)
  have hz : 1 < s.size → ((s[0].toNat : Int) == 48) = false := read_test s hs h0
  have HOK := Lib.hid (fun (h4 : ∀ j, j < (bts s).length → 48 ≤ (bts s).getD j 0 ∧ (bts s).getD j 0 ≤ 57) =>
    decOk_all (l := bts s) (by intro e; rw [e] at hsz; simp at hsz; omega) (by omega) (by rw [hsz, bts_getD s 0 hs]; exact h0) h4)
  clear h0
  go_enter Try.func49, Try.ntmps49
  by_cases h1 : 1 < s.size
  all_goals
    first
      | (have hz := hz h1)
      | (clear hz)
    go_wp2_with fail
    go_loopw [4, 27] (fun v i wr => ∃ (k : Nat) (ys : List Nat), k ≤ s.size ∧ i = .int .i64 (k : Nat) ∧ SlW (w.heap.size + 1) 83 ys v wr ∧ AllLt W ys ∧ digs W ys = decVal ((bts s).take k) ∧ ys.length ≤ k ∧
        (∀ j, j < k → 48 ≤ (bts s).getD j 0 ∧ (bts s).getD j 0 ≤ 57) ∧ wr.cell? ⟨w.heap.size, 0, none⟩ = some (.string { data := #[] }) ∧ wr.frozen? ⟨w.heap.size, 0, none⟩ = false ∧ w.heap.size + 1 ≤ wr.heap.size ∧ Below w.heap.size w wr)
      (fun _ i _ => s.size - (intOf i).toNat)
    case atStart =>
      exact ⟨0, [], Nat.zero_le _, rfl, ⟨none, 0, rfl, World.ownsRow_nil _ _ _ _⟩, AllLt.nil W, by simp [digs, decVal], Nat.zero_le _, fun j hj => by omega, by simp [go_sem], by simp [go_sem], by simp, (Below.refl _ _).alloc (Nat.le_refl _) _⟩
    case round =>
      obtain ⟨k, ys, hk, rfl, hsl, hys, hval, hyl, hdig, hbox, hboxf, hws, hB⟩ := hrel
      have HV := Lib.hid hval
      have HY := Lib.hid hys
      have HD := Lib.hid hdig
      have HB := Lib.hid hB
      clear hval hys hdig hB
      obtain ⟨a, cap, rfl, hown⟩ := hsl
      have HO := Lib.hid hown
      clear hown
      by_cases hlt : k < s.size
      · have hc := bts_getD s k hlt
        have hsucc := decVal_take_succ (bts s) k (by omega)
        have HCH := Lib.hid (fun h => decOk_char (l := bts s) (k := k) (by omega) h)
        have HDG : Hid (48 ≤ (bts s).getD k 0 ∧ (bts s).getD k 0 ≤ 57 → ∀ j, j < k + 1 → 48 ≤ (bts s).getD j 0 ∧ (bts s).getD j 0 ≤ 57) := by
          intro h j hj
          by_cases hjk : j = k
          · rw [hjk]; exact h
          · exact HD.out j (by omega)
        rw [hc] at hsucc HCH HDG
        have HSC := Lib.hid hsucc
        clear hc hsucc
        by_cases hbad : s[k].toNat < 48 ∨ 57 < s[k].toNat
        · have HP : Hid (readN (bts s) = none) := readN_bad (HCH.out hbad)
          clear HCH
          rcases hbad with hbad | hbad
          all_goals
            go_wp2_with fail
            exact bodyPost_ret (v := .tuple #[natV 0, .bool false]) (by simp [results, Try.results49, go_sem, natV_zero, hbox]) rfl ⟨by rw [HP.out]; rfl, HB.out.setCell (Nat.le_refl _) _⟩
        · clear HCH
          have hlo : 48 ≤ s[k].toNat := by omega
          have hhi : s[k].toNat ≤ 57 := by omega
          clear hbad
          go_wp2_with fail
          rw [show ((s[k].toNat : Int) - 48) = ((s[k].toNat - 48 : Nat) : Int) by omega]
          refine (grow_any (w.heap.size + 1) ys.length cap 10 (s[k].toNat - 48) a ys rfl HY.out (by omega) (by omega) (by omega) wr hws HO.out).mono ?_
          rintro e w' ⟨v, rfl, hown', hB'⟩
          have hbox' : w'.cell? ⟨w.heap.size, 0, none⟩ = some (.string { data := #[] }) := below_cell hB' (by omega) hbox
          have hboxf' : w'.frozen? ⟨w.heap.size, 0, none⟩ = false := by rw [hB'.frozen (p := ⟨w.heap.size, 0, none⟩) (by simp)]; exact hboxf
          have hws' : w.heap.size + 1 ≤ w'.heap.size := Nat.le_trans hws hB'.size
          have HB' := Lib.hid (HB.out.trans (hB'.mono (Nat.le_succ _)))
          have HS' := Lib.hid (SlW.of hown')
          have HY' := Lib.hid (grownW_lt ys 10 (s[k].toNat - 48) HY.out (by decide) (by unfold W; omega))
          have HV' : Hid (digs W (grownW ys 10 (s[k].toNat - 48)) = decVal ((bts s).take (k + 1))) := by
            unfold Hid
            rw [grownW_digs, HV.out, HSC.out, Nat.mul_comm]
          have hyl' : (grownW ys 10 (s[k].toNat - 48)).length ≤ k + 1 := Nat.le_trans (grownW_length _ _ _) (by omega)
          generalize grownW ys 10 (s[k].toNat - 48) = zs at *
          clear hown' hB' hbox hboxf hws HO HB HY HV HSC HD
          go_wp2_with fail
          go_roundw
          case rel => exact ⟨k + 1, zs, by omega, by go_num, HS'.out, HY'.out, HV'.out, hyl', HDG.out ⟨hlo, hhi⟩, hbox', hboxf', hws', HB'.out⟩
          case measure => simp [intOf]; omega
      · obtain rfl : k = s.size := by omega
        have HP : Hid (readN (bts s) = some (decVal (bts s))) := readN_ok (HOK.out (fun j hj => HD.out j (by omega)))
        have hval := HV.out
        rw [List.take_of_length_le (by omega)] at hval
        have HV := Lib.hid hval
        clear hval
        go_wp2_with fail
        refine (from_any a ys ys.length cap rfl HY.out (by omega) wr (CellsU.ofOwns HO.out)).mono ?_
        rintro e w' ⟨rfl, hB'⟩
        have hbox' : w'.cell? ⟨w.heap.size, 0, none⟩ = some (.string { data := #[] }) := below_cell hB' (by omega) hbox
        have hboxf' : w'.frozen? ⟨w.heap.size, 0, none⟩ = false := by rw [hB'.frozen (p := ⟨w.heap.size, 0, none⟩) (by simp; omega)]; exact hboxf
        have HB' := Lib.hid (HB.out.trans (hB'.mono (by omega)))
        rw [HV.out]
        clear hB' hbox hboxf
        unfold natV
        go_wp2_with fail
        exact bodyPost_ret (v := .tuple #[natV (decVal (bts s)), .bool true]) (by simp [results, Try.results49, go_sem, natV, hbox']) rfl ⟨by rw [HP.out]; rfl, HB'.out.setCell (Nat.le_refl _) _⟩

/-- Read, of whatever string. -/
theorem read_any (s : ByteArray) (hs : s.size ≤ 1099511627776) (w : World) :
    Calls Try.prog 49 #[.string s] w (ReadPost s w) := by
  by_cases h0 : s.size = 0 ∨ 2000 < s.size
  · exact read_bad1 s h0 hs w
  · by_cases h1 : 1 < s.size
    · by_cases h2 : s[0].toNat = 48
      · exact read_bad2 s h1 (by omega) h2 w
      · exact read_loop s (by omega) (by omega) (.inr h2) w
    · exact read_loop s (by omega) (by omega) (.inl (by omega)) w
end Go.Proofs.Ytlomlcljjidfjaa
