/- Texts of this claim, joined: WSmall, WCmp, WShrink, WGrow, WRead, WBuild. -/
import Derived.Test.YtajjgfiojlagmaaGreatDoorRows
import Derived.Test.YtajjgfiojlagmaaGreatDoorMO02
import Derived.Test.YtajjgfiojlagmaaGreatDoorMO03
import Derived.Test.YtajjgfiojlagmaaGreatDoorMO04
import Derived.Test.YtajjgfiojlagmaaGreatDoorShelf
import Derived.WalkKit
import Derived.WalkSpells
import Derived.WalkLawsBesides
import Derived.Lib.Hide
import Derived.Lib.Builder
import Derived.Lib.AppendStr
import Derived.Lib.UnsafeStr

/- Of, Pow2, Uint, Len. -/
namespace Go.Proofs.YtajjgfiojlagmaaGreatDoor
open Go.RowKit Num

theorem words_nat (n : Nat) (hn : nl n ≤ 1099511627776) (w : World) :
    Calls Tryz.prog 92 #[natV n] w fun e w' =>
      e = .returned (.slice (some ⟨w.heap.size + 1, 0, none⟩) (digitsOf W n).length (digitsOf W n).length) ∧ Row w' (w.heap.size + 1) 116 (u32s (digitsOf W n)) ∧ Below w.heap.size w w' := by
  have h := words_any (nb n) (by rw [nb_size]; exact hn) w
  have e : (nb n).size = (digitsOf 256 n).length := nb_size n
  have e2 : ((nb n).size + 3) / 4 = (digitsOf W n).length := by
    have := congrArg List.length (wds_digits n)
    rw [wds_length] at this
    rw [e]; exact this
  rw [bts_nb, e2] at h
  rw [← e2, e, wds_digits, ← e, e2] at h
  exact h

theorem CellsU.ofRow {w : World} {g : Nat} {E : TypeId} {xs : List Nat} (h : Row w g E (u32s xs)) : CellsU w (some ⟨g, 0, none⟩) xs := by
  intro i d hd
  exact ⟨g, 0, rfl, by rw [Nat.zero_add]; exact h.cell (u32s_get _ _ _ hd)⟩

theorem digs_two (n : Nat) (_hn : n < 18446744073709551616) : digs W [n % 4294967296, n / 4294967296] = n := by
  simp [digs, W]; omega

set_option maxHeartbeats 400000 in
set_option maxRecDepth 100000 in
theorem of_any (n : Nat) (hn : n < 18446744073709551616) (w : World) :
    Calls Tryz.prog 51 #[.int .u64 n] w fun e w' => e = .returned (natV n) ∧ Below w.heap.size w w' := by
  have HD := Lib.hid (digs_two n hn)
  have HX : Hid (AllLt W [n % 4294967296, n / 4294967296]) := AllLt.cons (by unfold W; omega) (AllLt.cons (by unfold W; omega) (AllLt.nil _))
  go_enter Tryz.func51, Tryz.ntmps51
  go_wp2_with fail
  refine (from_any (some ⟨w.heap.size + 1, 0, none⟩) [n % 4294967296, n / 4294967296] 2 2 rfl HX.out (by omega) _ ?_).mono ?_
  · have hR := Row.new (w.alloc (Obj.cells #[Value.string { data := #[] }] 72)) 116 (u32s [n % 4294967296, n / 4294967296])
    have e : (u32s [n % 4294967296, n / 4294967296]).toArray = #[Value.int IntKind.u32 (↑n % 4294967296), Value.int IntKind.u32 (↑n / 4294967296)] := by simp [u32s]
    have es : (w.alloc (Obj.cells #[Value.string { data := #[] }] 72)).heap.size = w.heap.size + 1 := by simp
    rw [e, es] at hR
    exact CellsU.ofRow hR
  · rintro e w' ⟨rfl, hb⟩
    rw [HD.out]
    have hB : Below w.heap.size w w' := (((Below.refl _ _).alloc (Nat.le_refl _) _).alloc (by simp) _).trans (hb.mono (by simp; omega))
    have hbox : w'.cell? ⟨w.heap.size, 0, none⟩ = some (.string { data := #[] }) := below_cell hb (by simp; omega) (by simp)
    have hboxf : w'.frozen? ⟨w.heap.size, 0, none⟩ = false := by rw [hb.frozen (p := ⟨w.heap.size, 0, none⟩) (by simp; omega)]; simp
    clear hb
    have HB := Lib.hid hB
    clear hB
    unfold natV
    go_wp2
    exact bodyPost_ret (v := natV n) (by simp [results, Tryz.results51, go_sem, hbox, natV]) rfl ⟨rfl, HB.out.setCell (Nat.le_refl _) _⟩

end Go.Proofs.YtajjgfiojlagmaaGreatDoor

/- Cmp, Uint, Pow2. -/
namespace Go.Proofs.YtajjgfiojlagmaaGreatDoor
open Go.RowKit Num

theorem nb_toList_ne {a b : Nat} (h : ¬ a = b) : ¬ (nb a).toList = (nb b).toList := by
  intro e
  rw [ByteArray.toList_eq, ByteArray.toList_eq] at e
  apply h
  apply nb_inj
  have : (nb a).data = (nb b).data := Array.toList_inj.1 e
  cases ha : nb a; cases hb : nb b
  rw [ha, hb] at this
  simpa using this

set_option maxHeartbeats 800000 in
set_option maxRecDepth 100000 in
theorem cmp_any (a b : Nat) (ha : nl a ≤ 1099511627776) (hb : nl b ≤ 1099511627776) (w : World) :
    Calls Tryz.prog 77 #[natV a, natV b] w fun e w' => e = .returned (.int .i64 (cmpI a b)) ∧ Below w.heap.size w w' := by
  have hsa := nb_size a
  have hsb := nb_size b
  unfold natV
  by_cases h0 : a = b
  · subst h0
    go_enter Tryz.func77, Tryz.ntmps77
    go_wp2_with fail
    go_ret
    exact ⟨ret_int (cmpI_eq a).symm, ((Below.refl _ _).alloc (Nat.le_refl _) _).alloc (by simp) _⟩
  · have hne := nb_toList_ne h0
    by_cases hl : nl a = nl b
    · have hlb : ((nl a : Int) != nl b) = false := by simp [hl]
      have HL := Lib.hid hl
      have H0 := Lib.hid h0
      clear hl h0
      go_enter Tryz.func77, Tryz.ntmps77
      go_wp2_with fail
      go_loopw [5] (fun i wr => ∃ k : Nat, k ≤ nl a ∧ i = .int .i64 ((k : Int) - 1) ∧ (∀ j, k ≤ j → (digitsOf 256 a).getD j 0 = (digitsOf 256 b).getD j 0) ∧
          wr.cell? ⟨w.heap.size, 0, none⟩ = some (.string (nb a)) ∧ wr.cell? ⟨w.heap.size + 1, 0, none⟩ = some (.string (nb b)) ∧ Below w.heap.size w wr)
        (fun i _ => (intOf i + 1).toNat)
      case atStart =>
        refine ⟨nl a, Nat.le_refl _, rfl, fun j hj => ?_, by simp [go_sem], by simp [go_sem], ((Below.refl _ _).alloc (Nat.le_refl _) _).alloc (by simp) _⟩
        have e1 : (digitsOf 256 a).length ≤ j := hj
        have e2 : (digitsOf 256 b).length ≤ j := by have := HL.out; unfold nl at *; omega
        simp [List.getD_eq_getElem?_getD, List.getElem?_eq_none e1, List.getElem?_eq_none e2]
      case round =>
        obtain ⟨k, hk, rfl, heq, hca, hcb, hB⟩ := hrel
        have HE := Lib.hid heq
        have HB := Lib.hid hB
        clear heq hB
        by_cases hpos : 0 < k
        · have hka : k - 1 < (nb a).size := by omega
          have hkb : k - 1 < (nb b).size := by have := HL.out; omega
          have hga := nb_get a (k - 1) hka
          have hgb := nb_get b (k - 1) hkb
          have HLT := Lib.hid (fun (h1 : (digitsOf 256 a).getD (k - 1) 0 < (digitsOf 256 b).getD (k - 1) 0) => lt_of_top HL.out (k - 1) (by omega) h1 (fun j hj => HE.out j (by omega)))
          have HGT := Lib.hid (fun (h1 : (digitsOf 256 b).getD (k - 1) 0 < (digitsOf 256 a).getD (k - 1) 0) => lt_of_top HL.out.symm (k - 1) (by have := HL.out; omega) h1 (fun j hj => (HE.out j (by omega)).symm))
          have HNX : Hid ((digitsOf 256 a).getD (k - 1) 0 = (digitsOf 256 b).getD (k - 1) 0 → ∀ j, k - 1 ≤ j → (digitsOf 256 a).getD j 0 = (digitsOf 256 b).getD j 0) := by
            intro h1 j hj
            by_cases hjk : j = k - 1
            · rw [hjk]; exact h1
            · exact HE.out j (by omega)
          generalize (digitsOf 256 a).getD (k - 1) 0 = da at *
          generalize (digitsOf 256 b).getD (k - 1) 0 = db at *
          go_wp2_with fail
          go_quiet (fail)
          by_cases h1 : da < db
          · go_wp2
            go_ret
            exact ⟨ret_int (cmpI_lt (HLT.out h1)).symm, HB.out.drewN _⟩
          · go_wp2_with fail
            go_quiet (fail)
            by_cases h2 : db < da
            · go_wp2
              go_ret
              exact ⟨ret_int (cmpI_gt (HGT.out h2)).symm, (HB.out.drewN _).drewN _⟩
            · go_wp2
              go_roundw
              case rel => exact ⟨k - 1, by omega, by go_num, HNX.out (by omega), by simpa using hca, by simpa using hcb, HB.out.drewN _⟩
              case measure => simp [intOf]; omega
        · obtain rfl : k = 0 := by omega
          exact absurd (eq_of_all HL.out (fun j => HE.out j (Nat.zero_le _))) H0.out
    · have hlb : ((nl a : Int) != nl b) = true := by simp; omega
      clear h0
      rcases Nat.lt_or_gt_of_ne hl with h1 | h1
      · have HR := Lib.hid (cmpI_lt (lt_of_nl h1))
        clear hl
        go_enter Tryz.func77, Tryz.ntmps77
        go_wp2_with fail
        go_ret
        exact ⟨ret_int HR.out.symm, ((Below.refl _ _).alloc (Nat.le_refl _) _).alloc (by simp) _⟩
      · have HR := Lib.hid (cmpI_gt (lt_of_nl h1))
        clear hl
        go_enter Tryz.func77, Tryz.ntmps77
        go_wp2_with fail
        go_ret
        exact ⟨ret_int HR.out.symm, ((Below.refl _ _).alloc (Nat.le_refl _) _).alloc (by simp) _⟩

end Go.Proofs.YtajjgfiojlagmaaGreatDoor

/- shrink, grow. -/
namespace Go.Proofs.YtajjgfiojlagmaaGreatDoor
open Go.RowKit Num

def shrunk (cells : List Nat) (n b k : Nat) : List Nat := cells.take k ++ (shr W b ((cells.take n).drop k)).1 ++ cells.drop n

theorem shrunk_full (cells : List Nat) (n b : Nat) (hn : n ≤ cells.length) : shrunk cells n b n = cells := by
  unfold shrunk
  rw [List.drop_eq_nil_of_le (by simp; omega)]
  simp [shr]

theorem shr_drop_pred (l : List Nat) (b k : Nat) (hk : 0 < k) (hl : k ≤ l.length) :
    shr W b (l.drop (k - 1)) = (((shr W b (l.drop k)).2 * W + l.getD (k - 1) 0) / b :: (shr W b (l.drop k)).1, ((shr W b (l.drop k)).2 * W + l.getD (k - 1) 0) % b) := by
  rw [List.drop_eq_getElem_cons (i := k - 1) (by omega), show k - 1 + 1 = k by omega]
  simp only [shr]
  rw [List.getD_eq_getElem?_getD, List.getElem?_eq_getElem (by omega)]
  rfl

theorem shrunk_step (cells : List Nat) (n b k : Nat) (hn : n ≤ cells.length) (hk : 0 < k) (hkn : k ≤ n) :
    (shrunk cells n b k).set (k - 1) (((shr W b ((cells.take n).drop k)).2 * W + cells.getD (k - 1) 0) / b) = shrunk cells n b (k - 1) := by
  have hl : (cells.take n).length = n := by simp; omega
  have hg : (cells.take n).getD (k - 1) 0 = cells.getD (k - 1) 0 := by rw [getD_take, if_pos (by omega)]
  unfold shrunk
  rw [shr_drop_pred (cells.take n) b k hk (by omega), hg]
  have h1 : cells.take k = cells.take (k - 1) ++ [cells[k - 1]'(by omega)] := by
    have := List.take_succ_eq_append_getElem (i := k - 1) (l := cells) (by omega)
    rwa [show k - 1 + 1 = k by omega] at this
  rw [h1, List.append_assoc, List.append_assoc, List.set_append_right _ _ (by rw [List.length_take]; omega)]
  have h2 : k - 1 - (cells.take (k - 1)).length = 0 := by rw [List.length_take]; omega
  rw [h2]
  simp

theorem shrunk_get (cells : List Nat) (n b k : Nat) (hn : n ≤ cells.length) (hk : 0 < k) (hkn : k ≤ n) : (shrunk cells n b k)[k - 1]? = some (cells.getD (k - 1) 0) := by
  unfold shrunk
  rw [List.append_assoc, List.getElem?_append_left (by simp; omega), List.getElem?_take, if_pos (by omega), List.getD_eq_getElem?_getD, List.getElem?_eq_getElem (by omega)]
  rfl

theorem shl_or (r d : Nat) (hr : r < 4294967296) (hd : d < 4294967296) :
    bits BinOp.or IntKind.u64 ((r : Int) * 4294967296) (d : Nat) = (r : Int) * 4294967296 + d := by
  have e : (r : Int) * 4294967296 = ((r * 4294967296 : Nat) : Int) := by omega
  rw [e, u64_or_nat _ _ (by omega) (by omega), Nat.or_comm]
  have := or_high 32 d r (by omega)
  rw [show (2 : Nat) ^ 32 = 4294967296 by decide] at this
  rw [this]; omega

set_option maxHeartbeats 400000 in
set_option maxRecDepth 100000 in
theorem shrink_any (g E n c b : Nat) (cells : List Nat) (hn : n ≤ cells.length) (hl : AllLt W cells) (hb0 : 0 < b) (hb : b < 4294967296) (hs : n ≤ 1099511627776) (w : World) (hR : Row w g E (u32s cells)) :
    Calls Tryz.prog 93 #[.slice (some ⟨g, 0, none⟩) n c, .int .u32 b] w fun e w' =>
      e = .returned (.int .u32 (digs W (cells.take n) % b : Nat)) ∧ Row w' g E (u32s (shrunk cells n b 0)) ∧ w.grownBy w' (some g) := by
  have HR := Lib.hid hR
  have HL := Lib.hid hl
  clear hR hl
  go_enter Tryz.func93, Tryz.ntmps93
  go_wp2_with fail
  go_loopw [5, 6] (fun r i wr => ∃ k : Nat, k ≤ n ∧ i = .int .i64 ((k : Int) - 1) ∧ r = .int .u64 ((shr W b ((cells.take n).drop k)).2 : Nat) ∧ Row wr g E (u32s (shrunk cells n b k)) ∧ w.grownBy wr (some g))
    (fun _ i _ => (intOf i + 1).toNat)
  case atStart =>
    refine ⟨n, Nat.le_refl _, rfl, ?_, by rw [shrunk_full _ _ _ hn]; exact HR.out, World.grownBy.refl _ _⟩
    rw [List.drop_eq_nil_of_le (by simp; omega)]; rfl
  case round =>
    obtain ⟨k, hk, rfl, rfl, hR, hG⟩ := hrel
    clear HR
    have HRem := Lib.hid (shr_digs W b hb0 ((cells.take n).drop 0)).2
    have hrl := (shr_spec W b hb0 ((cells.take n).drop k)).2
    by_cases hpos : 0 < k
    · have hd := HL.out.getD (by decide) (k - 1)
      unfold W at hd
      have hc : wr.cell? ⟨g, k - 1, none⟩ = some (.int .u32 (cells.getD (k - 1) 0 : Nat)) := hR.cell (u32s_get _ _ _ (shrunk_get _ _ _ _ hn hpos hk))
      have hf : wr.frozen? ⟨g, k - 1, none⟩ = false := hR.free _
      have HR := Lib.hid hR
      have HG := Lib.hid hG
      clear hR hG
      have HST := Lib.hid (shrunk_step cells n b k hn hpos hk)
      have HSP := Lib.hid (congrArg Prod.snd (shr_drop_pred (cells.take n) b k hpos (by simp; omega)))
      rw [show (cells.take n).getD (k - 1) 0 = cells.getD (k - 1) 0 by rw [getD_take, if_pos (by omega)]] at HSP
      generalize cells.getD (k - 1) 0 = d at *
      generalize (shr W b ((cells.take n).drop k)).2 = r at *
      have hO := shl_or r d (by omega) hd
      have hq : (r * 4294967296 + d) / b < 4294967296 := by
        rw [Nat.div_lt_iff_lt_mul hb0]
        have : (r + 1) * 4294967296 ≤ b * 4294967296 := Nat.mul_le_mul_right _ hrl
        omega
      have HQ : Hid (((r : Int) * 4294967296 + d) / b % 4294967296 = (((r * 4294967296 + d) / b : Nat) : Int)) := by
        have : ((r : Int) * 4294967296 + d) / b = (((r * 4294967296 + d) / b : Nat) : Int) := by simp
        rw [this]; generalize (r * 4294967296 + d) / b = z at *; unfold Hid; omega
      clear hq
      go_wp2_with fail
      go_roundw
      case rel =>
        refine ⟨k - 1, by omega, by go_num, ?_, ?_, ?_⟩
        · rw [HSP.out]; simp [W]
        · rw [HQ.out]
          have := HR.out.set (k - 1) (.int .u32 ((r * 4294967296 + d) / b : Nat))
          rw [u32s_set] at this
          have h2 := HST.out
          unfold W at h2
          rw [h2] at this
          exact this
        · exact ⟨HG.out.os, HG.out.tape, HG.out.output, by simpa using HG.out.size, fun i hi hne => by
            rw [Below.heap_setCell _ _ _ _ (fun e => hne (by rw [e]))]; exact HG.out.block i hi hne⟩
      case measure => simp [intOf]; omega
    · obtain rfl : k = 0 := by omega
      have HR := Lib.hid hR
      have HG := Lib.hid hG
      clear hR hG
      have hlt : (shr W b ((cells.take n).drop 0)).2 < 4294967296 := by omega
      generalize hgen : (shr W b ((cells.take n).drop 0)).2 = r at *
      have HE := Lib.hid hgen
      clear hgen
      go_wp2
      go_ret
      refine ⟨?_, HR.out, HG.out⟩
      rw [List.drop_zero] at HRem
      rw [← HRem.out]
      exact ret_int (by omega)
end Go.Proofs.YtajjgfiojlagmaaGreatDoor

/- grow. -/
namespace Go.Proofs.YtajjgfiojlagmaaGreatDoor
open Go.RowKit Num

def grownW (xs : List Nat) (b m : Nat) : List Nat :=
  let r := cl W m (xs.map (· * b)); if 0 < r.2 then r.1 ++ [r.2] else r.1

theorem grownW_digs (xs : List Nat) (b m : Nat) : digs W (grownW xs b m) = digs W xs * b + m := by
  have h := cl_digs W (xs.map (· * b)) m
  rw [digs_map_mul] at h
  unfold grownW
  simp only
  split
  · rw [digs_snoc, cl_length]; omega
  · rename_i h0
    obtain h0 : (cl W m (xs.map (· * b))).2 = 0 := by omega
    rw [h0] at h; omega

theorem mul_le {x b : Nat} (hx : x < W) (hb : b < W) : x * b ≤ W * (W - 1) :=
  Nat.mul_le_mul (Nat.le_of_lt hx) (by omega)

theorem grownW_carry (xs : List Nat) (b m : Nat) (hx : AllLt W xs) (hb : b < W) (hm : m < W) (k : Nat) : (cl W m ((xs.map (· * b)).take k)).2 < W := by
  refine cl_carry W (by decide) _ _ hm (fun t ht => ?_)
  obtain ⟨x, hx', rfl⟩ := List.mem_map.1 (List.mem_of_mem_take ht)
  exact mul_le (hx x hx') hb

theorem grownW_lt (xs : List Nat) (b m : Nat) (hx : AllLt W xs) (hb : b < W) (hm : m < W) : AllLt W (grownW xs b m) := by
  unfold grownW
  simp only
  split
  · refine (cl_lt W (by decide) _ _).append (AllLt.cons ?_ (AllLt.nil W))
    have := grownW_carry xs b m hx hb hm xs.length
    rwa [List.take_of_length_le (by simp)] at this
  · exact cl_lt W (by decide) _ _

def GivesWords (base E : Nat) (ys : List Nat) (w : World) (e : Ending) (w' : World) : Prop :=
  ∃ v, e = .returned v ∧ w'.ownsRow base E 1 v ys.length (u32s ys) ∧ Below base w w'

theorem owns_some {w : World} {base E n cap : Nat} {a : Option Addr} {xs : List Value} (h : w.ownsRow base E 1 (.slice a n cap) n xs) (hn : 0 < n) : ∃ g, a = some ⟨g, 0, none⟩ ∧ base ≤ g ∧ g < w.heap.size := by
  rcases h.2 with ⟨h1, h2⟩ | ⟨g, c, cur, h1, h2, h3, _⟩
  · omega
  · simp only [Value.slice.injEq] at h1
    exact ⟨g, h1.1, h2, (Array.getElem?_eq_some_iff.1 h3).1⟩

set_option maxHeartbeats 800000 in
set_option maxRecDepth 100000 in
theorem grow_any (base n cap b m : Nat) (a : Option Addr) (xs : List Nat) (hn : xs.length = n) (hl : AllLt W xs) (hb : b < 4294967296) (hm : m < 4294967296) (hs : n ≤ 1099511627776) (w : World)
    (hbase : base ≤ w.heap.size) (hown : w.ownsRow base 116 1 (.slice a n cap) n (u32s xs)) :
    Calls Tryz.prog 72 #[.slice a n cap, .int .u32 b, .int .u32 m] w (GivesWords base 116 (grownW xs b m) w) := by
  have HO := Lib.hid hown
  have HL := Lib.hid hl
  have HN := Lib.hid hn
  clear hown hl hn
  obtain ⟨i0, hi, hz0, hz1, hz2⟩ := info_parts Tryz.infoU32
  go_enter Tryz.func72, Tryz.ntmps72
  go_wp2_with fail
  go_loopw [7, 13] (fun r i wr => ∃ k : Nat, k ≤ n ∧ i = .int .i64 (k : Nat) ∧ r = .int .u64 ((cl W m ((xs.map (· * b)).take k)).2 : Nat) ∧
      wr.ownsRow base 116 1 (.slice a n cap) n (u32s ((cl W m ((xs.map (· * b)).take k)).1 ++ xs.drop k)) ∧ Below base w wr)
    (fun _ i _ => n - (intOf i).toNat)
  case atStart => exact ⟨0, Nat.zero_le _, rfl, rfl, by simpa [cl] using HO.out, Below.refl _ _⟩
  case round =>
    obtain ⟨k, hk, rfl, rfl, hown, hB⟩ := hrel
    clear HO
    have hcar := grownW_carry xs b m HL.out hb hm k
    unfold W at hcar
    have hsz := hB.size
    by_cases hlt : k < n
    · obtain ⟨g, rfl, hbg, _⟩ := owns_some hown (by omega)
      have HST := Lib.hid (cl_take_succ W m (xs.map (· * b)) k (by simp; rw [HN.out]; exact hlt))
      have hkx : k < xs.length := by rw [HN.out]; exact hlt
      have hlen : (cl W m ((xs.map (· * b)).take k)).1.length = k := by rw [cl_length]; simp; omega
      have hd := HL.out.getD (by decide) k
      have hgx : xs[k]? = some (xs.getD k 0) := by simp [List.getD_eq_getElem?_getD, hkx]
      have hgm : (xs.map (· * b)).getD k 0 = xs.getD k 0 * b := by simp [List.getD_eq_getElem?_getD, hkx]
      rw [hgm] at HST
      have hc : wr.cell? ⟨g, k, none⟩ = some (.int .u32 (xs.getD k 0 : Nat)) := by
        rw [hown.cellAt k (by omega)]
        exact u32s_get _ _ _ (by rw [get_done hlen (Nat.le_refl _)]; exact hgx)
      have hf : wr.frozen? ⟨g, k, none⟩ = false := hown.frozenAt k
      have HD := Lib.hid (fun v => set_done (v := v) hlen hkx)
      have HOW := Lib.hid hown
      have HB := Lib.hid hB
      clear hown hB hlen hgx hgm
      have hmul : xs.getD k 0 * b ≤ 4294967295 * 4294967295 := Nat.mul_le_mul (by unfold W at hd; omega) (by omega)
      unfold W at hd
      generalize xs.getD k 0 = d at *
      generalize hcc : cl W m ((xs.map (· * b)).take k) = cc at *
      have HCC := Lib.hid hcc
      clear hcc
      obtain ⟨p, hp⟩ : ∃ p : Nat, p = d * b := ⟨_, rfl⟩
      have hpI : (d : Int) * b = p := by rw [hp]; simp
      rw [← hp] at HST hmul
      have HP := Lib.hid hp
      clear hp
      go_wp2_with fail
      go_roundw
      case rel =>
        refine ⟨k + 1, by omega, by go_num, ?_, ?_, ?_⟩
        · rw [HST.out]; simp [W]
        · have := (HOW.out.stored k (.int .u32 ((cc.2 + p) % W : Nat))).1
          rw [u32s_set, HD.out] at this
          rw [HST.out]
          simpa [W] using this
        · exact HB.out.setCell (by simpa using hbg) _
      case measure => simp [intOf]; omega
    · obtain rfl : k = n := by omega
      have HG : Hid (grownW xs b m = if 0 < (cl W m ((xs.map (· * b)).take k)).2 then (cl W m ((xs.map (· * b)).take k)).1 ++ [(cl W m ((xs.map (· * b)).take k)).2] else (cl W m ((xs.map (· * b)).take k)).1) := by
        rw [List.take_of_length_le (by simp; rw [HN.out]; omega)]; rfl
      have hlen : (cl W m ((xs.map (· * b)).take k)).1.length = k := by rw [cl_length]; simp; rw [HN.out]; omega
      rw [List.drop_eq_nil_of_le (by rw [HN.out]; omega), List.append_nil] at hown
      generalize (cl W m ((xs.map (· * b)).take k)) = cc at *
      have HOW := Lib.hid hown
      have HB := Lib.hid hB
      have HLN := Lib.hid hlen
      clear hown hB hlen
      by_cases hc0 : 0 < cc.2
      · go_wp2_with (at_builtin; refine wpList_append_own _ rfl _ _ 114 rfl base 116 i0 (.int .u32 0) 1 4 Tryz.underlying114 hi hz0 hz1 hz2 rfl (by decide) _ _ _ rfl (HOW.out.alloc _) ⟨wr.heap.size, 0, none⟩ 1 1 [.int .u32 cc.2] rfl rfl ?c1 ?c2 ?c3 ?c4 ?c5 ?_)
        case c1 =>
          intro j u hj
          match j, hj with
          | 0, hj => simp at hj; subst hj; simp [Addr.add]
        case c2 => intro u hu; simp at hu; subst hu; rfl
        case c3 => unfold maxLen; omega
        case c4 => omega
        case c5 => simp; omega
        intro v' w1 hown' hgrow _
        have hB1 : Below base w w1 := (HB.out.alloc (by omega) _).grown hgrow (by simp; omega) (fun i hi => (HOW.out.lt i hi).1)
        have hfin : w1.ownsRow base 116 1 v' (grownW xs b m).length (u32s (grownW xs b m)) := by
          rw [HG.out, if_pos hc0]
          simpa [u32s, HLN.out] using hown'
        have HF := Lib.hid hfin
        have HB1 := Lib.hid hB1
        clear hown' hgrow hfin hB1
        go_wp2
        go_ret
        exact ⟨v', rfl, HF.out, HB1.out⟩
      · have hfin : wr.ownsRow base 116 1 (.slice a k cap) (grownW xs b m).length (u32s (grownW xs b m)) := by
          rw [HG.out, if_neg hc0, HLN.out]; exact HOW.out
        have HF := Lib.hid hfin
        clear hfin
        go_wp2
        go_ret
        exact ⟨_, rfl, HF.out, HB.out⟩
end Go.Proofs.YtajjgfiojlagmaaGreatDoor

/- Read. -/
namespace Go.Proofs.YtajjgfiojlagmaaGreatDoor
open Go.RowKit Num

def SlW (base E : Nat) (ys : List Nat) (v : Value) (w : World) : Prop :=
  ∃ a cap, v = .slice a ys.length cap ∧ w.ownsRow base E 1 (.slice a ys.length cap) ys.length (u32s ys)

theorem SlW.of {base E : Nat} {ys : List Nat} {v : Value} {w : World} (h : w.ownsRow base E 1 v ys.length (u32s ys)) : SlW base E ys v w := by
  rcases h.2 with ⟨rfl, h2⟩ | ⟨g, c, cur, rfl, _⟩
  · exact ⟨none, 0, by rw [h2], by rw [h2] at h ⊢; exact h⟩
  · exact ⟨_, _, rfl, h⟩

theorem CellsU.ofOwns {w : World} {base E n cap : Nat} {a : Option Addr} {xs : List Nat} (h : w.ownsRow base E 1 (.slice a n cap) n (u32s xs)) : CellsU w a xs := by
  intro i d hd
  have hl : xs.length = n := by have := h.1; simpa [u32s] using this
  have hi : i < n := by rw [← hl]; exact (List.getElem?_eq_some_iff.1 hd).1
  obtain ⟨g, rfl, _, _⟩ := owns_some h (by omega)
  exact ⟨g, 0, rfl, by rw [Nat.zero_add, h.cellAt i (by omega)]; exact u32s_get _ _ _ hd⟩

theorem grownW_length (xs : List Nat) (b m : Nat) : (grownW xs b m).length ≤ xs.length + 1 := by
  unfold grownW
  simp only
  split
  · simp [cl_length]
  · simp [cl_length]

def ReadPost (s : ByteArray) (w : World) (e : Ending) (w' : World) : Prop :=
  e = .returned (.tuple #[natV ((readN (bts s)).getD 0), .bool (readN (bts s)).isSome]) ∧ Below w.heap.size w w'

theorem readN_bad {l : List Nat} (h : decOk l = false) : readN l = none := by unfold readN; rw [h]; rfl
theorem readN_ok {l : List Nat} (h : decOk l = true) : readN l = some (decVal l) := by unfold readN; rw [h]; rfl

theorem decOk_long {l : List Nat} (h : 2000 < l.length) : decOk l = false := by
  unfold decOk
  have : decide (l.length ≤ 2000) = false := by simp; omega
  rw [this]; simp
theorem decOk_zero {l : List Nat} (h : 1 < l.length) (h0 : l.getD 0 0 = 48) : decOk l = false := by
  unfold decOk
  have h1 : decide (1 < l.length) = true := by simp [h]
  rw [h1, h0]; simp
theorem decOk_char {l : List Nat} {k : Nat} (hk : k < l.length) (h : l.getD k 0 < 48 ∨ 57 < l.getD k 0) : decOk l = false := by
  unfold decOk
  rw [Bool.and_eq_false_iff]
  right
  rw [List.all_eq_false]
  refine ⟨l.getD k 0, ?_, by generalize l.getD k 0 = c at *; simp; omega⟩
  rw [List.getD_eq_getElem?_getD, List.getElem?_eq_getElem hk]
  exact List.getElem_mem hk
theorem decOk_all {l : List Nat} (h1 : l ≠ []) (h2 : l.length ≤ 2000) (h3 : l.length ≤ 1 ∨ l.getD 0 0 ≠ 48) (h4 : ∀ j, j < l.length → 48 ≤ l.getD j 0 ∧ l.getD j 0 ≤ 57) : decOk l = true := by
  unfold decOk
  simp only [Bool.and_eq_true, Bool.not_eq_true', List.isEmpty_eq_false_iff, decide_eq_true_eq, List.all_eq_true, Bool.and_eq_false_iff, decide_eq_false_iff_not, beq_eq_false_iff_ne]
  refine ⟨⟨⟨h1, h2⟩, ?_⟩, fun c hc => ?_⟩
  · rcases h3 with h | h
    · left; omega
    · right; exact h
  · obtain ⟨j, hj, rfl⟩ := List.getElem_of_mem hc
    have := h4 j hj
    rwa [List.getD_eq_getElem?_getD, List.getElem?_eq_getElem hj] at this

set_option maxHeartbeats 400000 in
set_option maxRecDepth 100000 in
theorem read_bad1 (s : ByteArray) (hs : s.size = 0 ∨ 2000 < s.size) (hs2 : s.size ≤ 1099511627776) (w : World) :
    Calls Tryz.prog 50 #[.string s] w (ReadPost s w) := by
  have HP : Hid (readN (bts s) = none) := readN_bad (by
    have hsz := bts_length s
    rcases hs with h | h
    · rw [List.eq_nil_of_length_eq_zero (hsz.trans h)]; rfl
    · exact decOk_long (by omega))
  rcases hs with h | h
  · have hb : ((s.size : Int) == 0) = true := beq_yes (by omega)
    clear h
    go_enter Tryz.func50, Tryz.ntmps50
    go_wp2_with fail
    exact bodyPost_ret (v := .tuple #[natV 0, .bool false]) (by simp [results, Tryz.results50, go_sem, natV_zero]) rfl ⟨by rw [HP.out]; rfl, ((Below.refl _ _).alloc (Nat.le_refl _) _)⟩
  · have hb : ((s.size : Int) == 0) = false := beq_no (by omega)
    go_enter Tryz.func50, Tryz.ntmps50
    go_wp2_with fail
    exact bodyPost_ret (v := .tuple #[natV 0, .bool false]) (by simp [results, Tryz.results50, go_sem, natV_zero]) rfl ⟨by rw [HP.out]; rfl, ((Below.refl _ _).alloc (Nat.le_refl _) _)⟩

set_option maxHeartbeats 400000 in
set_option maxRecDepth 100000 in
theorem read_bad2 (s : ByteArray) (hs : 1 < s.size) (hs2 : s.size ≤ 2000) (h0 : s[0].toNat = 48) (w : World) :
    Calls Tryz.prog 50 #[.string s] w (ReadPost s w) := by
  have HP : Hid (readN (bts s) = none) := readN_bad (decOk_zero (by rw [bts_length]; exact hs) (by rw [bts_getD s 0 (by omega)]; exact h0))
  have hb : ((s.size : Int) == 0) = false := beq_no (by omega)
  have hz : ((s[0].toNat : Int) == 48) = true := by simp [h0]
  clear h0
  go_enter Tryz.func50, Tryz.ntmps50
  go_wp2_with fail
  exact bodyPost_ret (v := .tuple #[natV 0, .bool false]) (by simp [results, Tryz.results50, go_sem, natV_zero]) rfl ⟨by rw [HP.out]; rfl, ((Below.refl _ _).alloc (Nat.le_refl _) _)⟩

theorem read_test (s : ByteArray) (h : 0 < s.size) (h0 : s.size ≤ 1 ∨ s[0].toNat ≠ 48) : (1 < s.size → ((s[0].toNat : Int) == 48) = false) := by
  intro h1
  rcases h0 with h0 | h0
  · omega
  · simp; omega

set_option maxHeartbeats 1600000 in
set_option maxRecDepth 100000 in
theorem read_loop (s : ByteArray) (hs : 0 < s.size) (hs2 : s.size ≤ 2000) (h0 : s.size ≤ 1 ∨ s[0].toNat ≠ 48) (w : World) :
    Calls Tryz.prog 50 #[.string s] w (ReadPost s w) := by
  have hsz := bts_length s
  have hb : ((s.size : Int) == 0) = false := beq_no (by omega)
  have hz : 1 < s.size → ((s[0].toNat : Int) == 48) = false := read_test s hs h0
  have HOK := Lib.hid (fun (h4 : ∀ j, j < (bts s).length → 48 ≤ (bts s).getD j 0 ∧ (bts s).getD j 0 ≤ 57) =>
    decOk_all (l := bts s) (by intro e; rw [e] at hsz; simp at hsz; omega) (by omega) (by rw [hsz, bts_getD s 0 hs]; exact h0) h4)
  clear h0
  go_enter Tryz.func50, Tryz.ntmps50
  by_cases h1 : 1 < s.size
  all_goals
    first
      | (have hz := hz h1)
      | (clear hz)
    go_wp2_with fail
    go_loopw [4, 27] (fun v i wr => ∃ (k : Nat) (ys : List Nat), k ≤ s.size ∧ i = .int .i64 (k : Nat) ∧ SlW (w.heap.size + 1) 116 ys v wr ∧ AllLt W ys ∧ digs W ys = decVal ((bts s).take k) ∧ ys.length ≤ k ∧
        (∀ j, j < k → 48 ≤ (bts s).getD j 0 ∧ (bts s).getD j 0 ≤ 57) ∧ wr.cell? ⟨w.heap.size, 0, none⟩ = some (.string { data := #[] }) ∧ wr.frozen? ⟨w.heap.size, 0, none⟩ = false ∧ w.heap.size + 1 ≤ wr.heap.size ∧ Below w.heap.size w wr)
      (fun _ i _ => s.size - (intOf i).toNat)
    case atStart =>
      exact ⟨0, [], Nat.zero_le _, rfl, ⟨none, 0, rfl, World.ownsRow_nil _ _ _ _⟩, AllLt.nil W, by simp [digs, decVal], Nat.zero_le _, fun j hj => by omega, by simp [go_sem], by simp [go_sem], by simp, (Below.refl _ _).alloc (Nat.le_refl _) _⟩
    case round =>
      obtain ⟨k, ys, hk, rfl, hsl, hys, hval, hyl, hdig, hbox, hboxf, hws, hB⟩ := hrel
      have HV := Lib.hid hval
      have HY := Lib.hid hys
      have HD := Lib.hid hdig
      have HB := Lib.hid hB
      clear hval hys hdig hB
      obtain ⟨a, cap, rfl, hown⟩ := hsl
      have HO := Lib.hid hown
      clear hown
      by_cases hlt : k < s.size
      · have hc := bts_getD s k hlt
        have hsucc := decVal_take_succ (bts s) k (by omega)
        have HCH := Lib.hid (fun h => decOk_char (l := bts s) (k := k) (by omega) h)
        have HDG : Hid (48 ≤ (bts s).getD k 0 ∧ (bts s).getD k 0 ≤ 57 → ∀ j, j < k + 1 → 48 ≤ (bts s).getD j 0 ∧ (bts s).getD j 0 ≤ 57) := by
          intro h j hj
          by_cases hjk : j = k
          · rw [hjk]; exact h
          · exact HD.out j (by omega)
        rw [hc] at hsucc HCH HDG
        have HSC := Lib.hid hsucc
        clear hc hsucc
        by_cases hbad : s[k].toNat < 48 ∨ 57 < s[k].toNat
        · have HP : Hid (readN (bts s) = none) := readN_bad (HCH.out hbad)
          clear HCH
          rcases hbad with hbad | hbad
          all_goals
            go_wp2_with fail
            exact bodyPost_ret (v := .tuple #[natV 0, .bool false]) (by simp [results, Tryz.results50, go_sem, natV_zero, hbox]) rfl ⟨by rw [HP.out]; rfl, HB.out.setCell (Nat.le_refl _) _⟩
        · clear HCH
          have hlo : 48 ≤ s[k].toNat := by omega
          have hhi : s[k].toNat ≤ 57 := by omega
          clear hbad
          go_wp2_with fail
          rw [show ((s[k].toNat : Int) - 48) = ((s[k].toNat - 48 : Nat) : Int) by omega]
          refine (grow_any (w.heap.size + 1) ys.length cap 10 (s[k].toNat - 48) a ys rfl HY.out (by omega) (by omega) (by omega) wr hws HO.out).mono ?_
          rintro e w' ⟨v, rfl, hown', hB'⟩
          have hbox' : w'.cell? ⟨w.heap.size, 0, none⟩ = some (.string { data := #[] }) := below_cell hB' (by omega) hbox
          have hboxf' : w'.frozen? ⟨w.heap.size, 0, none⟩ = false := by rw [hB'.frozen (p := ⟨w.heap.size, 0, none⟩) (by simp)]; exact hboxf
          have hws' : w.heap.size + 1 ≤ w'.heap.size := Nat.le_trans hws hB'.size
          have HB' := Lib.hid (HB.out.trans (hB'.mono (Nat.le_succ _)))
          have HS' := Lib.hid (SlW.of hown')
          have HY' := Lib.hid (grownW_lt ys 10 (s[k].toNat - 48) HY.out (by decide) (by unfold W; omega))
          have HV' : Hid (digs W (grownW ys 10 (s[k].toNat - 48)) = decVal ((bts s).take (k + 1))) := by
            unfold Hid
            rw [grownW_digs, HV.out, HSC.out, Nat.mul_comm]
          have hyl' : (grownW ys 10 (s[k].toNat - 48)).length ≤ k + 1 := Nat.le_trans (grownW_length _ _ _) (by omega)
          generalize grownW ys 10 (s[k].toNat - 48) = zs at *
          clear hown' hB' hbox hboxf hws HO HB HY HV HSC HD
          go_wp2_with fail
          go_roundw
          case rel => exact ⟨k + 1, zs, by omega, by go_num, HS'.out, HY'.out, HV'.out, hyl', HDG.out ⟨hlo, hhi⟩, hbox', hboxf', hws', HB'.out⟩
          case measure => simp [intOf]; omega
      · obtain rfl : k = s.size := by omega
        have HP : Hid (readN (bts s) = some (decVal (bts s))) := readN_ok (HOK.out (fun j hj => HD.out j (by omega)))
        have hval := HV.out
        rw [List.take_of_length_le (by omega)] at hval
        have HV := Lib.hid hval
        clear hval
        go_wp2_with fail
        refine (from_any a ys ys.length cap rfl HY.out (by omega) wr (CellsU.ofOwns HO.out)).mono ?_
        rintro e w' ⟨rfl, hB'⟩
        have hbox' : w'.cell? ⟨w.heap.size, 0, none⟩ = some (.string { data := #[] }) := below_cell hB' (by omega) hbox
        have hboxf' : w'.frozen? ⟨w.heap.size, 0, none⟩ = false := by rw [hB'.frozen (p := ⟨w.heap.size, 0, none⟩) (by simp; omega)]; exact hboxf
        have HB' := Lib.hid (HB.out.trans (hB'.mono (by omega)))
        rw [HV.out]
        clear hB' hbox hboxf
        unfold natV
        go_wp2_with fail
        exact bodyPost_ret (v := .tuple #[natV (decVal (bts s)), .bool true]) (by simp [results, Tryz.results50, go_sem, natV, hbox']) rfl ⟨by rw [HP.out]; rfl, HB'.out.setCell (Nat.le_refl _) _⟩

theorem read_any (s : ByteArray) (hs : s.size ≤ 1099511627776) (w : World) :
    Calls Tryz.prog 50 #[.string s] w (ReadPost s w) := by
  by_cases h0 : s.size = 0 ∨ 2000 < s.size
  · exact read_bad1 s h0 hs w
  · by_cases h1 : 1 < s.size
    · by_cases h2 : s[0].toNat = 48
      · exact read_bad2 s h1 (by omega) h2 w
      · exact read_loop s (by omega) (by omega) (.inr h2) w
    · exact read_loop s (by omega) (by omega) (.inl (by omega)) w
end Go.Proofs.YtajjgfiojlagmaaGreatDoor

/- strings.Builder: copyCheck, WriteByte at this dump (turned from the guide's worked walks). -/
namespace Go.Proofs.YtajjgfiojlagmaaGreatDoor
open Go.RowKit Num

theorem Tryz.sizeBuilder : (Tryz.prog.info? 143).map (·.size) = some 2 := by kernel_rfl
theorem Tryz.liesBuilder : liesAt Tryz.prog Tryz.prog.depth 143 (2 / Tryz.prog.cellsOf 143) 0 143 1 = true := by kernel_rfl

set_option maxHeartbeats 1000000 in
set_option maxRecDepth 100000 in
theorem copyCheck_used (b : Nat) (w : World) (h0 : w.cell? ⟨b, 0, none⟩ = some (.pointer (some ⟨b, 0, none⟩))) :
    Calls Tryz.prog 120 #[.pointer (some ⟨b, 0, none⟩)] w fun e w' => e = .returned (.tuple #[]) ∧ w' = w := by
  obtain ⟨j, hj, _⟩ := Option.map_eq_some_iff.1 Tryz.sizeBuilder
  go_enter Tryz.func120, Tryz.ntmps120
  go_wp2
  rw [Lib.run_neq_ptr_same w _ Tryz.underlying141 hj]
  go_wp2
  go_end0
  exact ⟨rfl, rfl⟩

set_option maxHeartbeats 1000000 in
set_option maxRecDepth 100000 in
theorem copyCheck_fresh (b : Nat) (w : World) (h0 : w.cell? ⟨b, 0, none⟩ = some (.pointer none)) (hsh : w.shape? b = some (143, 2)) (hfz : w.frozen? ⟨b, 0, none⟩ = false) :
    Calls Tryz.prog 120 #[.pointer (some ⟨b, 0, none⟩)] w fun e w' => e = .returned (.tuple #[]) ∧ w' = w.setCell ⟨b, 0, none⟩ (.pointer (some ⟨b, 0, none⟩)) := by
  obtain ⟨j, hj, hjs⟩ := Option.map_eq_some_iff.1 Tryz.sizeBuilder
  go_enter Tryz.func120, Tryz.ntmps120
  go_wp2
  rw [Lib.run_to_unsafe w ⟨b, 0, none⟩ Tryz.underlying141 Tryz.underlying164 hj (by rw [hjs]; decide) hsh (Nat.zero_lt_succ 1)]
  simp only [Result.andThen]
  rw [Oper.upon_value]
  go_wp2
  rw [run_callFunc_extern Tryz.func126 (by kernel_rfl) (by kernel_rfl) (by kernel_rfl) (e := Extern.AbiNoEscape.same) (by kernel_rfl)]
  rw [Lib.run_noEscape]
  simp only [Result.andThen]
  rw [Oper.upon_value]
  go_wp2
  rw [Lib.run_from_unsafe w ⟨b, 0, none⟩ Tryz.underlying164 Tryz.underlying141 hj hsh Tryz.liesBuilder]
  simp only [Result.andThen]
  rw [Oper.upon_value]
  go_wp2
  go_end0
  exact ⟨rfl, rfl⟩

theorem copyCheck_any (B b : Nat) (bs : List Value) (w : World) (h : Lib.IsBuilder 143 5 B b bs w) :
    Calls Tryz.prog 120 #[.pointer (some ⟨b, 0, none⟩)] w fun e w' => e = .returned (.tuple #[]) ∧ (Lib.BuilderAt 143 5 B b (.pointer (some ⟨b, 0, none⟩)) bs w' ∧ Below B w w') := by
  rcases h with h | h
  · refine (copyCheck_fresh b w h.cell0 h.shape h.frozen0).mono ?_
    rintro e w' ⟨rfl, rfl⟩
    exact ⟨rfl, h.used _, (Below.refl B w).setCell (p := ⟨b, 0, none⟩) h.1 _⟩
  · refine (copyCheck_used b w h.cell0).mono ?_
    rintro e w' ⟨rfl, rfl⟩
    exact ⟨rfl, h, Below.refl B _⟩

set_option maxHeartbeats 1000000 in
set_option maxRecDepth 100000 in
theorem writeByte_any (B b : Nat) (bs : List Value) (c : Int) (w : World) (h : Lib.IsBuilder 143 5 B b bs w) (hlen : bs.length + 1 ≤ 140737488355328) (hBw : B ≤ w.heap.size) :
    Calls Tryz.prog 97 #[.pointer (some ⟨b, 0, none⟩), .int .u8 c] w fun e w' => e = .returned .nilIface ∧ (Lib.BuilderAt 143 5 B b (.pointer (some ⟨b, 0, none⟩)) (bs ++ [.int .u8 c]) w' ∧ Below B w w') := by
  obtain ⟨i0, hi, hz0, hz1, hz2⟩ := info_parts Tryz.infoU8
  go_enter Tryz.func97, Tryz.ntmps97
  go_wp2_with (go_at_call 120; refine (copyCheck_any B b bs _ h).mono ?_)
  rintro e w1 ⟨rfl, h1, hb1⟩
  obtain ⟨hB, v, hbk, hown, hne⟩ := h1
  have c0 : w1.cell? ⟨b, 0, none⟩ = some (.pointer (some ⟨b, 0, none⟩)) := by rw [Lib.cell_of_heap hbk]; rfl
  have c1 : w1.cell? ⟨b, 1, none⟩ = some v := by rw [Lib.cell_of_heap hbk]; rfl
  go_wp2_with (at_builtin; refine wpList_append_own _ rfl _ _ 50 rfl B 5 i0 (.int .u8 0) 1 1 Tryz.underlying50 hi hz0 hz1 hz2 rfl (by decide) _ _ _ rfl (hown.alloc _) ⟨w1.heap.size, 0, none⟩ 1 1 [.int .u8 c] rfl rfl ?c1 ?c2 ?c3 ?c4 ?c5 ?_)
  case c1 =>
    intro j u hj
    match j, hj with
    | 0, hj => simp at hj; subst hj; simp [Addr.add]
  case c2 => intro u hu; simp at hu; subst hu; rfl
  case c3 => unfold maxLen; omega
  case c4 => omega
  case c5 => have := hb1.size; simp; omega
  intro v' w2 hown' hgrow _
  have hlt : b < w1.heap.size := by
    rcases Nat.lt_or_ge b w1.heap.size with h' | h'
    · exact h'
    · simp [Array.getElem?_eq_none h'] at hbk
  have hb2 : w2.heap[b]? = some (.cells #[.pointer (some ⟨b, 0, none⟩), v] 143 (0, 0)) := by
    rw [hgrow.block b (by simp; omega) (fun e => hne e.symm), Lib.alloc_old w1 _ b hlt]
    exact hbk
  have d0 : w2.cell? ⟨b, 0, none⟩ = some (.pointer (some ⟨b, 0, none⟩)) := by rw [Lib.cell_of_heap hb2]; rfl
  have d1 : w2.cell? ⟨b, 1, none⟩ = some v := by rw [Lib.cell_of_heap hb2]; rfl
  have f1 : w2.frozen? ⟨b, 1, none⟩ = false := Lib.frozen_of_heap hb2 1
  obtain ⟨g, cap, rfl⟩ : ∃ g cap, v' = .slice (some ⟨g, 0, none⟩) (bs.length + 1) cap := by
    rcases hown'.2 with ⟨_, h0⟩ | ⟨g, cap, cur, hv, _⟩
    · omega
    · exact ⟨g, cap, hv⟩
  go_wp2
  go_ret
  refine ⟨rfl, ?_, ?_⟩
  · exact Lib.BuilderAt.put (T := 143) (e := 5) hB hb2 (bs' := bs ++ [.int .u8 c]) (by simpa using hown') (by decide)
  · exact ((hb1.alloc (by have := hb1.size; omega) _).grown hgrow (by have := hb1.size; simp; omega) (fun k hk => (hown.lt k hk).1)).setCell (p := ⟨b, 1, none⟩) hB _
end Go.Proofs.YtajjgfiojlagmaaGreatDoor
