/- Texts of this claim, joined: WSmall, WCmp, WShrink, WGrow, WBuild. -/
import Derived.Test.YtbacloneddnaeaaRows
import Derived.Test.YtbacloneddnaeaaM01
import Derived.Test.YtbacloneddnaeaaM06
import Derived.Test.YtbacloneddnaeaaM07
import Derived.Test.YtbacloneddnaeaaShelf
import Derived.WalkKit
import Derived.WalkSpells
import Derived.WalkLawsBesides
import Derived.Lib.Hide
import Derived.Lib.Builder
import Derived.Lib.AppendStr
import Derived.Lib.UnsafeStr

/- Of, Pow2, Uint, Len. -/
namespace Go.Proofs.Ytbacloneddnaeaa
open Go.RowKit Num

theorem words_nat (n : Nat) (hn : nl n ≤ 1099511627776) (w : World) :
    Calls Try.prog 81 #[natV n] w fun e w' =>
      e = .returned (.slice (some ⟨w.heap.size + 1, 0, none⟩) (digitsOf W n).length (digitsOf W n).length) ∧ Row w' (w.heap.size + 1) 133 (u32s (digitsOf W n)) ∧ Below w.heap.size w w' := by
  have h := words_any (nb n) (by rw [nb_size]; exact hn) w
  have e : (nb n).size = (digitsOf 256 n).length := nb_size n
  have e2 : ((nb n).size + 3) / 4 = (digitsOf W n).length := by
    have := congrArg List.length (wds_digits n)
    rw [wds_length] at this
    rw [e]; exact this
  rw [bts_nb, e2] at h
  rw [← e2, e, wds_digits, ← e, e2] at h
  exact h

theorem CellsU.ofRow {w : World} {g : Nat} {E : TypeId} {xs : List Nat} (h : Row w g E (u32s xs)) : CellsU w (some ⟨g, 0, none⟩) xs := by
  intro i d hd
  exact ⟨g, 0, rfl, by rw [Nat.zero_add]; exact h.cell (u32s_get _ _ _ hd)⟩

theorem digs_two (n : Nat) (_hn : n < 18446744073709551616) : digs W [n % 4294967296, n / 4294967296] = n := by
  simp [digs, W]; omega

set_option maxHeartbeats 400000 in
set_option maxRecDepth 100000 in
theorem of_any (n : Nat) (hn : n < 18446744073709551616) (w : World) :
    Calls Try.prog 43 #[.int .u64 n] w fun e w' => e = .returned (natV n) ∧ Below w.heap.size w w' := by
  have HD := Lib.hid (digs_two n hn)
  have HX : Hid (AllLt W [n % 4294967296, n / 4294967296]) := AllLt.cons (by unfold W; omega) (AllLt.cons (by unfold W; omega) (AllLt.nil _))
  go_enter Try.func43, Try.ntmps43
  go_wp2_with fail
  refine (from_any (some ⟨w.heap.size + 1, 0, none⟩) [n % 4294967296, n / 4294967296] 2 2 rfl HX.out (by omega) _ ?_).mono ?_
  · have hR := Row.new (w.alloc (Obj.cells #[Value.string { data := #[] }] 32)) 133 (u32s [n % 4294967296, n / 4294967296])
    have e : (u32s [n % 4294967296, n / 4294967296]).toArray = #[Value.int IntKind.u32 (↑n % 4294967296), Value.int IntKind.u32 (↑n / 4294967296)] := by simp [u32s]
    have es : (w.alloc (Obj.cells #[Value.string { data := #[] }] 32)).heap.size = w.heap.size + 1 := by simp
    rw [e, es] at hR
    exact CellsU.ofRow hR
  · rintro e w' ⟨rfl, hb⟩
    rw [HD.out]
    have hB : Below w.heap.size w w' := (((Below.refl _ _).alloc (Nat.le_refl _) _).alloc (by simp) _).trans (hb.mono (by simp; omega))
    have hbox : w'.cell? ⟨w.heap.size, 0, none⟩ = some (.string { data := #[] }) := below_cell hb (by simp; omega) (by simp)
    have hboxf : w'.frozen? ⟨w.heap.size, 0, none⟩ = false := by rw [hb.frozen (p := ⟨w.heap.size, 0, none⟩) (by simp; omega)]; simp
    clear hb
    have HB := Lib.hid hB
    clear hB
    unfold natV
    go_wp2
    exact bodyPost_ret (v := natV n) (by simp [results, Try.results43, go_sem, hbox, natV]) rfl ⟨rfl, HB.out.setCell (Nat.le_refl _) _⟩

end Go.Proofs.Ytbacloneddnaeaa

/- Cmp, Uint, Pow2. -/
namespace Go.Proofs.Ytbacloneddnaeaa
open Go.RowKit Num

theorem nb_toList_ne {a b : Nat} (h : ¬ a = b) : ¬ (nb a).toList = (nb b).toList := by
  intro e
  rw [ByteArray.toList_eq, ByteArray.toList_eq] at e
  apply h
  apply nb_inj
  have : (nb a).data = (nb b).data := Array.toList_inj.1 e
  cases ha : nb a; cases hb : nb b
  rw [ha, hb] at this
  simpa using this

set_option maxHeartbeats 800000 in
set_option maxRecDepth 100000 in
theorem cmp_any (a b : Nat) (ha : nl a ≤ 1099511627776) (hb : nl b ≤ 1099511627776) (w : World) :
    Calls Try.prog 41 #[natV a, natV b] w fun e w' => e = .returned (.int .i64 (cmpI a b)) ∧ Below w.heap.size w w' := by
  have hsa := nb_size a
  have hsb := nb_size b
  unfold natV
  by_cases h0 : a = b
  · subst h0
    go_enter Try.func41, Try.ntmps41
    go_wp2_with fail
    go_ret
    exact ⟨ret_int (cmpI_eq a).symm, ((Below.refl _ _).alloc (Nat.le_refl _) _).alloc (by simp) _⟩
  · have hne := nb_toList_ne h0
    by_cases hl : nl a = nl b
    · have hlb : ((nl a : Int) != nl b) = false := by simp [hl]
      have HL := Lib.hid hl
      have H0 := Lib.hid h0
      clear hl h0
      go_enter Try.func41, Try.ntmps41
      go_wp2_with fail
      go_loopw [5] (fun i wr => ∃ k : Nat, k ≤ nl a ∧ i = .int .i64 ((k : Int) - 1) ∧ (∀ j, k ≤ j → (digitsOf 256 a).getD j 0 = (digitsOf 256 b).getD j 0) ∧
          wr.cell? ⟨w.heap.size, 0, none⟩ = some (.string (nb a)) ∧ wr.cell? ⟨w.heap.size + 1, 0, none⟩ = some (.string (nb b)) ∧ Below w.heap.size w wr)
        (fun i _ => (intOf i + 1).toNat)
      case atStart =>
        refine ⟨nl a, Nat.le_refl _, rfl, fun j hj => ?_, by simp [go_sem], by simp [go_sem], ((Below.refl _ _).alloc (Nat.le_refl _) _).alloc (by simp) _⟩
        have e1 : (digitsOf 256 a).length ≤ j := hj
        have e2 : (digitsOf 256 b).length ≤ j := by have := HL.out; unfold nl at *; omega
        simp [List.getD_eq_getElem?_getD, List.getElem?_eq_none e1, List.getElem?_eq_none e2]
      case round =>
        obtain ⟨k, hk, rfl, heq, hca, hcb, hB⟩ := hrel
        have HE := Lib.hid heq
        have HB := Lib.hid hB
        clear heq hB
        by_cases hpos : 0 < k
        · have hka : k - 1 < (nb a).size := by omega
          have hkb : k - 1 < (nb b).size := by have := HL.out; omega
          have hga := nb_get a (k - 1) hka
          have hgb := nb_get b (k - 1) hkb
          have HLT := Lib.hid (fun (h1 : (digitsOf 256 a).getD (k - 1) 0 < (digitsOf 256 b).getD (k - 1) 0) => lt_of_top HL.out (k - 1) (by omega) h1 (fun j hj => HE.out j (by omega)))
          have HGT := Lib.hid (fun (h1 : (digitsOf 256 b).getD (k - 1) 0 < (digitsOf 256 a).getD (k - 1) 0) => lt_of_top HL.out.symm (k - 1) (by have := HL.out; omega) h1 (fun j hj => (HE.out j (by omega)).symm))
          have HNX : Hid ((digitsOf 256 a).getD (k - 1) 0 = (digitsOf 256 b).getD (k - 1) 0 → ∀ j, k - 1 ≤ j → (digitsOf 256 a).getD j 0 = (digitsOf 256 b).getD j 0) := by
            intro h1 j hj
            by_cases hjk : j = k - 1
            · rw [hjk]; exact h1
            · exact HE.out j (by omega)
          generalize (digitsOf 256 a).getD (k - 1) 0 = da at *
          generalize (digitsOf 256 b).getD (k - 1) 0 = db at *
          go_wp2_with fail
          go_quiet (fail)
          by_cases h1 : da < db
          · go_wp2
            go_ret
            exact ⟨ret_int (cmpI_lt (HLT.out h1)).symm, HB.out.drewN _⟩
          · go_wp2_with fail
            go_quiet (fail)
            by_cases h2 : db < da
            · go_wp2
              go_ret
              exact ⟨ret_int (cmpI_gt (HGT.out h2)).symm, (HB.out.drewN _).drewN _⟩
            · go_wp2
              go_roundw
              case rel => exact ⟨k - 1, by omega, by go_num, HNX.out (by omega), by simpa using hca, by simpa using hcb, HB.out.drewN _⟩
              case measure => simp [intOf]; omega
        · obtain rfl : k = 0 := by omega
          exact absurd (eq_of_all HL.out (fun j => HE.out j (Nat.zero_le _))) H0.out
    · have hlb : ((nl a : Int) != nl b) = true := by simp; omega
      clear h0
      rcases Nat.lt_or_gt_of_ne hl with h1 | h1
      · have HR := Lib.hid (cmpI_lt (lt_of_nl h1))
        clear hl
        go_enter Try.func41, Try.ntmps41
        go_wp2_with fail
        go_ret
        exact ⟨ret_int HR.out.symm, ((Below.refl _ _).alloc (Nat.le_refl _) _).alloc (by simp) _⟩
      · have HR := Lib.hid (cmpI_gt (lt_of_nl h1))
        clear hl
        go_enter Try.func41, Try.ntmps41
        go_wp2_with fail
        go_ret
        exact ⟨ret_int HR.out.symm, ((Below.refl _ _).alloc (Nat.le_refl _) _).alloc (by simp) _⟩

end Go.Proofs.Ytbacloneddnaeaa

/- shrink, grow. -/
namespace Go.Proofs.Ytbacloneddnaeaa
open Go.RowKit Num

def shrunk (cells : List Nat) (n b k : Nat) : List Nat := cells.take k ++ (shr W b ((cells.take n).drop k)).1 ++ cells.drop n

theorem shrunk_full (cells : List Nat) (n b : Nat) (hn : n ≤ cells.length) : shrunk cells n b n = cells := by
  unfold shrunk
  rw [List.drop_eq_nil_of_le (by simp; omega)]
  simp [shr]

theorem shr_drop_pred (l : List Nat) (b k : Nat) (hk : 0 < k) (hl : k ≤ l.length) :
    shr W b (l.drop (k - 1)) = (((shr W b (l.drop k)).2 * W + l.getD (k - 1) 0) / b :: (shr W b (l.drop k)).1, ((shr W b (l.drop k)).2 * W + l.getD (k - 1) 0) % b) := by
  rw [List.drop_eq_getElem_cons (i := k - 1) (by omega), show k - 1 + 1 = k by omega]
  simp only [shr]
  rw [List.getD_eq_getElem?_getD, List.getElem?_eq_getElem (by omega)]
  rfl

theorem shrunk_step (cells : List Nat) (n b k : Nat) (hn : n ≤ cells.length) (hk : 0 < k) (hkn : k ≤ n) :
    (shrunk cells n b k).set (k - 1) (((shr W b ((cells.take n).drop k)).2 * W + cells.getD (k - 1) 0) / b) = shrunk cells n b (k - 1) := by
  have hl : (cells.take n).length = n := by simp; omega
  have hg : (cells.take n).getD (k - 1) 0 = cells.getD (k - 1) 0 := by rw [getD_take, if_pos (by omega)]
  unfold shrunk
  rw [shr_drop_pred (cells.take n) b k hk (by omega), hg]
  have h1 : cells.take k = cells.take (k - 1) ++ [cells[k - 1]'(by omega)] := by
    have := List.take_succ_eq_append_getElem (i := k - 1) (l := cells) (by omega)
    rwa [show k - 1 + 1 = k by omega] at this
  rw [h1, List.append_assoc, List.append_assoc, List.set_append_right _ _ (by rw [List.length_take]; omega)]
  have h2 : k - 1 - (cells.take (k - 1)).length = 0 := by rw [List.length_take]; omega
  rw [h2]
  simp

theorem shrunk_get (cells : List Nat) (n b k : Nat) (hn : n ≤ cells.length) (hk : 0 < k) (hkn : k ≤ n) : (shrunk cells n b k)[k - 1]? = some (cells.getD (k - 1) 0) := by
  unfold shrunk
  rw [List.append_assoc, List.getElem?_append_left (by simp; omega), List.getElem?_take, if_pos (by omega), List.getD_eq_getElem?_getD, List.getElem?_eq_getElem (by omega)]
  rfl

theorem shl_or (r d : Nat) (hr : r < 4294967296) (hd : d < 4294967296) :
    bits BinOp.or IntKind.u64 ((r : Int) * 4294967296) (d : Nat) = (r : Int) * 4294967296 + d := by
  have e : (r : Int) * 4294967296 = ((r * 4294967296 : Nat) : Int) := by omega
  rw [e, u64_or_nat _ _ (by omega) (by omega), Nat.or_comm]
  have := or_high 32 d r (by omega)
  rw [show (2 : Nat) ^ 32 = 4294967296 by decide] at this
  rw [this]; omega

set_option maxHeartbeats 400000 in
set_option maxRecDepth 100000 in
theorem shrink_any (g E n c b : Nat) (cells : List Nat) (hn : n ≤ cells.length) (hl : AllLt W cells) (hb0 : 0 < b) (hb : b < 4294967296) (hs : n ≤ 1099511627776) (w : World) (hR : Row w g E (u32s cells)) :
    Calls Try.prog 82 #[.slice (some ⟨g, 0, none⟩) n c, .int .u32 b] w fun e w' =>
      e = .returned (.int .u32 (digs W (cells.take n) % b : Nat)) ∧ Row w' g E (u32s (shrunk cells n b 0)) ∧ w.grownBy w' (some g) := by
  have HR := Lib.hid hR
  have HL := Lib.hid hl
  clear hR hl
  go_enter Try.func82, Try.ntmps82
  go_wp2_with fail
  go_loopw [5, 6] (fun r i wr => ∃ k : Nat, k ≤ n ∧ i = .int .i64 ((k : Int) - 1) ∧ r = .int .u64 ((shr W b ((cells.take n).drop k)).2 : Nat) ∧ Row wr g E (u32s (shrunk cells n b k)) ∧ w.grownBy wr (some g))
    (fun _ i _ => (intOf i + 1).toNat)
  case atStart =>
    refine ⟨n, Nat.le_refl _, rfl, ?_, by rw [shrunk_full _ _ _ hn]; exact HR.out, World.grownBy.refl _ _⟩
    rw [List.drop_eq_nil_of_le (by simp; omega)]; rfl
  case round =>
    obtain ⟨k, hk, rfl, rfl, hR, hG⟩ := hrel
    clear HR
    have HRem := Lib.hid (shr_digs W b hb0 ((cells.take n).drop 0)).2
    have hrl := (shr_spec W b hb0 ((cells.take n).drop k)).2
    by_cases hpos : 0 < k
    · have hd := HL.out.getD (by decide) (k - 1)
      unfold W at hd
      have hc : wr.cell? ⟨g, k - 1, none⟩ = some (.int .u32 (cells.getD (k - 1) 0 : Nat)) := hR.cell (u32s_get _ _ _ (shrunk_get _ _ _ _ hn hpos hk))
      have hf : wr.frozen? ⟨g, k - 1, none⟩ = false := hR.free _
      have HR := Lib.hid hR
      have HG := Lib.hid hG
      clear hR hG
      have HST := Lib.hid (shrunk_step cells n b k hn hpos hk)
      have HSP := Lib.hid (congrArg Prod.snd (shr_drop_pred (cells.take n) b k hpos (by simp; omega)))
      rw [show (cells.take n).getD (k - 1) 0 = cells.getD (k - 1) 0 by rw [getD_take, if_pos (by omega)]] at HSP
      generalize cells.getD (k - 1) 0 = d at *
      generalize (shr W b ((cells.take n).drop k)).2 = r at *
      have hO := shl_or r d (by omega) hd
      have hq : (r * 4294967296 + d) / b < 4294967296 := by
        rw [Nat.div_lt_iff_lt_mul hb0]
        have : (r + 1) * 4294967296 ≤ b * 4294967296 := Nat.mul_le_mul_right _ hrl
        omega
      have HQ : Hid (((r : Int) * 4294967296 + d) / b % 4294967296 = (((r * 4294967296 + d) / b : Nat) : Int)) := by
        have : ((r : Int) * 4294967296 + d) / b = (((r * 4294967296 + d) / b : Nat) : Int) := by simp
        rw [this]; generalize (r * 4294967296 + d) / b = z at *; unfold Hid; omega
      clear hq
      go_wp2_with fail
      go_roundw
      case rel =>
        refine ⟨k - 1, by omega, by go_num, ?_, ?_, ?_⟩
        · rw [HSP.out]; simp [W]
        · rw [HQ.out]
          have := HR.out.set (k - 1) (.int .u32 ((r * 4294967296 + d) / b : Nat))
          rw [u32s_set] at this
          have h2 := HST.out
          unfold W at h2
          rw [h2] at this
          exact this
        · exact ⟨HG.out.os, HG.out.tape, HG.out.output, by simpa using HG.out.size, fun i hi hne => by
            rw [Below.heap_setCell _ _ _ _ (fun e => hne (by rw [e]))]; exact HG.out.block i hi hne⟩
      case measure => simp [intOf]; omega
    · obtain rfl : k = 0 := by omega
      have HR := Lib.hid hR
      have HG := Lib.hid hG
      clear hR hG
      have hlt : (shr W b ((cells.take n).drop 0)).2 < 4294967296 := by omega
      generalize hgen : (shr W b ((cells.take n).drop 0)).2 = r at *
      have HE := Lib.hid hgen
      clear hgen
      go_wp2
      go_ret
      refine ⟨?_, HR.out, HG.out⟩
      rw [List.drop_zero] at HRem
      rw [← HRem.out]
      exact ret_int (by omega)
end Go.Proofs.Ytbacloneddnaeaa

/- grow. -/
namespace Go.Proofs.Ytbacloneddnaeaa
open Go.RowKit Num

def grownW (xs : List Nat) (b m : Nat) : List Nat :=
  let r := cl W m (xs.map (· * b)); if 0 < r.2 then r.1 ++ [r.2] else r.1

theorem grownW_digs (xs : List Nat) (b m : Nat) : digs W (grownW xs b m) = digs W xs * b + m := by
  have h := cl_digs W (xs.map (· * b)) m
  rw [digs_map_mul] at h
  unfold grownW
  simp only
  split
  · rw [digs_snoc, cl_length]; omega
  · rename_i h0
    obtain h0 : (cl W m (xs.map (· * b))).2 = 0 := by omega
    rw [h0] at h; omega

theorem mul_le {x b : Nat} (hx : x < W) (hb : b < W) : x * b ≤ W * (W - 1) :=
  Nat.mul_le_mul (Nat.le_of_lt hx) (by omega)

theorem grownW_carry (xs : List Nat) (b m : Nat) (hx : AllLt W xs) (hb : b < W) (hm : m < W) (k : Nat) : (cl W m ((xs.map (· * b)).take k)).2 < W := by
  refine cl_carry W (by decide) _ _ hm (fun t ht => ?_)
  obtain ⟨x, hx', rfl⟩ := List.mem_map.1 (List.mem_of_mem_take ht)
  exact mul_le (hx x hx') hb

theorem grownW_lt (xs : List Nat) (b m : Nat) (hx : AllLt W xs) (hb : b < W) (hm : m < W) : AllLt W (grownW xs b m) := by
  unfold grownW
  simp only
  split
  · refine (cl_lt W (by decide) _ _).append (AllLt.cons ?_ (AllLt.nil W))
    have := grownW_carry xs b m hx hb hm xs.length
    rwa [List.take_of_length_le (by simp)] at this
  · exact cl_lt W (by decide) _ _

def GivesWords (base E : Nat) (ys : List Nat) (w : World) (e : Ending) (w' : World) : Prop :=
  ∃ v, e = .returned v ∧ w'.ownsRow base E 1 v ys.length (u32s ys) ∧ Below base w w'

theorem owns_some {w : World} {base E n cap : Nat} {a : Option Addr} {xs : List Value} (h : w.ownsRow base E 1 (.slice a n cap) n xs) (hn : 0 < n) : ∃ g, a = some ⟨g, 0, none⟩ ∧ base ≤ g ∧ g < w.heap.size := by
  rcases h.2 with ⟨h1, h2⟩ | ⟨g, c, cur, h1, h2, h3, _⟩
  · omega
  · simp only [Value.slice.injEq] at h1
    exact ⟨g, h1.1, h2, (Array.getElem?_eq_some_iff.1 h3).1⟩

set_option maxHeartbeats 800000 in
set_option maxRecDepth 100000 in
theorem grow_any (base n cap b m : Nat) (a : Option Addr) (xs : List Nat) (hn : xs.length = n) (hl : AllLt W xs) (hb : b < 4294967296) (hm : m < 4294967296) (hs : n ≤ 1099511627776) (w : World)
    (hbase : base ≤ w.heap.size) (hown : w.ownsRow base 133 1 (.slice a n cap) n (u32s xs)) :
    Calls Try.prog 98 #[.slice a n cap, .int .u32 b, .int .u32 m] w (GivesWords base 133 (grownW xs b m) w) := by
  have HO := Lib.hid hown
  have HL := Lib.hid hl
  have HN := Lib.hid hn
  clear hown hl hn
  obtain ⟨i0, hi, hz0, hz1, hz2⟩ := info_parts Try.infoU32
  go_enter Try.func98, Try.ntmps98
  go_wp2_with fail
  go_loopw [7, 13] (fun r i wr => ∃ k : Nat, k ≤ n ∧ i = .int .i64 (k : Nat) ∧ r = .int .u64 ((cl W m ((xs.map (· * b)).take k)).2 : Nat) ∧
      wr.ownsRow base 133 1 (.slice a n cap) n (u32s ((cl W m ((xs.map (· * b)).take k)).1 ++ xs.drop k)) ∧ Below base w wr)
    (fun _ i _ => n - (intOf i).toNat)
  case atStart => exact ⟨0, Nat.zero_le _, rfl, rfl, by simpa [cl] using HO.out, Below.refl _ _⟩
  case round =>
    obtain ⟨k, hk, rfl, rfl, hown, hB⟩ := hrel
    clear HO
    have hcar := grownW_carry xs b m HL.out hb hm k
    unfold W at hcar
    have hsz := hB.size
    by_cases hlt : k < n
    · obtain ⟨g, rfl, hbg, _⟩ := owns_some hown (by omega)
      have HST := Lib.hid (cl_take_succ W m (xs.map (· * b)) k (by simp; rw [HN.out]; exact hlt))
      have hkx : k < xs.length := by rw [HN.out]; exact hlt
      have hlen : (cl W m ((xs.map (· * b)).take k)).1.length = k := by rw [cl_length]; simp; omega
      have hd := HL.out.getD (by decide) k
      have hgx : xs[k]? = some (xs.getD k 0) := by simp [List.getD_eq_getElem?_getD, hkx]
      have hgm : (xs.map (· * b)).getD k 0 = xs.getD k 0 * b := by simp [List.getD_eq_getElem?_getD, hkx]
      rw [hgm] at HST
      have hc : wr.cell? ⟨g, k, none⟩ = some (.int .u32 (xs.getD k 0 : Nat)) := by
        rw [hown.cellAt k (by omega)]
        exact u32s_get _ _ _ (by rw [get_done hlen (Nat.le_refl _)]; exact hgx)
      have hf : wr.frozen? ⟨g, k, none⟩ = false := hown.frozenAt k
      have HD := Lib.hid (fun v => set_done (v := v) hlen hkx)
      have HOW := Lib.hid hown
      have HB := Lib.hid hB
      clear hown hB hlen hgx hgm
      have hmul : xs.getD k 0 * b ≤ 4294967295 * 4294967295 := Nat.mul_le_mul (by unfold W at hd; omega) (by omega)
      unfold W at hd
      generalize xs.getD k 0 = d at *
      generalize hcc : cl W m ((xs.map (· * b)).take k) = cc at *
      have HCC := Lib.hid hcc
      clear hcc
      obtain ⟨p, hp⟩ : ∃ p : Nat, p = d * b := ⟨_, rfl⟩
      have hpI : (d : Int) * b = p := by rw [hp]; simp
      rw [← hp] at HST hmul
      have HP := Lib.hid hp
      clear hp
      go_wp2_with fail
      go_roundw
      case rel =>
        refine ⟨k + 1, by omega, by go_num, ?_, ?_, ?_⟩
        · rw [HST.out]; simp [W]
        · have := (HOW.out.stored k (.int .u32 ((cc.2 + p) % W : Nat))).1
          rw [u32s_set, HD.out] at this
          rw [HST.out]
          simpa [W] using this
        · exact HB.out.setCell (by simpa using hbg) _
      case measure => simp [intOf]; omega
    · obtain rfl : k = n := by omega
      have HG : Hid (grownW xs b m = if 0 < (cl W m ((xs.map (· * b)).take k)).2 then (cl W m ((xs.map (· * b)).take k)).1 ++ [(cl W m ((xs.map (· * b)).take k)).2] else (cl W m ((xs.map (· * b)).take k)).1) := by
        rw [List.take_of_length_le (by simp; rw [HN.out]; omega)]; rfl
      have hlen : (cl W m ((xs.map (· * b)).take k)).1.length = k := by rw [cl_length]; simp; rw [HN.out]; omega
      rw [List.drop_eq_nil_of_le (by rw [HN.out]; omega), List.append_nil] at hown
      generalize (cl W m ((xs.map (· * b)).take k)) = cc at *
      have HOW := Lib.hid hown
      have HB := Lib.hid hB
      have HLN := Lib.hid hlen
      clear hown hB hlen
      by_cases hc0 : 0 < cc.2
      · go_wp2_with (at_builtin; refine wpList_append_own _ rfl _ _ 134 rfl base 133 i0 (.int .u32 0) 1 4 Try.underlying134 hi hz0 hz1 hz2 rfl (by decide) _ _ _ rfl (HOW.out.alloc _) ⟨wr.heap.size, 0, none⟩ 1 1 [.int .u32 cc.2] rfl rfl ?c1 ?c2 ?c3 ?c4 ?c5 ?_)
        case c1 =>
          intro j u hj
          match j, hj with
          | 0, hj => simp at hj; subst hj; simp [Addr.add]
        case c2 => intro u hu; simp at hu; subst hu; rfl
        case c3 => unfold maxLen; omega
        case c4 => omega
        case c5 => simp; omega
        intro v' w1 hown' hgrow _
        have hB1 : Below base w w1 := (HB.out.alloc (by omega) _).grown hgrow (by simp; omega) (fun i hi => (HOW.out.lt i hi).1)
        have hfin : w1.ownsRow base 133 1 v' (grownW xs b m).length (u32s (grownW xs b m)) := by
          rw [HG.out, if_pos hc0]
          simpa [u32s, HLN.out] using hown'
        have HF := Lib.hid hfin
        have HB1 := Lib.hid hB1
        clear hown' hgrow hfin hB1
        go_wp2
        go_ret
        exact ⟨v', rfl, HF.out, HB1.out⟩
      · have hfin : wr.ownsRow base 133 1 (.slice a k cap) (grownW xs b m).length (u32s (grownW xs b m)) := by
          rw [HG.out, if_neg hc0, HLN.out]; exact HOW.out
        have HF := Lib.hid hfin
        clear hfin
        go_wp2
        go_ret
        exact ⟨_, rfl, HF.out, HB.out⟩
end Go.Proofs.Ytbacloneddnaeaa

/- strings.Builder: copyCheck, WriteByte at this dump (turned from the guide's worked walks). -/
namespace Go.Proofs.Ytbacloneddnaeaa
open Go.RowKit Num

theorem Try.sizeBuilder : (Try.prog.info? 139).map (·.size) = some 2 := by kernel_rfl
theorem Try.liesBuilder : liesAt Try.prog Try.prog.depth 139 (2 / Try.prog.cellsOf 139) 0 139 1 = true := by kernel_rfl

set_option maxHeartbeats 1000000 in
set_option maxRecDepth 100000 in
theorem copyCheck_used (b : Nat) (w : World) (h0 : w.cell? ⟨b, 0, none⟩ = some (.pointer (some ⟨b, 0, none⟩))) :
    Calls Try.prog 105 #[.pointer (some ⟨b, 0, none⟩)] w fun e w' => e = .returned (.tuple #[]) ∧ w' = w := by
  obtain ⟨j, hj, _⟩ := Option.map_eq_some_iff.1 Try.sizeBuilder
  go_enter Try.func105, Try.ntmps105
  go_wp2
  rw [Lib.run_neq_ptr_same w _ Try.underlying137 hj]
  go_wp2
  go_end0
  exact ⟨rfl, rfl⟩

set_option maxHeartbeats 1000000 in
set_option maxRecDepth 100000 in
theorem copyCheck_fresh (b : Nat) (w : World) (h0 : w.cell? ⟨b, 0, none⟩ = some (.pointer none)) (hsh : w.shape? b = some (139, 2)) (hfz : w.frozen? ⟨b, 0, none⟩ = false) :
    Calls Try.prog 105 #[.pointer (some ⟨b, 0, none⟩)] w fun e w' => e = .returned (.tuple #[]) ∧ w' = w.setCell ⟨b, 0, none⟩ (.pointer (some ⟨b, 0, none⟩)) := by
  obtain ⟨j, hj, hjs⟩ := Option.map_eq_some_iff.1 Try.sizeBuilder
  go_enter Try.func105, Try.ntmps105
  go_wp2
  rw [Lib.run_to_unsafe w ⟨b, 0, none⟩ Try.underlying137 Try.underlying171 hj (by rw [hjs]; decide) hsh (Nat.zero_lt_succ 1)]
  simp only [Result.andThen]
  rw [Oper.upon_value]
  go_wp2
  rw [run_callFunc_extern Try.func119 (by kernel_rfl) (by kernel_rfl) (by kernel_rfl) (e := Extern.AbiNoEscape.same) (by kernel_rfl)]
  rw [Lib.run_noEscape]
  simp only [Result.andThen]
  rw [Oper.upon_value]
  go_wp2
  rw [Lib.run_from_unsafe w ⟨b, 0, none⟩ Try.underlying171 Try.underlying137 hj hsh Try.liesBuilder]
  simp only [Result.andThen]
  rw [Oper.upon_value]
  go_wp2
  go_end0
  exact ⟨rfl, rfl⟩

theorem copyCheck_any (B b : Nat) (bs : List Value) (w : World) (h : Lib.IsBuilder 139 5 B b bs w) :
    Calls Try.prog 105 #[.pointer (some ⟨b, 0, none⟩)] w fun e w' => e = .returned (.tuple #[]) ∧ (Lib.BuilderAt 139 5 B b (.pointer (some ⟨b, 0, none⟩)) bs w' ∧ Below B w w') := by
  rcases h with h | h
  · refine (copyCheck_fresh b w h.cell0 h.shape h.frozen0).mono ?_
    rintro e w' ⟨rfl, rfl⟩
    exact ⟨rfl, h.used _, (Below.refl B w).setCell (p := ⟨b, 0, none⟩) h.1 _⟩
  · refine (copyCheck_used b w h.cell0).mono ?_
    rintro e w' ⟨rfl, rfl⟩
    exact ⟨rfl, h, Below.refl B _⟩

set_option maxHeartbeats 1000000 in
set_option maxRecDepth 100000 in
theorem writeByte_any (B b : Nat) (bs : List Value) (c : Int) (w : World) (h : Lib.IsBuilder 139 5 B b bs w) (hlen : bs.length + 1 ≤ 140737488355328) (hBw : B ≤ w.heap.size) :
    Calls Try.prog 83 #[.pointer (some ⟨b, 0, none⟩), .int .u8 c] w fun e w' => e = .returned .nilIface ∧ (Lib.BuilderAt 139 5 B b (.pointer (some ⟨b, 0, none⟩)) (bs ++ [.int .u8 c]) w' ∧ Below B w w') := by
  obtain ⟨i0, hi, hz0, hz1, hz2⟩ := info_parts Try.infoU8
  go_enter Try.func83, Try.ntmps83
  go_wp2_with (go_at_call 105; refine (copyCheck_any B b bs _ h).mono ?_)
  rintro e w1 ⟨rfl, h1, hb1⟩
  obtain ⟨hB, v, hbk, hown, hne⟩ := h1
  have c0 : w1.cell? ⟨b, 0, none⟩ = some (.pointer (some ⟨b, 0, none⟩)) := by rw [Lib.cell_of_heap hbk]; rfl
  have c1 : w1.cell? ⟨b, 1, none⟩ = some v := by rw [Lib.cell_of_heap hbk]; rfl
  go_wp2_with (at_builtin; refine wpList_append_own _ rfl _ _ 57 rfl B 5 i0 (.int .u8 0) 1 1 Try.underlying57 hi hz0 hz1 hz2 rfl (by decide) _ _ _ rfl (hown.alloc _) ⟨w1.heap.size, 0, none⟩ 1 1 [.int .u8 c] rfl rfl ?c1 ?c2 ?c3 ?c4 ?c5 ?_)
  case c1 =>
    intro j u hj
    match j, hj with
    | 0, hj => simp at hj; subst hj; simp [Addr.add]
  case c2 => intro u hu; simp at hu; subst hu; rfl
  case c3 => unfold maxLen; omega
  case c4 => omega
  case c5 => have := hb1.size; simp; omega
  intro v' w2 hown' hgrow _
  have hlt : b < w1.heap.size := by
    rcases Nat.lt_or_ge b w1.heap.size with h' | h'
    · exact h'
    · simp [Array.getElem?_eq_none h'] at hbk
  have hb2 : w2.heap[b]? = some (.cells #[.pointer (some ⟨b, 0, none⟩), v] 139 (0, 0)) := by
    rw [hgrow.block b (by simp; omega) (fun e => hne e.symm), Lib.alloc_old w1 _ b hlt]
    exact hbk
  have d0 : w2.cell? ⟨b, 0, none⟩ = some (.pointer (some ⟨b, 0, none⟩)) := by rw [Lib.cell_of_heap hb2]; rfl
  have d1 : w2.cell? ⟨b, 1, none⟩ = some v := by rw [Lib.cell_of_heap hb2]; rfl
  have f1 : w2.frozen? ⟨b, 1, none⟩ = false := Lib.frozen_of_heap hb2 1
  obtain ⟨g, cap, rfl⟩ : ∃ g cap, v' = .slice (some ⟨g, 0, none⟩) (bs.length + 1) cap := by
    rcases hown'.2 with ⟨_, h0⟩ | ⟨g, cap, cur, hv, _⟩
    · omega
    · exact ⟨g, cap, hv⟩
  go_wp2
  go_ret
  refine ⟨rfl, ?_, ?_⟩
  · exact Lib.BuilderAt.put (T := 139) (e := 5) hB hb2 (bs' := bs ++ [.int .u8 c]) (by simpa using hown') (by decide)
  · exact ((hb1.alloc (by have := hb1.size; omega) _).grown hgrow (by have := hb1.size; simp; omega) (fun k hk => (hown.lt k hk).1)).setCell (p := ⟨b, 1, none⟩) hB _
end Go.Proofs.Ytbacloneddnaeaa
