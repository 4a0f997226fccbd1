/- grow. -/
import Derived.Test.YtlomlcljjidfjaaWShrink
namespace Go.Proofs.Ytlomlcljjidfjaa
open Go.RowKit Num

/-- The words that grow leaves. -/
def grownW (xs : List Nat) (b m : Nat) : List Nat :=
  let r := cl W m (xs.map (· * b)); if 0 < r.2 then r.1 ++ [r.2] else r.1

theorem grownW_digs (xs : List Nat) (b m : Nat) : digs W (grownW xs b m) = digs W xs * b + m := by
  have h := cl_digs W (xs.map (· * b)) m
  rw [digs_map_mul] at h
  unfold grownW
  simp only
  split
  · rw [digs_snoc, cl_length]; omega
  · rename_i h0
    obtain h0 : (cl W m (xs.map (· * b))).2 = 0 := by omega
    rw [h0] at h; omega

theorem mul_le {x b : Nat} (hx : x < W) (hb : b < W) : x * b ≤ W * (W - 1) :=
  Nat.mul_le_mul (Nat.le_of_lt hx) (by omega)

theorem grownW_carry (xs : List Nat) (b m : Nat) (hx : AllLt W xs) (hb : b < W) (hm : m < W) (k : Nat) : (cl W m ((xs.map (· * b)).take k)).2 < W := by
  refine cl_carry W (by decide) _ _ hm (fun t ht => ?_)
  obtain ⟨x, hx', rfl⟩ := List.mem_map.1 (List.mem_of_mem_take ht)
  exact mul_le (hx x hx') hb

theorem grownW_lt (xs : List Nat) (b m : Nat) (hx : AllLt W xs) (hb : b < W) (hm : m < W) : AllLt W (grownW xs b m) := by
  unfold grownW
  simp only
  split
  · refine (cl_lt W (by decide) _ _).append (AllLt.cons ?_ (AllLt.nil W))
    have := grownW_carry xs b m hx hb hm xs.length
    rwa [List.take_of_length_le (by simp)] at this
  · exact cl_lt W (by decide) _ _

/-- A call that hands back a slice of words of its own. -/
def GivesWords (base E : Nat) (ys : List Nat) (w : World) (e : Ending) (w' : World) : Prop :=
  ∃ v, e = .returned v ∧ w'.ownsRow base E 1 v ys.length (u32s ys) ∧ Below base w w'

theorem owns_some {w : World} {base E n cap : Nat} {a : Option Addr} {xs : List Value} (h : w.ownsRow base E 1 (.slice a n cap) n xs) (hn : 0 < n) : ∃ g, a = some ⟨g, 0, none⟩ ∧ base ≤ g ∧ g < w.heap.size := by
  rcases h.2 with ⟨h1, h2⟩ | ⟨g, c, cur, h1, h2, h3, _⟩
  · omega
  · simp only [Value.slice.injEq] at h1
    exact ⟨g, h1.1, h2, (Array.getElem?_eq_some_iff.1 h3).1⟩

set_option maxHeartbeats 800000 in
theorem grow_any (base n cap b m : Nat) (a : Option Addr) (xs : List Nat) (hn : xs.length = n) (hl : AllLt W xs) (hb : b < 4294967296) (hm : m < 4294967296) (hs : n ≤ 1099511627776) (w : World)
    (hbase : base ≤ w.heap.size) (hown : w.ownsRow base 83 1 (.slice a n cap) n (u32s xs)) :
    Calls Try.prog 72 #[.slice a n cap, .int .u32 b, .int .u32 m] w (GivesWords base 83 (grownW xs b m) w) := by
  have HO := Lib.hid hown
  have HL := Lib.hid hl
  have HN := Lib.hid hn
  clear hown hl hn
  obtain ⟨i0, hi, hz0, hz1, hz2⟩ := info_parts Try.infoU32
  go_enter Try.func72, Try.ntmps72
  go_wp2_with fail
  go_loopw [7, 13] (fun r i wr => ∃ k : Nat, k ≤ n ∧ i = .int .i64 (k : Nat) ∧ r = .int .u64 ((cl W m ((xs.map (· * b)).take k)).2 : Nat) ∧
      wr.ownsRow base 83 1 (.slice a n cap) n (u32s ((cl W m ((xs.map (· * b)).take k)).1 ++ xs.drop k)) ∧ Below base w wr)
    (fun _ i _ => n - (intOf i).toNat)
  case atStart => exact ⟨0, Nat.zero_le _, rfl, rfl, by simpa [cl] using HO.out, Below.refl _ _⟩
  case round =>
    obtain ⟨k, hk, rfl, rfl, hown, hB⟩ := hrel
    clear HO
    have hcar := grownW_carry xs b m HL.out hb hm k
    unfold W at hcar
    have hsz := hB.size
    by_cases hlt : k < n
    · obtain ⟨g, rfl, hbg, _⟩ := owns_some hown (by omega)
      have HST := Lib.hid (cl_take_succ W m (xs.map (· * b)) k (by simp; rw [HN.out]; exact hlt))
      have hkx : k < xs.length := by rw [HN.out]; exact hlt
      have hlen : (cl W m ((xs.map (· * b)).take k)).1.length = k := by rw [cl_length]; simp; omega
      have hd := HL.out.getD (by decide) k
      have hgx : xs[k]? = some (xs.getD k 0) := by simp [List.getD_eq_getElem?_getD, hkx]
      have hgm : (xs.map (· * b)).getD k 0 = xs.getD k 0 * b := by simp [List.getD_eq_getElem?_getD, hkx]
      rw [hgm] at HST
      have hc : wr.cell? ⟨g, k, none⟩ = some (.int .u32 (xs.getD k 0 : Nat)) := by
        rw [hown.cellAt k (by omega)]
        exact u32s_get _ _ _ (by rw [get_done hlen (Nat.le_refl _)]; exact hgx)
      have hf : wr.frozen? ⟨g, k, none⟩ = false := hown.frozenAt k
      have HD := Lib.hid (fun v => set_done (v := v) hlen hkx)
      have HOW := Lib.hid hown
      have HB := Lib.hid hB
      clear hown hB hlen hgx hgm
      have hmul : xs.getD k 0 * b ≤ 4294967295 * 4294967295 := Nat.mul_le_mul (by unfold W at hd; omega) (by omega)
      unfold W at hd
      generalize xs.getD k 0 = d at *
      generalize hcc : cl W m ((xs.map (· * b)).take k) = cc at *
      have HCC := Lib.hid hcc
      clear hcc
      obtain ⟨p, hp⟩ : ∃ p : Nat, p = d * b := ⟨_, rfl⟩
      have hpI : (d : Int) * b = p := by rw [hp]; simp
      rw [← hp] at HST hmul
      have HP := Lib.hid hp
      clear hp
      go_wp2_with fail
      go_roundw
      case rel =>
        refine ⟨k + 1, by omega, by go_num, ?_, ?_, ?_⟩
        · rw [HST.out]; simp [W]
        · have := (HOW.out.stored k (.int .u32 ((cc.2 + p) % W : Nat))).1
          rw [u32s_set, HD.out] at this
          rw [HST.out]
          simpa [W] using this
        · exact HB.out.setCell (by simpa using hbg) _
      case measure => simp [intOf]; omega
    · obtain rfl : k = n := by omega
      have HG : Hid (grownW xs b m = if 0 < (cl W m ((xs.map (· * b)).take k)).2 then (cl W m ((xs.map (· * b)).take k)).1 ++ [(cl W m ((xs.map (· * b)).take k)).2] else (cl W m ((xs.map (· * b)).take k)).1) := by
        rw [List.take_of_length_le (by simp; rw [HN.out]; omega)]; rfl
      have hlen : (cl W m ((xs.map (· * b)).take k)).1.length = k := by rw [cl_length]; simp; rw [HN.out]; omega
      rw [List.drop_eq_nil_of_le (by rw [HN.out]; omega), List.append_nil] at hown
      generalize (cl W m ((xs.map (· * b)).take k)) = cc at *
      have HOW := Lib.hid hown
      have HB := Lib.hid hB
      have HLN := Lib.hid hlen
      clear hown hB hlen
      by_cases hc0 : 0 < cc.2
      · go_wp2_with (at_builtin; refine wpList_append_own _ rfl _ _ 80 rfl base 83 i0 (.int .u32 0) 1 4 Try.underlying80 hi hz0 hz1 hz2 rfl (by decide) _ _ _ rfl (HOW.out.alloc _) ⟨wr.heap.size, 0, none⟩ 1 1 [.int .u32 cc.2] rfl rfl ?c1 ?c2 ?c3 ?c4 ?c5 ?_)
        case c1 =>
          intro j u hj
          match j, hj with
          | 0, hj => simp at hj; subst hj; simp [Addr.add]
        case c2 => intro u hu; simp at hu; subst hu; rfl
        case c3 => unfold maxLen; omega
        case c4 => omega
        case c5 => simp; omega
        intro v' w1 hown' hgrow _
        have hB1 : Below base w w1 := (HB.out.alloc (by omega) _).grown hgrow (by simp; omega) (fun i hi => (HOW.out.lt i hi).1)
        have hfin : w1.ownsRow base 83 1 v' (grownW xs b m).length (u32s (grownW xs b m)) := by
          rw [HG.out, if_pos hc0]
          simpa [u32s, HLN.out] using hown'
        have HF := Lib.hid hfin
        have HB1 := Lib.hid hB1
        clear hown' hgrow hfin hB1
        go_wp2
        go_ret
        exact ⟨v', rfl, HF.out, HB1.out⟩
      · have hfin : wr.ownsRow base 83 1 (.slice a k cap) (grownW xs b m).length (u32s (grownW xs b m)) := by
          rw [HG.out, if_neg hc0, HLN.out]; exact HOW.out
        have HF := Lib.hid hfin
        clear hfin
        go_wp2
        go_ret
        exact ⟨_, rfl, HF.out, HB.out⟩
end Go.Proofs.Ytlomlcljjidfjaa
