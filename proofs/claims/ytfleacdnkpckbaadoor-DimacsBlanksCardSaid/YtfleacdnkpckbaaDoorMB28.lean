/- Texts of this claim, joined: D30, D32. -/
import Derived.Test.YtfleacdnkpckbaaDoorMB26
import Derived.Test.YtfleacdnkpckbaaDoorMB27
import Derived.Test.YtfleacdnkpckbaaDoorMB18
import Derived.Deep.DeepCutAuto

/- Files in memory, of the program's Parse and of the reference's. -/
namespace Go.Proofs.YtfleacdnkpckbaaDoor
open Go.RowKit

theorem DX.file {TW : TypeId} {w : World} {G : Nat → Prop} {st : DS} {v : DV} (h : DX TW w G st v) : ∃ aL cL aS cS aW cW, v.L = .slice aL st.L.length cL ∧ v.S = .slice aS st.sh.length cS ∧ v.W = .slice aW st.ws.length cW ∧ FileAt w.heap.size w aL aS aW st.L st.sh st.ws := by
  obtain ⟨cl, hL, hC⟩ := h.rL
  obtain ⟨aL, cL, e1, h1⟩ := rows_cls hL (fun i u xs a b => (hC i u xs a b).1)
  obtain ⟨aS, cS, e2, _, h2⟩ := rowV_at2 h.rS
  obtain ⟨aW, cW, e3, _, h3⟩ := rowV_at2 h.rW
  exact ⟨aL, cL, aS, cS, aW, cW, e1, e2, e3, h1, h2, h3⟩

end Go.Proofs.YtfleacdnkpckbaaDoor

/- The law: blanks, empty lines and comments change the numbers of lines alone. -/
namespace Go.Proofs.YtfleacdnkpckbaaDoor
open Go.RowKit

def MoreIs (l M : List UInt8) (i sf : Nat) : Prop := M.length ≤ 20000 ∧ parseD rdD M = ((parseD rdD l).1, (if (parseD rdD l).2.1 > (pieces 10 (l.take i)).length - 1 then (parseD rdD l).2.1 + sf else (parseD rdD l).2.1), (parseD rdD l).2.2)
theorem more_same {l : List UInt8} (i : Nat) (hl : l.length ≤ 10000) : MoreIs l l i 0 := ⟨by omega, by rw [Nat.add_zero, ite_self]⟩
theorem more_blank {l : List UInt8} {i : Nat} (hl : l.length ≤ 10000) (h : l.length ≤ i ∨ l[i]? = some 32 ∨ l[i]? = some 10) : MoreIs l ((l.take i ++ [32]) ++ l.drop i) i 0 := by
  have e : (l.take i ++ [32]) ++ l.drop i = l.take i ++ 32 :: l.drop i := by simp
  rw [e]
  refine ⟨by rw [List.length_append, List.length_cons]; simp; omega, ?_⟩
  rw [parseD_blank, List.take_append_drop, Nat.add_zero, ite_self]
  · rw [List.take_append_drop]; omega
  · rcases h with h | h | h
    · exact .inl (List.drop_eq_nil_of_le h)
    · right; left; rw [List.head?_drop]; exact h
    · right; right; rw [List.head?_drop]; exact h
theorem more_last {l : List UInt8} (i : Nat) (hl : l.length ≤ 10000) (h : l.getLast? = some 10) : MoreIs l (l.take (l.length - 1)) i 0 := by
  obtain ⟨a, rfl⟩ := List.getLast?_eq_some_iff.1 h
  have e : (a ++ [10]).take ((a ++ [10]).length - 1) = a := by simp
  rw [e]
  refine ⟨by simp at hl; omega, ?_⟩
  rw [Nat.add_zero, ite_self, parseD_last a (by simp at hl; omega)]
theorem more_line {l x : List UInt8} {i : Nat} (hl : l.length ≤ 10000) (hi : i ≤ l.length) (h : i = 0 ∨ (0 < i ∧ l[i - 1]? = some 10)) (hx : ∀ st, lineD rdD st (wordsD x) = (st, 0)) (hn : (10 : UInt8) ∉ x) (hxl : x.length ≤ 1000) : MoreIs l ((l.take i ++ (x ++ [10])) ++ l.drop i) i 1 := by
  have e : (l.take i ++ (x ++ [10])) ++ l.drop i = l.take i ++ (x ++ 10 :: l.drop i) := by simp
  rw [e]
  refine ⟨by simp; omega, ?_⟩
  rw [parseD_insert _ _ x _ hx hn (by rw [List.take_append_drop]; omega) hxl, List.take_append_drop]
  rcases h with rfl | h
  · exact .inl rfl
  · right
    rw [List.getLast?_take, if_neg (by omega), h.2]; rfl

theorem parseD_at (l : List UInt8) : (parseD rdD l).2.1 ≤ l.length + 1 := by
  have h1 := (pieces_len 10 l).2
  have h2 := linesGo_at (rd := rdD) (pieces 10 l) .zero 0
  unfold parseD
  split
  · simp
  · split
    · show (linesGo rdD .zero 0 (pieces 10 l)).2.1 ≤ _
      omega
    · split
      · simp
      · split <;> simp

set_option maxHeartbeats 6400000 in
set_option maxRecDepth 100000 in
theorem blanks_law (l : List UInt8) (hl : l.length ≤ 9223372036854775807) (k : Nat) (hk : k < 65536) (u : Nat) (hu : u < 256) (w : World) (hM0 : ∃ m, w.cell? ⟨0, 0, none⟩ = some (.int .i64 m)) : Calls Tryd.prog 5 #[.string ⟨l.toArray⟩, .int .u16 (k : Int), .int .u8 (u : Int)] w fun e w' => e = .returned (.bool true) ∧ Below w.heap.size w w' := by
  obtain ⟨Post, hPost⟩ : ∃ P : Ending → World → Prop, P = fun e w' => e = .returned (.bool true) ∧ Below w.heap.size w w' := ⟨_, rfl⟩
  rw [← hPost]
  have HP := Lib.hid hPost
  have HM := Lib.hid (show ∀ x, Below w.heap.size w x → ∃ m, x.cell? ⟨0, 0, none⟩ = some (.int .i64 m) from fun x hx => by obtain ⟨m, hm⟩ := hM0; exact ⟨m, below_cell hx (block_lt_of_cell hm) hm⟩)
  have KW := Lib.hid (fun (x : World) (hx : Below w.heap.size w x) => gWorks x (HM.out x hx))
  by_cases hbig : 10000 < l.length
  · have KW1 := KW.out w (Below.refl _ _)
    obtain ⟨s, hs⟩ : ∃ s : ByteArray, s = ⟨l.toArray⟩ := ⟨_, rfl⟩
    have hsz : s.size = l.length := by rw [hs]; exact ba_size l
    rw [← hs]
    have hd : decide (10000 < s.size) = true := decide_eq_true (by omega)
    have hd2 : decide ((10000 : Int) < (s.size : Int)) = true := decide_eq_true (by omega)
    clear hPost hM0 hs hsz hbig
    go_enter Tryd.func5, Tryd.ntmps5
    go_wp2_with fail
    refine KW1.mono ?_
    rintro e w2 ⟨rfl, hB⟩
    have HB := Lib.hid hB
    clear hB KW1
    go_wp2_with fail
    rw [HP.out]
    exact ⟨rfl, HB.out⟩
  obtain ⟨s, hs⟩ : ∃ s : ByteArray, s = ⟨l.toArray⟩ := ⟨_, rfl⟩
  obtain ⟨hsz, hG, -, -⟩ := ba_facts hs
  rw [← hs]
  have hd : decide (10000 < s.size) = false := decide_eq_false (by omega)
  have hd2 : decide ((10000 : Int) < (s.size : Int)) = false := decide_eq_false (by omega)
  have HLL := Lib.hid (show l.length ≤ 10000 by omega)
  have hsb : s.size ≤ 10000 := by omega
  have hw2 : ¬ ((s.size : Int) + 1 = 0) := by omega
  have HSZ := Lib.hid hsz
  have HS := Lib.hid hs
  have HEX := Lib.hid (ext_list hs)
  clear hPost hM0 hs hsz hbig
  go_enter Tryd.func5, Tryd.ntmps5
  go_upto_region 6 with fail
  iterate 10 (first | (go_says fail) | go_values | go_skip | go_guarded | go_step | go_upon | go_back | (go_values <;> (try go_simp)))
  obtain ⟨i0, hi0⟩ : ∃ i0 : Nat, ((k : Int) % ((s.size : Int) + 1)) = i0 := ⟨k % (s.size + 1), by simp⟩
  have hi1 : i0 ≤ s.size := by
    have h1 : (k : Int) % ((s.size : Int) + 1) < (s.size : Int) + 1 := Int.emod_lt_of_pos _ (by omega)
    omega
  rw [hi0]
  have HI0 := Lib.hid hi1
  have HG := Lib.hid (show ∀ i (h : i < s.size), l[i]? = some s[i] from hG)
  clear hi0 hG
  go_cut [7, 8, 9] (fun t7 t8 t9 wx => ∃ (i sf : Nat) (z : ByteArray) (M : List UInt8), t7 = .int .i64 i ∧ t8 = .int .i64 sf ∧ t9 = .string z ∧ Hid (i ≤ s.size) ∧ Hid (sf ≤ 1) ∧ Hid (z = ⟨M.toArray⟩) ∧ Hid (MoreIs l M i sf) ∧ Hid (Below w.heap.size w wx))
  case first =>
    have hu4 : u % 4 = 0 ∨ u % 4 = 1 ∨ u % 4 = 2 ∨ u % 4 = 3 := by omega
    rcases hu4 with hu4 | hu4
    · have hk0 : (((u : Int) % 4) == 0) = true := by rw [beq_iff_eq]; omega
      clear hu4
      by_cases hlt : i0 < s.size
      · have hd3 : decide (i0 < s.size) = true := decide_eq_true hlt
        have hd4 : decide ((i0 : Int) < (s.size : Int)) = true := decide_eq_true (by omega)
        have hget := HG.out i0 hlt
        by_cases h32 : s[i0] = 32
        · have h3 : ((s[i0].toNat : Int) != 32) = false := by simp [h32]
          have HMR := Lib.hid (show MoreIs l ((l.take i0 ++ [32]) ++ l.drop i0) i0 0 from more_blank HLL.out (.inr (.inl (by rw [hget, h32]))))
          have hic : i0 ≤ s.size := by omega
          obtain ⟨z1, hz1⟩ : ∃ z1 : ByteArray, z1 = s.extract 0 i0 ++ (⟨#[32]⟩ : ByteArray) := ⟨_, rfl⟩
          obtain ⟨z2, hz2⟩ : ∃ z2 : ByteArray, z2 = z1 ++ s.extract i0 s.size := ⟨_, rfl⟩
          have hz3 : z1.size ≤ 10010 := by rw [hz1, ByteArray.size_append, ByteArray.size_extract]; show _ + 1 ≤ _; omega
          have ha1 : ∀ x, (Op.stringOp .add (s.extract 0 i0) (⟨#[32]⟩ : ByteArray)).run Tryd.prog x = .ok (.string z1) x := fun x => by rw [hz1]; exact run_string_add_sum x _ _ (by rw [ByteArray.size_extract]; show _ + 1 ≤ _; omega)
          have ha2 : ∀ x, (Op.stringOp .add z1 (s.extract i0 s.size)).run Tryd.prog x = .ok (.string z2) x := fun x => by rw [hz2]; exact run_string_add_sum x _ _ (by rw [ByteArray.size_extract]; omega)
          have HZ2 := Lib.hid (show z2 = ⟨((l.take i0 ++ [32]) ++ l.drop i0).toArray⟩ by
            rw [hz2, hz1, HEX.out 0 i0 (Nat.zero_le _) (by omega), HEX.out i0 s.size (by omega) (Nat.le_refl _), HSZ.out, List.take_length]
            apply ByteArray.ext
            simp)
          clear hz1 hz2 hz3
          clear h32 hget
          go_wp2_with fail
          refine wp_gameM [0, 0, 0, 0, 0, 0, 0, 0, 0] [] (keptB [] w) (fin_keptB _) (has_keptB _) (by kernel_rfl) (by kernel_rfl) ?_
          refine lexM_split 9 (by decide) (by rfl) ?_
          simp only [List.take_succ_cons, List.take_zero, List.drop_succ_cons, List.drop_zero]
          refine lex_quietE 9 (by kernel_rfl) (by rfl) ?_
          apply Exists.intro
          refine ⟨fun z hz1 => ?_, ?_⟩
          · clear hz1
            simp only [List.take_succ_cons, List.take_zero]
            unfold Cx
            repeat (go_big_quiet_step (fail))
            exact wpQuiet_nil rfl
          simp only [List.drop_succ_cons, List.drop_zero]
          refine lex_nil ?_
          intro x2 hx2 _
          have HX2 := Lib.hid hx2.below
          clear hx2
          go_wp2_with fail
          go_meet
          case rel => exact ⟨i0, 0, z2, _, rfl, rfl, rfl, by simp only [Hid]; omega, Nat.zero_le _, HZ2.out, HMR.out, HX2.out⟩
        have h3 : ((s[i0].toNat : Int) != 32) = true := congrArg (fun b => !b) (byte_no (n := 32) h32 (by omega))
        by_cases h10 : s[i0] = 10
        · have h4 : ((s[i0].toNat : Int) != 10) = false := by simp [h10]
          have HMR := Lib.hid (show MoreIs l ((l.take i0 ++ [32]) ++ l.drop i0) i0 0 from more_blank HLL.out (.inr (.inr (by rw [hget, h10]))))
          have hic : i0 ≤ s.size := by omega
          obtain ⟨z1, hz1⟩ : ∃ z1 : ByteArray, z1 = s.extract 0 i0 ++ (⟨#[32]⟩ : ByteArray) := ⟨_, rfl⟩
          obtain ⟨z2, hz2⟩ : ∃ z2 : ByteArray, z2 = z1 ++ s.extract i0 s.size := ⟨_, rfl⟩
          have hz3 : z1.size ≤ 10010 := by rw [hz1, ByteArray.size_append, ByteArray.size_extract]; show _ + 1 ≤ _; omega
          have ha1 : ∀ x, (Op.stringOp .add (s.extract 0 i0) (⟨#[32]⟩ : ByteArray)).run Tryd.prog x = .ok (.string z1) x := fun x => by rw [hz1]; exact run_string_add_sum x _ _ (by rw [ByteArray.size_extract]; show _ + 1 ≤ _; omega)
          have ha2 : ∀ x, (Op.stringOp .add z1 (s.extract i0 s.size)).run Tryd.prog x = .ok (.string z2) x := fun x => by rw [hz2]; exact run_string_add_sum x _ _ (by rw [ByteArray.size_extract]; omega)
          have HZ2 := Lib.hid (show z2 = ⟨((l.take i0 ++ [32]) ++ l.drop i0).toArray⟩ by
            rw [hz2, hz1, HEX.out 0 i0 (Nat.zero_le _) (by omega), HEX.out i0 s.size (by omega) (Nat.le_refl _), HSZ.out, List.take_length]
            apply ByteArray.ext
            simp)
          clear hz1 hz2 hz3
          clear h32 h10 hget
          go_wp2_with fail
          refine wp_gameM [0, 0, 0, 0, 0, 0, 0, 0, 0] [] (keptB [] w) (fin_keptB _) (has_keptB _) (by kernel_rfl) (by kernel_rfl) ?_
          refine lexM_split 9 (by decide) (by rfl) ?_
          simp only [List.take_succ_cons, List.take_zero, List.drop_succ_cons, List.drop_zero]
          refine lex_quietE 9 (by kernel_rfl) (by rfl) ?_
          apply Exists.intro
          refine ⟨fun z hz1 => ?_, ?_⟩
          · clear hz1
            simp only [List.take_succ_cons, List.take_zero]
            unfold Cx
            repeat (go_big_quiet_step (fail))
            exact wpQuiet_nil rfl
          simp only [List.drop_succ_cons, List.drop_zero]
          refine lex_nil ?_
          intro x2 hx2 _
          have HX2 := Lib.hid hx2.below
          clear hx2
          go_wp2_with fail
          go_meet
          case rel => exact ⟨i0, 0, z2, _, rfl, rfl, rfl, by simp only [Hid]; omega, Nat.zero_le _, HZ2.out, HMR.out, HX2.out⟩
        · have h4 : ((s[i0].toNat : Int) != 10) = true := congrArg (fun b => !b) (byte_no (n := 10) h10 (by omega))
          have HMR := Lib.hid (show MoreIs l ((l.take s.size ++ [32]) ++ l.drop s.size) s.size 0 from more_blank HLL.out (.inl (by have := HSZ.out; omega)))
          have hic : s.size ≤ s.size := by omega
          obtain ⟨z1, hz1⟩ : ∃ z1 : ByteArray, z1 = s.extract 0 s.size ++ (⟨#[32]⟩ : ByteArray) := ⟨_, rfl⟩
          obtain ⟨z2, hz2⟩ : ∃ z2 : ByteArray, z2 = z1 ++ s.extract s.size s.size := ⟨_, rfl⟩
          have hz3 : z1.size ≤ 10010 := by rw [hz1, ByteArray.size_append, ByteArray.size_extract]; show _ + 1 ≤ _; omega
          have ha1 : ∀ x, (Op.stringOp .add (s.extract 0 s.size) (⟨#[32]⟩ : ByteArray)).run Tryd.prog x = .ok (.string z1) x := fun x => by rw [hz1]; exact run_string_add_sum x _ _ (by rw [ByteArray.size_extract]; show _ + 1 ≤ _; omega)
          have ha2 : ∀ x, (Op.stringOp .add z1 (s.extract s.size s.size)).run Tryd.prog x = .ok (.string z2) x := fun x => by rw [hz2]; exact run_string_add_sum x _ _ (by rw [ByteArray.size_extract]; omega)
          have HZ2 := Lib.hid (show z2 = ⟨((l.take s.size ++ [32]) ++ l.drop s.size).toArray⟩ by
            rw [hz2, hz1, HEX.out 0 s.size (Nat.zero_le _) (by omega), HEX.out s.size s.size (by omega) (Nat.le_refl _), HSZ.out, List.take_length]
            apply ByteArray.ext
            simp)
          clear hz1 hz2 hz3
          clear h32 h10 hget
          go_wp2_with fail
          refine wp_gameM [0, 0, 0, 0, 0, 0, 0, 0, 0] [] (keptB [] w) (fin_keptB _) (has_keptB _) (by kernel_rfl) (by kernel_rfl) ?_
          refine lexM_split 9 (by decide) (by rfl) ?_
          simp only [List.take_succ_cons, List.take_zero, List.drop_succ_cons, List.drop_zero]
          refine lex_quietE 9 (by kernel_rfl) (by rfl) ?_
          apply Exists.intro
          refine ⟨fun z hz1 => ?_, ?_⟩
          · clear hz1
            simp only [List.take_succ_cons, List.take_zero]
            unfold Cx
            repeat (go_big_quiet_step (fail))
            exact wpQuiet_nil rfl
          simp only [List.drop_succ_cons, List.drop_zero]
          refine lex_nil ?_
          intro x2 hx2 _
          have HX2 := Lib.hid hx2.below
          clear hx2
          have HZ2 := Lib.hid (show s ++ (⟨#[32]⟩ : ByteArray) = ⟨((l.take s.size ++ [32]) ++ l.drop s.size).toArray⟩ by
            rw [HSZ.out, List.take_length, List.drop_length, HS.out]
            apply ByteArray.ext
            simp)
          go_wp2_with fail
          go_meet
          case rel => exact ⟨s.size, 0, s ++ (⟨#[32]⟩ : ByteArray), _, rfl, rfl, rfl, by simp only [Hid]; omega, Nat.zero_le _, HZ2.out, HMR.out, HX2.out⟩
      · have hd3 : decide (i0 < s.size) = false := decide_eq_false hlt
        have hd4 : decide ((i0 : Int) < (s.size : Int)) = false := decide_eq_false (by omega)
        have HMR := Lib.hid (show MoreIs l ((l.take i0 ++ [32]) ++ l.drop i0) i0 0 from more_blank HLL.out (.inl (by have := HSZ.out; omega)))
        have hic : i0 ≤ s.size := by omega
        obtain ⟨z1, hz1⟩ : ∃ z1 : ByteArray, z1 = s.extract 0 i0 ++ (⟨#[32]⟩ : ByteArray) := ⟨_, rfl⟩
        obtain ⟨z2, hz2⟩ : ∃ z2 : ByteArray, z2 = z1 ++ s.extract i0 s.size := ⟨_, rfl⟩
        have hz3 : z1.size ≤ 10010 := by rw [hz1, ByteArray.size_append, ByteArray.size_extract]; show _ + 1 ≤ _; omega
        have ha1 : ∀ x, (Op.stringOp .add (s.extract 0 i0) (⟨#[32]⟩ : ByteArray)).run Tryd.prog x = .ok (.string z1) x := fun x => by rw [hz1]; exact run_string_add_sum x _ _ (by rw [ByteArray.size_extract]; show _ + 1 ≤ _; omega)
        have ha2 : ∀ x, (Op.stringOp .add z1 (s.extract i0 s.size)).run Tryd.prog x = .ok (.string z2) x := fun x => by rw [hz2]; exact run_string_add_sum x _ _ (by rw [ByteArray.size_extract]; omega)
        have HZ2 := Lib.hid (show z2 = ⟨((l.take i0 ++ [32]) ++ l.drop i0).toArray⟩ by
          rw [hz2, hz1, HEX.out 0 i0 (Nat.zero_le _) (by omega), HEX.out i0 s.size (by omega) (Nat.le_refl _), HSZ.out, List.take_length]
          apply ByteArray.ext
          simp)
        clear hz1 hz2 hz3
        go_wp2_with fail
        refine wp_gameM [0, 0, 0, 0, 0, 0, 0, 0, 0] [] (keptB [] w) (fin_keptB _) (has_keptB _) (by kernel_rfl) (by kernel_rfl) ?_
        refine lexM_split 9 (by decide) (by rfl) ?_
        simp only [List.take_succ_cons, List.take_zero, List.drop_succ_cons, List.drop_zero]
        refine lex_quietE 9 (by kernel_rfl) (by rfl) ?_
        apply Exists.intro
        refine ⟨fun z hz1 => ?_, ?_⟩
        · clear hz1
          simp only [List.take_succ_cons, List.take_zero]
          unfold Cx
          repeat (go_big_quiet_step (fail))
          exact wpQuiet_nil rfl
        simp only [List.drop_succ_cons, List.drop_zero]
        refine lex_nil ?_
        intro x2 hx2 _
        have HX2 := Lib.hid hx2.below
        clear hx2
        go_wp2_with fail
        go_meet
        case rel => exact ⟨i0, 0, z2, _, rfl, rfl, rfl, by simp only [Hid]; omega, Nat.zero_le _, HZ2.out, HMR.out, HX2.out⟩
    clear hu
    rcases hu4 with hu4 | hu4
    · have hk0 : (((u : Int) % 4) == 0) = false := beq_no (by omega)
      have hk1 : (((u : Int) % 4) == 1) = true := by rw [beq_iff_eq]; omega
      clear hu4
      have HMR0 := Lib.hid (more_same (l := l) i0 HLL.out)
      by_cases h0 : s.size = 0
      · have hd3 : decide (0 < s.size) = false := decide_eq_false (by omega)
        have hd4 : decide ((0 : Int) < (s.size : Int)) = false := decide_eq_false (by omega)
        clear h0
        go_wp2_with fail
        go_meet
        case rel => exact ⟨i0, 0, s, l, rfl, rfl, rfl, HI0.out, Nat.zero_le _, HS.out, HMR0.out, Below.refl _ _⟩
      · obtain ⟨m, hm⟩ : ∃ m, s.size = m + 1 := ⟨s.size - 1, by omega⟩
        have hd3 : decide (0 < s.size) = true := decide_eq_true (by omega)
        have hd4 : decide ((0 : Int) < (s.size : Int)) = true := decide_eq_true (by omega)
        have hm2 : (s.size : Int) - 1 = (m : Int) := by omega
        have hm3 : m < s.size := by omega
        have HMM := Lib.hid hm
        clear hm
        have hget := HG.out m hm3
        have hlast : l.getLast? = some s[m] := by rw [List.getLast?_eq_getElem?, ← HSZ.out, HMM.out]; exact hget
        have HZ2 := Lib.hid (show s.extract 0 m = ⟨(l.take (l.length - 1)).toArray⟩ by rw [HEX.out 0 m (Nat.zero_le _) (by omega), ← HSZ.out, HMM.out]; rfl)
        by_cases h10 : s[m] = 10
        · have h4 : ((s[m].toNat : Int) == 10) = true := by simp [h10]
          have HMR := Lib.hid (more_last i0 HLL.out (by rw [hlast, h10]))
          clear h0 h10 hget hlast
          go_wp2_with fail
          go_meet
          case rel => exact ⟨i0, 0, s.extract 0 m, _, rfl, rfl, rfl, HI0.out, Nat.zero_le _, HZ2.out, HMR.out, Below.refl _ _⟩
        · have h4 : ((s[m].toNat : Int) == 10) = false := byte_no (n := 10) h10 (by omega)
          clear h0 h10 hget hlast HZ2
          go_wp2_with fail
          go_meet
          case rel => exact ⟨i0, 0, s, l, rfl, rfl, rfl, HI0.out, Nat.zero_le _, HS.out, HMR0.out, Below.refl _ _⟩
    have hk0 : (((u : Int) % 4) == 0) = false := beq_no (by omega)
    have hk1 : (((u : Int) % 4) == 1) = false := beq_no (by omega)
    have HU := Lib.hid hu4
    clear hu4
    go_wp2_with fail
    go_loopw [7] (fun t7 wr => ∃ j : Nat, j ≤ s.size ∧ t7 = .int .i64 j ∧ Hid (Below w.heap.size w wr)) (fun t7 _ => (intOf t7).toNat)
    case atStart => exact ⟨i0, hi1, rfl, Below.refl _ _⟩
    case round =>
      obtain ⟨j, hj, rfl, HB⟩ := hrel
      by_cases hj0 : j = 0
      · have hd3 : decide (0 < j) = false := decide_eq_false (by omega)
        have hd4 : decide ((0 : Int) < (j : Int)) = false := decide_eq_false (by omega)
        have HJ := Lib.hid (show j = 0 ∨ (0 < j ∧ l[j - 1]? = some 10) from .inl hj0)
        clear hj0
        rcases HU.out with hu4 | hu4
        · have hk2 : (((u : Int) % 4) == 3) = false := beq_no (by omega)
          have HMR := Lib.hid (show MoreIs l ((l.take j ++ [99, 32, 120, 32, 48, 10]) ++ l.drop j) j 1 from more_line (x := [99, 32, 120, 32, 48]) HLL.out (by have := HSZ.out; omega) HJ.out lineD_c (by decide) (by decide))
          clear hu4
          obtain ⟨z1, hz1⟩ : ∃ z1 : ByteArray, z1 = s.extract 0 j ++ (⟨#[99, 32, 120, 32, 48, 10]⟩ : ByteArray) := ⟨_, rfl⟩
          obtain ⟨z2, hz2⟩ : ∃ z2 : ByteArray, z2 = z1 ++ s.extract j s.size := ⟨_, rfl⟩
          have hz3 : z1.size ≤ 10010 := by rw [hz1, ByteArray.size_append, ByteArray.size_extract]; show _ + 6 ≤ _; omega
          have ha1 : ∀ x, (Op.stringOp .add (s.extract 0 j) (⟨#[99, 32, 120, 32, 48, 10]⟩ : ByteArray)).run Tryd.prog x = .ok (.string z1) x := fun x => by rw [hz1]; exact run_string_add_sum x _ _ (by rw [ByteArray.size_extract]; show _ + 6 ≤ _; omega)
          have ha2 : ∀ x, (Op.stringOp .add z1 (s.extract j s.size)).run Tryd.prog x = .ok (.string z2) x := fun x => by rw [hz2]; exact run_string_add_sum x _ _ (by rw [ByteArray.size_extract]; omega)
          have HZ2 := Lib.hid (show z2 = ⟨((l.take j ++ [99, 32, 120, 32, 48, 10]) ++ l.drop j).toArray⟩ by
            rw [hz2, hz1, HEX.out 0 j (Nat.zero_le _) (by omega), HEX.out j s.size (by omega) (Nat.le_refl _), HSZ.out, List.take_length]
            apply ByteArray.ext
            simp)
          clear hz1 hz2 hz3
          go_wp2_with fail
          refine wp_gameM [0, 0, 0, 0, 0, 0, 0, 0, 0, 0] [] (keptB [] wr) (fin_keptB _) (has_keptB _) (by kernel_rfl) (by kernel_rfl) ?_
          refine lexM_split 10 (by decide) (by rfl) ?_
          simp only [List.take_succ_cons, List.take_zero, List.drop_succ_cons, List.drop_zero]
          refine lex_quietE 10 (by kernel_rfl) (by rfl) ?_
          apply Exists.intro
          refine ⟨fun z hz1 => ?_, ?_⟩
          · clear hz1
            simp only [List.take_succ_cons, List.take_zero]
            unfold Cx
            repeat (go_big_quiet_step (fail))
            exact wpQuiet_nil rfl
          simp only [List.drop_succ_cons, List.drop_zero]
          refine lex_nil ?_
          intro x2 hx2 _
          have HX2 := Lib.hid hx2.below
          clear hx2
          go_wp2_with fail
          go_meet
          case rel => exact ⟨j, 1, z2, _, rfl, rfl, rfl, hj, Nat.le_refl _, HZ2.out, HMR.out, HB.out.trans (HX2.out.mono HB.out.size)⟩
        · have hk2 : (((u : Int) % 4) == 3) = true := by rw [beq_iff_eq]; omega
          have HMR := Lib.hid (show MoreIs l ((l.take j ++ [32, 32, 10]) ++ l.drop j) j 1 from more_line (x := [32, 32]) HLL.out (by have := HSZ.out; omega) HJ.out lineD_b (by decide) (by decide))
          clear hu4
          obtain ⟨z1, hz1⟩ : ∃ z1 : ByteArray, z1 = s.extract 0 j ++ (⟨#[32, 32, 10]⟩ : ByteArray) := ⟨_, rfl⟩
          obtain ⟨z2, hz2⟩ : ∃ z2 : ByteArray, z2 = z1 ++ s.extract j s.size := ⟨_, rfl⟩
          have hz3 : z1.size ≤ 10010 := by rw [hz1, ByteArray.size_append, ByteArray.size_extract]; show _ + 3 ≤ _; omega
          have ha1 : ∀ x, (Op.stringOp .add (s.extract 0 j) (⟨#[32, 32, 10]⟩ : ByteArray)).run Tryd.prog x = .ok (.string z1) x := fun x => by rw [hz1]; exact run_string_add_sum x _ _ (by rw [ByteArray.size_extract]; show _ + 3 ≤ _; omega)
          have ha2 : ∀ x, (Op.stringOp .add z1 (s.extract j s.size)).run Tryd.prog x = .ok (.string z2) x := fun x => by rw [hz2]; exact run_string_add_sum x _ _ (by rw [ByteArray.size_extract]; omega)
          have HZ2 := Lib.hid (show z2 = ⟨((l.take j ++ [32, 32, 10]) ++ l.drop j).toArray⟩ by
            rw [hz2, hz1, HEX.out 0 j (Nat.zero_le _) (by omega), HEX.out j s.size (by omega) (Nat.le_refl _), HSZ.out, List.take_length]
            apply ByteArray.ext
            simp)
          clear hz1 hz2 hz3
          go_wp2_with fail
          refine wp_gameM [0, 0, 0, 0, 0, 0, 0, 0, 0, 0] [] (keptB [] wr) (fin_keptB _) (has_keptB _) (by kernel_rfl) (by kernel_rfl) ?_
          refine lexM_split 10 (by decide) (by rfl) ?_
          simp only [List.take_succ_cons, List.take_zero, List.drop_succ_cons, List.drop_zero]
          refine lex_quietE 10 (by kernel_rfl) (by rfl) ?_
          apply Exists.intro
          refine ⟨fun z hz1 => ?_, ?_⟩
          · clear hz1
            simp only [List.take_succ_cons, List.take_zero]
            unfold Cx
            repeat (go_big_quiet_step (fail))
            exact wpQuiet_nil rfl
          simp only [List.drop_succ_cons, List.drop_zero]
          refine lex_nil ?_
          intro x2 hx2 _
          have HX2 := Lib.hid hx2.below
          clear hx2
          go_wp2_with fail
          go_meet
          case rel => exact ⟨j, 1, z2, _, rfl, rfl, rfl, hj, Nat.le_refl _, HZ2.out, HMR.out, HB.out.trans (HX2.out.mono HB.out.size)⟩
      · obtain ⟨m, hm⟩ : ∃ m, j = m + 1 := ⟨j - 1, by omega⟩
        have hd3 : decide (0 < j) = true := decide_eq_true (by omega)
        have hd4 : decide ((0 : Int) < (j : Int)) = true := decide_eq_true (by omega)
        have hm2 : (j : Int) - 1 = (m : Int) := by omega
        have hm3 : m < s.size := by omega
        have hget := HG.out m hm3
        by_cases h10 : s[m] = 10
        · have h4 : ((s[m].toNat : Int) != 10) = false := by simp [h10]
          have HJ := Lib.hid (show j = 0 ∨ (0 < j ∧ l[j - 1]? = some 10) from .inr ⟨by omega, by rw [show j - 1 = m by omega, hget, h10]⟩)
          clear hj0 hm h10 hget
          rcases HU.out with hu4 | hu4
          · have hk2 : (((u : Int) % 4) == 3) = false := beq_no (by omega)
            have HMR := Lib.hid (show MoreIs l ((l.take j ++ [99, 32, 120, 32, 48, 10]) ++ l.drop j) j 1 from more_line (x := [99, 32, 120, 32, 48]) HLL.out (by have := HSZ.out; omega) HJ.out lineD_c (by decide) (by decide))
            clear hu4
            obtain ⟨z1, hz1⟩ : ∃ z1 : ByteArray, z1 = s.extract 0 j ++ (⟨#[99, 32, 120, 32, 48, 10]⟩ : ByteArray) := ⟨_, rfl⟩
            obtain ⟨z2, hz2⟩ : ∃ z2 : ByteArray, z2 = z1 ++ s.extract j s.size := ⟨_, rfl⟩
            have hz3 : z1.size ≤ 10010 := by rw [hz1, ByteArray.size_append, ByteArray.size_extract]; show _ + 6 ≤ _; omega
            have ha1 : ∀ x, (Op.stringOp .add (s.extract 0 j) (⟨#[99, 32, 120, 32, 48, 10]⟩ : ByteArray)).run Tryd.prog x = .ok (.string z1) x := fun x => by rw [hz1]; exact run_string_add_sum x _ _ (by rw [ByteArray.size_extract]; show _ + 6 ≤ _; omega)
            have ha2 : ∀ x, (Op.stringOp .add z1 (s.extract j s.size)).run Tryd.prog x = .ok (.string z2) x := fun x => by rw [hz2]; exact run_string_add_sum x _ _ (by rw [ByteArray.size_extract]; omega)
            have HZ2 := Lib.hid (show z2 = ⟨((l.take j ++ [99, 32, 120, 32, 48, 10]) ++ l.drop j).toArray⟩ by
              rw [hz2, hz1, HEX.out 0 j (Nat.zero_le _) (by omega), HEX.out j s.size (by omega) (Nat.le_refl _), HSZ.out, List.take_length]
              apply ByteArray.ext
              simp)
            clear hz1 hz2 hz3
            go_wp2_with fail
            refine wp_gameM [0, 0, 0, 0, 0, 0, 0, 0, 0, 0] [] (keptB [] wr) (fin_keptB _) (has_keptB _) (by kernel_rfl) (by kernel_rfl) ?_
            refine lexM_split 10 (by decide) (by rfl) ?_
            simp only [List.take_succ_cons, List.take_zero, List.drop_succ_cons, List.drop_zero]
            refine lex_quietE 10 (by kernel_rfl) (by rfl) ?_
            apply Exists.intro
            refine ⟨fun z hz1 => ?_, ?_⟩
            · clear hz1
              simp only [List.take_succ_cons, List.take_zero]
              unfold Cx
              repeat (go_big_quiet_step (fail))
              exact wpQuiet_nil rfl
            simp only [List.drop_succ_cons, List.drop_zero]
            refine lex_nil ?_
            intro x2 hx2 _
            have HX2 := Lib.hid hx2.below
            clear hx2
            go_wp2_with fail
            go_meet
            case rel => exact ⟨j, 1, z2, _, rfl, rfl, rfl, hj, Nat.le_refl _, HZ2.out, HMR.out, HB.out.trans (HX2.out.mono HB.out.size)⟩
          · have hk2 : (((u : Int) % 4) == 3) = true := by rw [beq_iff_eq]; omega
            have HMR := Lib.hid (show MoreIs l ((l.take j ++ [32, 32, 10]) ++ l.drop j) j 1 from more_line (x := [32, 32]) HLL.out (by have := HSZ.out; omega) HJ.out lineD_b (by decide) (by decide))
            clear hu4
            obtain ⟨z1, hz1⟩ : ∃ z1 : ByteArray, z1 = s.extract 0 j ++ (⟨#[32, 32, 10]⟩ : ByteArray) := ⟨_, rfl⟩
            obtain ⟨z2, hz2⟩ : ∃ z2 : ByteArray, z2 = z1 ++ s.extract j s.size := ⟨_, rfl⟩
            have hz3 : z1.size ≤ 10010 := by rw [hz1, ByteArray.size_append, ByteArray.size_extract]; show _ + 3 ≤ _; omega
            have ha1 : ∀ x, (Op.stringOp .add (s.extract 0 j) (⟨#[32, 32, 10]⟩ : ByteArray)).run Tryd.prog x = .ok (.string z1) x := fun x => by rw [hz1]; exact run_string_add_sum x _ _ (by rw [ByteArray.size_extract]; show _ + 3 ≤ _; omega)
            have ha2 : ∀ x, (Op.stringOp .add z1 (s.extract j s.size)).run Tryd.prog x = .ok (.string z2) x := fun x => by rw [hz2]; exact run_string_add_sum x _ _ (by rw [ByteArray.size_extract]; omega)
            have HZ2 := Lib.hid (show z2 = ⟨((l.take j ++ [32, 32, 10]) ++ l.drop j).toArray⟩ by
              rw [hz2, hz1, HEX.out 0 j (Nat.zero_le _) (by omega), HEX.out j s.size (by omega) (Nat.le_refl _), HSZ.out, List.take_length]
              apply ByteArray.ext
              simp)
            clear hz1 hz2 hz3
            go_wp2_with fail
            refine wp_gameM [0, 0, 0, 0, 0, 0, 0, 0, 0, 0] [] (keptB [] wr) (fin_keptB _) (has_keptB _) (by kernel_rfl) (by kernel_rfl) ?_
            refine lexM_split 10 (by decide) (by rfl) ?_
            simp only [List.take_succ_cons, List.take_zero, List.drop_succ_cons, List.drop_zero]
            refine lex_quietE 10 (by kernel_rfl) (by rfl) ?_
            apply Exists.intro
            refine ⟨fun z hz1 => ?_, ?_⟩
            · clear hz1
              simp only [List.take_succ_cons, List.take_zero]
              unfold Cx
              repeat (go_big_quiet_step (fail))
              exact wpQuiet_nil rfl
            simp only [List.drop_succ_cons, List.drop_zero]
            refine lex_nil ?_
            intro x2 hx2 _
            have HX2 := Lib.hid hx2.below
            clear hx2
            go_wp2_with fail
            go_meet
            case rel => exact ⟨j, 1, z2, _, rfl, rfl, rfl, hj, Nat.le_refl _, HZ2.out, HMR.out, HB.out.trans (HX2.out.mono HB.out.size)⟩
        · have h4 : ((s[m].toNat : Int) != 10) = true := congrArg (fun b => !b) (byte_no (n := 10) h10 (by omega))
          have HMM := Lib.hid hm
          clear hj0 hm h10 hget
          go_wp2_with fail
          go_roundw
          case rel => exact ⟨m, by omega, by go_num, HB.out⟩
          case measure => have := HMM.out; simp [intOf]; omega
  case rest =>
  obtain ⟨i, sf, z, M, rfl, rfl, rfl, HI, HF, HZ, HMR, HB1⟩ := hcut
  obtain ⟨w1, hw1⟩ : ∃ w1, w1 = wc := ⟨_, rfl⟩
  subst hw1
  have hil : i ≤ s.size := HI.out
  have KL := xLines (l.take i) (by have := HLL.out; rw [List.length_take]; omega) w1
  rw [show (⟨(l.take i).toArray⟩ : ByteArray) = s.extract 0 i from (HEX.out 0 i (Nat.zero_le _) hil).symm] at KL
  obtain ⟨nb, hnb⟩ : ∃ nb, (pieces 10 (l.take i)).length = nb + 1 := ⟨(pieces 10 (l.take i)).length - 1, by
    have h0 : pieces 10 (l.take i) ≠ [] := by rw [pieces_cut]; exact cutB_ne _ _
    have := List.length_pos_iff.2 h0
    omega⟩
  obtain ⟨hml, hmp⟩ := HMR.out
  rw [hnb, Nat.add_sub_cancel] at hmp
  have hnb1 : nb ≤ 10000 := by have h1 := (pieces_len 10 (l.take i)).2; have := HLL.out; rw [hnb, List.length_take] at h1; omega
  have HNB := Lib.hid hnb
  have hll := HLL.out
  have KP := Lib.hid (fun (x : World) (hx : Below w.heap.size w x) => gParse l (by omega) x (HM.out x hx))
  have KM := Lib.hid (fun (x : World) (hx : Below w.heap.size w x) => gParse M (by omega) x (HM.out x hx))
  have HPS := Lib.hid (parseD_sz (rd := rdD) l)
  have hpa := parseD_at l
  rw [← HS.out] at KP
  rw [← HZ.out, hmp] at KM
  generalize parseD rdD l = R at KP KM HPS hpa
  obtain ⟨st, ln, en⟩ := R
  simp only at KM
  have HLE := Lib.hid (show st.sh.length ≤ l.length ∧ st.ws.length ≤ l.length ∧ st.L.length ≤ l.length ∧ ∀ c ∈ st.L, c.length ≤ 128 from HPS.out)
  have hln1 : ln ≤ 10001 := by simp only at hpa; omega
  have hsf1 : sf ≤ 1 := HF.out
  clear hmp hnb HPS HMR hml hll HZ HI0 HG hw2 hi1 hpa
  go_wp2_with fail
  refine KL.mono ?_
  rintro e w2 ⟨a1, c1, rfl, _, hB⟩
  rw [HNB.out]
  have HB2 := Lib.hid (HB1.out.trans (hB.mono HB1.out.size))
  have KP1 := KP.out w2 HB2.out
  clear hB KL KP HNB
  go_wp2_with fail
  refine KP1.mono ?_
  rintro e w3 ⟨v, rfl, hD, hB⟩
  obtain ⟨aL, cL, aS, cS, aW, cW, e1, e2, e3, hF⟩ := hD.file
  simp only at e1 e2 e3 hF ⊢
  rw [e1, e2, e3]
  have HF3 := Lib.hid hF
  have HB3 := Lib.hid (HB2.out.trans (hB.mono HB2.out.size))
  clear hD hB KP1 e1 e2 e3 hF
  go_upto_region 23 with fail
  refine wp_gen ?_
  intro w4 hw4
  have hB34 : Below w3.heap.size w3 w4 := by rw [hw4]; exact below_one w3 _
  have A4 := Lib.hid (show w4.heap[w3.heap.size]? = some (.cells #[.int .i64 st.n, .slice aL st.L.length cL, .slice aS st.sh.length cS, .slice aW st.ws.length cW] 29 (0, 0)) by rw [hw4]; exact new_one w3 _)
  have HB4 := Lib.hid (HB3.out.trans (hB34.mono HB3.out.size))
  have HF4 := Lib.hid ((HF3.out.below hB34 (Nat.le_refl _)).mono hB34.size)
  clear hw4 hB34 HF3
  have KM1 := KM.out w4 HB4.out
  clear KM
  go_wp2_with fail
  refine KM1.mono ?_
  rintro e w5 ⟨v5, rfl, hD, hB⟩
  obtain ⟨bL, dL, bS, dS, bW, dW, e1, e2, e3, hF⟩ := hD.file
  simp only at e1 e2 e3 hF ⊢
  rw [e1, e2, e3]
  have HG5 := Lib.hid hF
  have HB5 := Lib.hid (HB4.out.trans (hB.mono HB4.out.size))
  have HF5 := Lib.hid ((HF4.out.below hB (Nat.le_refl _)).mono hB.size)
  have A5 := Lib.hid ((behind_of_below hB).keep A4.out (by simp))
  clear hD hB KM1 e1 e2 e3 hF HF4 A4
  go_upto_region 24 with fail
  refine wp_gen ?_
  intro w6 hw6
  have hB56 : Below w5.heap.size w5 w6 := by rw [hw6]; exact below_one w5 _
  have A6 := Lib.hid ((behind_of_below hB56).keep A5.out (by simp))
  have B6 := Lib.hid (show w6.heap[w5.heap.size]? = some (.cells #[.int .i64 st.n, .slice bL st.L.length dL, .slice bS st.sh.length dS, .slice bW st.ws.length dW] 29 (0, 0)) by rw [hw6]; exact new_one w5 _)
  have HB6 := Lib.hid (HB5.out.trans (hB56.mono HB5.out.size))
  have HF6 := Lib.hid ((HF5.out.below hB56 (Nat.le_refl _)).mono hB56.size)
  have HG6 := Lib.hid ((HG5.out.below hB56 (Nat.le_refl _)).mono hB56.size)
  clear hw6 hB56 A5 HF5 HG5
  obtain ⟨ln2, hln2⟩ : ∃ ln2, ln2 = if ln > nb then ln + sf else ln := ⟨_, rfl⟩
  rw [← hln2]
  have HLN := Lib.hid hln2
  clear hln2
  obtain ⟨bs, hbs⟩ : ∃ bs, bs = decide (nb < ln) := ⟨_, rfl⟩
  have HBS := Lib.hid hbs
  have hd3 : decide (nb < ln) = bs := hbs.symm
  have hd4 : decide ((nb : Int) < (ln : Int)) = bs := by
    rw [hbs]
    by_cases h : nb < ln
    · rw [decide_eq_true h, decide_eq_true (by omega)]
    · rw [decide_eq_false h, decide_eq_false (by omega)]
  clear hbs
  go_upto_if 120 with fail
  clear hd3 hd4
  go_cut [13] (fun t13 wx => t13 = .int .i64 ln2 ∧ w6 = wx)
  case first =>
    cases bs with
    | true =>
      have h1 : ln2 = ln + sf := by rw [HLN.out, if_pos (of_decide_eq_true HBS.out.symm)]
      have H1 := Lib.hid h1
      clear h1
      go_wp2_with fail
      go_meet
      case rel => exact ⟨by rw [H1.out]; go_num, rfl⟩
    | false =>
      have h1 : ln2 = ln := by rw [HLN.out, if_neg (of_decide_eq_false HBS.out.symm)]
      have H1 := Lib.hid h1
      clear h1
      go_wp2_with fail
      go_meet
      case rel => exact ⟨by rw [H1.out], rfl⟩
  case rest =>
  obtain ⟨rfl, rfl⟩ := hcut
  have hee : (en == en) = true := by simp
  have hnn : ((ln2 : Int) == (ln2 : Int)) = true := by simp
  go_wp2_with fail
  refine wp_gameM [0, 0, 0, 0, 0, 0, 0, 0, 0, 0, 6, 0, 6, 6, 0, 0, 6, 0, 0] [] (keptB [] w6) (fin_keptB _) (has_keptB _) (by kernel_rfl) (by kernel_rfl) ?_
  refine lexM_split 10 (by decide) (by rfl) ?_
  simp only [List.take_succ_cons, List.take_zero, List.drop_succ_cons, List.drop_zero]
  refine lex_quietE 10 (by kernel_rfl) (by rfl) ?_
  apply Exists.intro
  refine ⟨fun z hz1 => ?_, ?_⟩
  · have gz := hz1.keep A6.out (by simp)
    have g0 := blk_cellp gz 0 rfl
    have g1 := blk_cellp gz 1 rfl
    have g2 := blk_cellp gz 2 rfl
    have g3 := blk_cellp gz 3 rfl
    clear gz
    clear hz1
    simp only [List.take_succ_cons, List.take_zero]
    unfold Cx
    repeat (go_big_quiet_step (fail))
    exact wpQuiet_nil rfl
  simp only [List.drop_succ_cons, List.drop_zero]
  refine lex_nil ?_
  refine lexM_manyF (RGiven st.n (.slice aL st.L.length cL) (.slice aS st.sh.length cS) st.ws) (by rfl) (by rfl) (by simp) (fin_keptB (Wr := []) w6) (fun g o h => keptB_wr (Wr := []) (w := w6) h) (fun x => by go_simp) (fun x hx hBx => given_call st.n _ _ ⟨_, _, _, rfl⟩ ⟨_, _, _, rfl⟩ st.ws (by have := HLE.out.2.1; have := HLL.out; omega) aW cW HF6.out.w x hx) (fun u1 B1 hR1 hf1 hN1 => ?_)
  obtain ⟨pA, cA, rfl, hrA⟩ := hR1
  have HRA := Lib.hid hrA
  clear hrA
  have HF1 := Lib.hid (Fin.over (fin_keptB (Wr := []) w6) hf1)
  have HW1 := Lib.hid (over_wr (w := w6) (Wr := []) (fun g o h => keptB_wr (Wr := []) (w := w6) h) hN1)
  have HN1 := Lib.hid hN1
  clear hf1 hN1
  unfold setSlot
  go_big_quiet_step (fail)
  refine wpQuiet_nil ?_
  refine lexM_split 1 (by decide) (by rfl) ?_
  simp only [List.take_succ_cons, List.take_zero, List.drop_succ_cons, List.drop_zero]
  refine lex_quietE 1 (by kernel_rfl) (by rfl) ?_
  apply Exists.intro
  refine ⟨fun z hz1 => ?_, ?_⟩
  · have gz := hz1.keep B6.out (by simp)
    have g0 := blk_cellp gz 0 rfl
    have g1 := blk_cellp gz 1 rfl
    have g2 := blk_cellp gz 2 rfl
    have g3 := blk_cellp gz 3 rfl
    clear gz
    clear hz1
    simp only [List.take_succ_cons, List.take_zero]
    unfold Cx
    repeat (go_big_quiet_step (fail))
    exact wpQuiet_nil rfl
  simp only [List.drop_succ_cons, List.drop_zero]
  refine lex_nil ?_
  refine lexM_manyF (RGiven st.n (.slice bL st.L.length dL) (.slice bS st.sh.length dS) st.ws) (by rfl) (by rfl) (by simp) HF1.out HW1.out (fun x => by go_simp) (fun x hx hBx => given_call st.n _ _ ⟨_, _, _, rfl⟩ ⟨_, _, _, rfl⟩ st.ws (by have := HLE.out.2.1; have := HLL.out; omega) bW dW HG6.out.w x hx) (fun u2 B2 hR2 hf2 hN2 => ?_)
  obtain ⟨pB, cB, rfl, hrB⟩ := hR2
  have HRB := Lib.hid hrB
  clear hrB
  have HF2 := Lib.hid (Fin.over HF1.out hf2)
  have HW2 := Lib.hid (over_wr (w := w6) (Wr := []) HW1.out hN2)
  have HN2 := Lib.hid hN2
  clear hf2 hN2
  unfold setSlot
  go_big_quiet_step (fail)
  refine wpQuiet_nil ?_
  refine lexM_manyF (fun v _ => v = .bool true) (by rfl) (by rfl) (by simp) HF2.out HW2.out (fun x => by go_simp) (fun x hx hBx => same2_call st.n st.L st.sh st.ws aL aS bL bS cL cS dL dS (by have := HLE.out.2.2.1; have := HLL.out; omega) (fun xs hxs => by have := HLE.out.2.2.2 xs hxs; omega) (by have := HLE.out.1; have := HLL.out; omega) (by have := HLE.out.2.1; have := HLL.out; omega) ⟨HF6.out.l, HF6.out.s⟩ ⟨HG6.out.l, HG6.out.s⟩ HRA.out HRB.out x hx (has_upper (has_under (w := w6) hBx HN2.out)) (has_upper hBx)) (fun u3 B3 hR3 hf3 hN3 => ?_)
  subst hR3
  have HF3 := Lib.hid (Fin.over HF2.out hf3)
  have HW3 := Lib.hid (over_wr (w := w6) (Wr := []) HW2.out hN3)
  have HN3 := Lib.hid hN3
  clear hf3 hN3
  unfold setSlot
  go_big_quiet_step (fail)
  refine wpQuiet_nil ?_
  refine lexM_split 2 (by decide) (by rfl) ?_
  simp only [List.take_succ_cons, List.take_zero, List.drop_succ_cons, List.drop_zero]
  refine lex_quietE 2 (by kernel_rfl) (by rfl) ?_
  apply Exists.intro
  refine ⟨fun z hz1 => ?_, ?_⟩
  · clear hz1
    simp only [List.take_succ_cons, List.take_zero]
    unfold Cx
    repeat (go_big_quiet_step (fail))
    exact wpQuiet_nil rfl
  simp only [List.drop_succ_cons, List.drop_zero]
  refine lex_nil ?_
  refine lexM_manyF (fun v _ => v = .bool true) (by rfl) (by rfl) (by simp) HF3.out HW3.out (fun x => by go_simp) (fun x hx hBx => true_call (KW.out x (HB6.out.trans (hx.below.mono HB6.out.size)))) (fun u4 B4 hR4 hf4 hN4 => ?_)
  subst hR4
  have HF4 := Lib.hid (Fin.over HF3.out hf4)
  have HW4 := Lib.hid (over_wr (w := w6) (Wr := []) HW3.out hN4)
  have HN4 := Lib.hid hN4
  clear hf4 hN4
  unfold setSlot
  go_big_quiet_step (fail)
  refine wpQuiet_nil ?_
  refine lexM_split 2 (by decide) (by rfl) ?_
  simp only [List.take_succ_cons, List.take_zero, List.drop_succ_cons, List.drop_zero]
  refine lex_quietE 2 (by kernel_rfl) (by rfl) ?_
  apply Exists.intro
  refine ⟨fun z hz1 => ?_, ?_⟩
  · clear hz1
    simp only [List.take_succ_cons, List.take_zero]
    unfold Cx
    repeat (go_big_quiet_step (fail))
    exact wpQuiet_nil rfl
  simp only [List.drop_succ_cons, List.drop_zero]
  refine lex_nil ?_
  intro x2 hx2 _
  have HX2 := Lib.hid hx2
  clear hx2
  go_wp2_with fail
  rw [HP.out]
  exact ⟨rfl, HB6.out.trans (HX2.out.below.mono HB6.out.size)⟩
end Go.Proofs.YtfleacdnkpckbaaDoor
