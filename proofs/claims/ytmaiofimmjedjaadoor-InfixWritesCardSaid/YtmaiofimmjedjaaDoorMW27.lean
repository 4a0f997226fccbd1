/- Texts of this claim, joined: HG2, HP1, HP2, HP3. -/
import Derived.Test.YtmaiofimmjedjaaDoorMW26
import Derived.Test.YtmaiofimmjedjaaDoorMW16
import Derived.Deep.DeepCutAuto
import Derived.Laws.MakeOwn

/- The pieces of a formula, by whatever visitor: of every gate of a valid circuit. -/
namespace Go.Proofs.YtmaiofimmjedjaaDoor
open Go.RowKit Go.Maps Go.MapKept

theorem gPieces {N : Nat} {vf : FuncId} {p1 p2 : Value} {n : Int} {gs : List Gt} {a : Option Addr} {g : Gt} {i : Nat} {ip : Option Addr} {J : List Pc → List Nat → World → Prop} {V : List Nat} {w : World} (h : PcH N vf p1 p2 n gs a g i ip J V w) (ca ic : Nat) :
    Calls Tryd.prog 14 #[.agg #[.int .i64 n, .slice a gs.length ca], .agg #[.int .i64 g.k, .int .i64 g.lit, .slice ip g.ins.length ic], visV vf p1 p2] w (Vd J (pcsI gs g) V w) := by
  have hok := h.ok
  have hpc : ∀ L, pcsI gs g = L → pcsI gs g = L := fun _ h => h
  by_cases k0 : g.k = 0
  · exact gPieces_zero h ca ic k0 (by unfold pcsI; rw [if_pos k0])
  by_cases k1 : g.k = 1
  · exact gPieces_one h ca ic k1 (by unfold pcsI; rw [if_neg k0, if_pos k1])
  by_cases k2 : g.k = 2
  · have hl := hok.lit k2
    have hn := h.n128
    unfold litI at hl
    simp only [Bool.or_eq_true, decide_eq_true_eq] at hl
    rcases hl with hl | hl
    · obtain ⟨m, hm⟩ : ∃ m : Nat, g.lit = (m : Int) := ⟨g.lit.toNat, by omega⟩
      exact gPieces_litp h ca ic k2 hm (by omega) (by omega) (by unfold pcsI; rw [if_neg k0, if_neg k1, if_pos k2, if_neg (by omega), hm])
    · obtain ⟨m, hm⟩ : ∃ m : Nat, g.lit = -(m : Int) := ⟨(-g.lit).toNat, by omega⟩
      exact gPieces_litn h ca ic k2 hm (by omega) (by omega) (by unfold pcsI; rw [if_neg k0, if_neg k1, if_pos k2, if_pos (by omega), hm, Int.neg_neg])
  by_cases k3 : g.k = 3
  · obtain ⟨x, hx⟩ := List.length_eq_one_iff.1 (many_one hok.many k3)
    have hin := hok.ins x (by rw [hx]; simp)
    have hi := h.hi
    obtain ⟨m, rfl⟩ : ∃ m : Nat, x = m := ⟨x.toNat, by omega⟩
    exact gPieces_not h ca ic k3 hx (by omega) (by unfold pcsI; rw [if_neg k0, if_neg k1, if_neg k2, if_pos k3, hx]; rfl)
  by_cases k7 : g.k = 7
  · obtain ⟨x, y, hx⟩ := len_two (many_two hok.many k7)
    have hin := hok.ins x (by rw [hx]; simp)
    have hin2 := hok.ins y (by rw [hx]; simp)
    have hi := h.hi
    obtain ⟨m, rfl⟩ : ∃ m : Nat, x = m := ⟨x.toNat, by omega⟩
    obtain ⟨m2, rfl⟩ : ∃ m : Nat, y = m := ⟨y.toNat, by omega⟩
    exact gPieces_iff h ca ic k7 hx (by omega) (by unfold pcsI; rw [if_neg k0, if_neg k1, if_neg k2, if_neg k3, if_pos k7, hx]; rfl)
  by_cases h7 : levelI g = 7
  · have hk := many_kind hok.many
    exact gPieces_list h ca ic k0 k1 k2 k3 k7 (by omega) h7 (by unfold pcsI; rw [if_neg k0, if_neg k1, if_neg k2, if_neg k3, if_neg k7, if_pos h7])
  · have hl : 4 ≤ levelI g ∧ levelI g ≤ 6 := by
      unfold levelI at h7 ⊢
      rw [if_neg k7] at h7 ⊢
      split at h7
      · exact absurd rfl h7
      · rename_i hlen
        rw [if_neg hlen]
        split
        · omega
        split
        · omega
        split
        · omega
        · rename_i a b c; rw [if_neg a, if_neg b, if_neg c] at h7; exact absurd rfl h7
    exact gPieces_chain h ca ic k0 k1 k2 k3 k7 (levelI g) rfl hl.1 hl.2 (by unfold pcsI; rw [if_neg k0, if_neg k1, if_neg k2, if_neg k3, if_neg k7, if_neg h7])
end Go.Proofs.YtmaiofimmjedjaaDoor

/- Print: how large the formula of each gate is. -/
namespace Go.Proofs.YtmaiofimmjedjaaDoor
open Go.RowKit

theorem put_short {k : Int} {p : Bool} {t : List UInt8} {u : List (List UInt8)} (h : Pc.s t u ∈ putI k p) : t.length ≤ 10 := by
  unfold putI at h
  split at h
  · simp at h
    rcases h with ⟨rfl, _⟩ | ⟨rfl, _⟩ <;> decide
  · simp at h
theorem more_short {gs : List Gt} {sep : List UInt8} {w : List (List UInt8)} {own : Nat} (hs : sep.length ≤ 10) {t : List UInt8} {u : List (List UInt8)} : ∀ l : List Int, Pc.s t u ∈ moreI gs sep w own l → t.length ≤ 10
  | [], h => by simp [moreI] at h
  | k :: l, h => by
    rw [moreI] at h
    rcases List.mem_cons.1 h with h | h
    · injection h with h1 _; rw [h1]; exact hs
    · rcases List.mem_append.1 h with h | h
      · exact put_short h
      · exact more_short hs l h
theorem between_short {gs : List Gt} {sep : List UInt8} {w : List (List UInt8)} {own : Nat} (hs : sep.length ≤ 10) {t : List UInt8} {u : List (List UInt8)} (l : List Int) (h : Pc.s t u ∈ betweenI gs sep w own l) : t.length ≤ 10 := by
  cases l with
  | nil => simp [betweenI] at h
  | cons k l =>
    rw [betweenI] at h
    rcases List.mem_append.1 h with h | h
    · exact put_short h
    · exact more_short hs l h
theorem sign_short (lv : Nat) : ([32] ++ signI lv ++ [32]).length ≤ 10 := by unfold signI; (repeat' split) <;> decide
theorem name_short (k : Int) : (nameI k ++ [40]).length ≤ 10 := by unfold nameI; (repeat' split) <;> decide
theorem xI_short {m : Int} (h0 : 0 ≤ m) (h : m ≤ 128) : (xI m).length ≤ 4 := by
  unfold xI
  have := decN_small m.toNat (by omega)
  simp; omega
theorem pcs_short {n : Int} {gs : List Gt} {i : Nat} {g : Gt} (hok : OkG n gs i g) (hn : n ≤ 128) {t : List UInt8} {u : List (List UInt8)} (h : Pc.s t u ∈ pcsI gs g) : t.length ≤ 10 := by
  unfold pcsI at h
  split at h
  · simp at h; rw [h.1]; decide
  split at h
  · simp at h; rw [h.1]; decide
  split at h
  · rename_i k2
    have hl := hok.lit k2
    unfold litI at hl
    simp only [Bool.or_eq_true, decide_eq_true_eq] at hl
    split at h
    · simp at h; rw [h.1]; have := xI_short (m := -g.lit) (by omega) (by omega); simp; omega
    · simp at h; rw [h.1]; have := xI_short (m := g.lit) (by omega) (by omega); omega
  split at h
  · rcases List.mem_cons.1 h with h | h
    · injection h with h1 _; rw [h1]; decide
    · exact put_short h
  split at h
  · rcases List.mem_append.1 h with h | h
    · exact put_short h
    · rcases List.mem_cons.1 h with h | h
      · injection h with h1 _; rw [h1]; decide
      · exact put_short h
  split at h
  · rcases List.mem_cons.1 h with h | h
    · injection h with h1 _; rw [h1]; exact name_short _
    · rcases List.mem_append.1 h with h | h
      · exact between_short (by decide) _ h
      · simp at h; rw [h.1]; decide
  · exact between_short (sign_short _) _ h

def szRow (gs : List Gt) (i c : Nat) : Array Value := ((List.range gs.length).map fun j => Value.int .i64 ((if j < i then capI (TX gs j).length else if j = i then c else 0 : Nat) : Int)).toArray
theorem szRow_get {gs : List Gt} {i c j : Nat} (h : j < gs.length) : (szRow gs i c)[j]? = some (.int .i64 ((if j < i then capI (TX gs j).length else if j = i then c else 0 : Nat) : Int)) := by
  simp [szRow, h]
theorem szRow_set {gs : List Gt} {i c c' : Nat} : (szRow gs i c).setIfInBounds i (.int .i64 (c' : Int)) = szRow gs i c' := by
  apply Array.ext_getElem?
  intro j
  rw [Array.getElem?_setIfInBounds]
  by_cases hj : j < gs.length
  · by_cases e : i = j
    · subst e
      rw [if_pos rfl, if_pos (by simpa [szRow] using hj), szRow_get hj, if_neg (Nat.lt_irrefl _), if_pos rfl]
    · rw [if_neg e, szRow_get hj, szRow_get hj]
      by_cases h : j < i
      · rw [if_pos h, if_pos h]
      · rw [if_neg h, if_neg h, if_neg (Ne.symm e), if_neg (Ne.symm e)]
  · have h1 : (szRow gs i c)[j]? = none := Array.getElem?_eq_none (by simp [szRow]; omega)
    have h2 : (szRow gs i c')[j]? = none := Array.getElem?_eq_none (by simp [szRow]; omega)
    rw [h1, h2]
    split
    · split
      · rename_i h; simp [szRow] at h; omega
      · rfl
    · rfl
theorem szRow_next {gs : List Gt} {i : Nat} : szRow gs i (capI (TX gs i).length) = szRow gs (i + 1) 0 := by
  unfold szRow
  congr 1
  apply List.map_congr_left
  intro j _
  by_cases h : j < i
  · rw [if_pos h, if_pos (by omega)]
  · by_cases e : j = i
    · subst e; rw [if_neg h, if_pos rfl, if_pos (by omega)]
    · rw [if_neg h, if_neg e, if_neg (by omega)]; split <;> rfl
structure SzR (gs : List Gt) (i sb ib zb : Nat) (c : Nat) (x : World) : Prop where
  z : x.heap[zb]? = some (.cells (szRow gs i c) 3 (0, 0))
  s : x.heap[sb]? = some (.cells #[.slice (some ⟨zb, 0, none⟩) gs.length gs.length] 31 (0, 0))
  i : x.heap[ib]? = some (.cells #[.int .i64 (i : Int)] 3 (0, 0))
  ns : sb ≠ zb
  ni : ib ≠ zb
theorem SzR.later {gs : List Gt} {i sb ib zb c : Nat} {x x' : World} (h : SzR gs i sb ib zb c x) (hb : Below x.heap.size x x') : SzR gs i sb ib zb c x' :=
  ⟨(behind_of_below hb).keep h.z (by simp), (behind_of_below hb).keep h.s (by simp), (behind_of_below hb).keep h.i (by simp), h.ns, h.ni⟩
theorem SzR.set {gs : List Gt} {i sb ib zb c : Nat} {x : World} (h : SzR gs i sb ib zb c x) {c' : Nat} {v : Int} (hv : v = (c' : Int)) : SzR gs i sb ib zb c' (x.setCell ⟨zb, i, none⟩ (.int .i64 v)) ∧ Behind x [zb] (x.setCell ⟨zb, i, none⟩ (.int .i64 v)) := by
  have hb : Behind x [zb] (x.setCell ⟨zb, i, none⟩ (.int .i64 v)) := behind_set1
  refine ⟨⟨?_, hb.keep h.s (by simp [h.ns]), hb.keep h.i (by simp [h.ni]), h.ns, h.ni⟩, hb⟩
  rw [← szRow_set (c := c), hv]
  exact heap_setCell_same x zb i _ _ _ h.z
def SzJ (gs : List Gt) (i sb ib zb : Nat) (d : List Pc) (V : List Nat) (x : World) : Prop := V = [zb] ∧ SzR gs i sb ib zb (capI (ptx gs d).length) x
theorem ptx_snoc_s (gs : List Gt) (d : List Pc) (t : List UInt8) (u : List (List UInt8)) : ptx gs (d ++ [.s t u]) = ptx gs d ++ t := by simp [ptx]
theorem ptx_snoc_g (gs : List Gt) (d : List Pc) (k : Int) : ptx gs (d ++ [.g k]) = ptx gs d ++ TX gs k := by simp [ptx]

set_option maxHeartbeats 3200000 in
set_option maxRecDepth 100000 in
theorem gSize_s {gs : List Gt} {i sb ib zb : Nat} {d : List Pc} {V : List Nat} {x : World} (h : SzJ gs i sb ib zb d V x) (hi : i < gs.length) (t : List UInt8) (u : List (List UInt8)) (ht : t.length ≤ 10) :
    Calls Tryd.prog 15 #[.string ⟨t.toArray⟩, .int .i64 (-1), .pointer (some ⟨sb, 0, none⟩), .pointer (some ⟨ib, 0, none⟩)] x (Vd (SzJ gs i sb ib zb) (d ++ [.s t u]) V x) := by
  obtain ⟨Post, hPost⟩ : ∃ P : Ending → World → Prop, P = Vd (SzJ gs i sb ib zb) (d ++ [.s t u]) V x := ⟨_, rfl⟩
  rw [← hPost]
  have HP := Lib.hid hPost
  have H := Lib.hid h
  have hsz := ba_size t
  obtain ⟨s, hs⟩ : ∃ s : ByteArray, s = ⟨t.toArray⟩ := ⟨_, rfl⟩
  rw [← hs] at hsz ⊢
  obtain ⟨rfl, h⟩ := h
  have c0 := blk_cell h.s 0 rfl
  have c1 := blk_cell h.i 0 rfl
  obtain ⟨c, hc⟩ : ∃ c, c = capI (ptx gs d).length := ⟨_, rfl⟩
  have hcl : c ≤ 1048577 := by rw [hc]; exact capI_le _
  rw [← hc] at h
  have z0 := blk_cell h.z i (szRow_get hi)
  rw [if_neg (Nat.lt_irrefl _), if_pos rfl] at z0
  have f0 := blk_free h.z i
  have HC := Lib.hid hc
  have HR0 := Lib.hid h
  clear hPost h hs hc
  go_enter Tryd.func15, Tryd.ntmps15
  go_upto_region 1 with fail
  refine wp_gen ?_
  intro x1 hx1
  have hs1 := HR0.out.set (c' := c + t.length) (v := (c : Int) + (t.length : Int)) (by omega)
  rw [← hx1] at hs1
  have HR1 := Lib.hid hs1.1
  have HB1 := Lib.hid hs1.2
  clear hx1 hs1 c0 c1 z0 f0
  have C0 := Lib.hid (blk_cell HR1.out.s 0 rfl)
  have C1 := Lib.hid (blk_cell HR1.out.i 0 rfl)
  have Z0 := Lib.hid (blk_cell HR1.out.z i (szRow_get hi))
  rw [if_neg (Nat.lt_irrefl _), if_pos rfl] at Z0
  go_upto_region 3 with fail
  refine wp_game_tail 8 (List.replicate 9 0) [] B0 fin_B0 (has_B0 _) (by kernel_rfl) (by kernel_rfl) ?_
  simp only [List.take_succ_cons, List.take_zero]
  refine lex_quietE 8 (by kernel_rfl) (by rfl) ?_
  apply Exists.intro
  refine ⟨fun z hz => ?_, ?_⟩
  · have e0 := behind_cellXp hz C0.out (by simp)
    have e1 := behind_cellXp hz C1.out (by simp)
    have e2 := behind_cellXp hz Z0.out (by simp)
    clear hz
    simp only [List.take_succ_cons, List.take_zero]
    unfold Cx
    repeat (go_big_quiet_step (fail))
    exact wpQuiet_nil rfl
  simp only [List.drop_succ_cons, List.drop_zero]
  refine lex_nil ?_
  intro z hz _
  have HR2 := Lib.hid (HR1.out.later hz.below)
  have HB2 := Lib.hid (HB1.out.of_below hz.below)
  clear hz
  have z0 := blk_cell HR2.out.z i (szRow_get hi)
  rw [if_neg (Nat.lt_irrefl _), if_pos rfl] at z0
  have f0 := blk_free HR2.out.z i
  go_wp2_with fail
  have hs3 := HR2.out.set (c' := capI ((ptx gs (d ++ [.s t u])).length)) (v := min ((c : Int) + (t.length : Int)) 1048577) (by rw [ptx_snoc_s, List.length_append]; have := HC.out; unfold capI at *; omega)
  go_end0
  rw [HP.out]
  exact ⟨rfl, [zb], ⟨rfl, hs3.1⟩, HB2.out.trans hs3.2 (fun g hg => .inl hg), fun g hg => .inl hg⟩

set_option maxHeartbeats 3200000 in
set_option maxRecDepth 100000 in
theorem gSize_g {gs : List Gt} {i sb ib zb : Nat} {d : List Pc} {V : List Nat} {x : World} (h : SzJ gs i sb ib zb d V x) (hi : i < gs.length) (k : Nat) (hk : k < i) :
    Calls Tryd.prog 15 #[.string ⟨#[]⟩, .int .i64 (k : Int), .pointer (some ⟨sb, 0, none⟩), .pointer (some ⟨ib, 0, none⟩)] x (Vd (SzJ gs i sb ib zb) (d ++ [.g k]) V x) := by
  obtain ⟨Post, hPost⟩ : ∃ P : Ending → World → Prop, P = Vd (SzJ gs i sb ib zb) (d ++ [.g k]) V x := ⟨_, rfl⟩
  rw [← hPost]
  have HP := Lib.hid hPost
  obtain ⟨rfl, h⟩ := h
  have hkl : k < gs.length := by omega
  have hd0 : decide ((k : Int) ≥ 0) = true := decide_eq_true (by omega)
  have hd1 : decide ((0 : Int) ≤ (k : Int)) = true := decide_eq_true (by omega)
  have c0 := blk_cell h.s 0 rfl
  have c1 := blk_cell h.i 0 rfl
  obtain ⟨c, hc⟩ : ∃ c, c = capI (ptx gs d).length := ⟨_, rfl⟩
  have hcl : c ≤ 1048577 := by rw [hc]; exact capI_le _
  rw [← hc] at h
  have z0 := blk_cell h.z i (szRow_get hi)
  rw [if_neg (Nat.lt_irrefl _), if_pos rfl] at z0
  have f0 := blk_free h.z i
  obtain ⟨m, hm⟩ : ∃ m, m = capI (TX gs k).length := ⟨_, rfl⟩
  have hml : m ≤ 1048577 := by rw [hm]; exact capI_le _
  have HM := Lib.hid hm
  have HC := Lib.hid hc
  have HR0 := Lib.hid h
  clear hPost h hc hm
  go_enter Tryd.func15, Tryd.ntmps15
  go_upto_region 1 with fail
  refine wp_gen ?_
  intro x1 hx1
  have hs1 := HR0.out.set (c' := c) (v := (c : Int)) rfl
  rw [← hx1] at hs1
  have HR1 := Lib.hid hs1.1
  have HB1 := Lib.hid hs1.2
  clear hx1 hs1 c0 c1 z0 f0
  have C0 := Lib.hid (blk_cell HR1.out.s 0 rfl)
  have C1 := Lib.hid (blk_cell HR1.out.i 0 rfl)
  have Z0 := Lib.hid (blk_cell HR1.out.z i (szRow_get hi))
  rw [if_neg (Nat.lt_irrefl _), if_pos rfl] at Z0
  have Z1 := Lib.hid (blk_cell HR1.out.z k (szRow_get hkl))
  rw [if_pos hk, ← HM.out] at Z1
  go_upto_region 2 with fail
  refine wp_game_tail 10 (List.replicate 11 0) [] B0 fin_B0 (has_B0 _) (by kernel_rfl) (by kernel_rfl) ?_
  simp only [List.take_succ_cons, List.take_zero]
  refine lex_quietE 10 (by kernel_rfl) (by rfl) ?_
  apply Exists.intro
  refine ⟨fun z hz => ?_, ?_⟩
  · have e0 := behind_cellXp hz C0.out (by simp)
    have e1 := behind_cellXp hz C1.out (by simp)
    have e2 := behind_cellXp hz Z0.out (by simp)
    have e3 := behind_cellXp hz Z1.out (by simp)
    clear hz
    simp only [List.take_succ_cons, List.take_zero]
    unfold Cx
    repeat (go_big_quiet_step (fail))
    exact wpQuiet_nil rfl
  simp only [List.drop_succ_cons, List.drop_zero]
  refine lex_nil ?_
  intro z hz _
  have HR2 := Lib.hid (HR1.out.later hz.below)
  have HB2 := Lib.hid (HB1.out.of_below hz.below)
  clear hz C0 C1 Z0 Z1
  have z0 := blk_cell HR2.out.z i (szRow_get hi)
  rw [if_neg (Nat.lt_irrefl _), if_pos rfl] at z0
  have f0 := blk_free HR2.out.z i
  go_upto_region 3 with fail
  refine wp_gen ?_
  intro x3 hx3
  have hs3 := HR2.out.set (c' := c + m) (v := (c : Int) + (m : Int)) (by omega)
  rw [← hx3] at hs3
  have HR3 := Lib.hid hs3.1
  have HB3 := Lib.hid (HB2.out.trans hs3.2 (fun g hg => .inl hg))
  clear hx3 hs3 z0 f0
  have C0 := Lib.hid (blk_cell HR3.out.s 0 rfl)
  have C1 := Lib.hid (blk_cell HR3.out.i 0 rfl)
  have Z0 := Lib.hid (blk_cell HR3.out.z i (szRow_get hi))
  rw [if_neg (Nat.lt_irrefl _), if_pos rfl] at Z0
  refine wp_game_tail 8 (List.replicate 9 0) [] B0 fin_B0 (has_B0 _) (by kernel_rfl) (by kernel_rfl) ?_
  simp only [List.take_succ_cons, List.take_zero]
  refine lex_quietE 8 (by kernel_rfl) (by rfl) ?_
  apply Exists.intro
  refine ⟨fun z hz => ?_, ?_⟩
  · have e0 := behind_cellXp hz C0.out (by simp)
    have e1 := behind_cellXp hz C1.out (by simp)
    have e2 := behind_cellXp hz Z0.out (by simp)
    clear hz
    simp only [List.take_succ_cons, List.take_zero]
    unfold Cx
    repeat (go_big_quiet_step (fail))
    exact wpQuiet_nil rfl
  simp only [List.drop_succ_cons, List.drop_zero]
  refine lex_nil ?_
  intro z2 hz _
  have HR4 := Lib.hid (HR3.out.later hz.below)
  have HB4 := Lib.hid (HB3.out.of_below hz.below)
  clear hz
  have z0 := blk_cell HR4.out.z i (szRow_get hi)
  rw [if_neg (Nat.lt_irrefl _), if_pos rfl] at z0
  have f0 := blk_free HR4.out.z i
  go_wp2_with fail
  have hs5 := HR4.out.set (c' := capI ((ptx gs (d ++ [.g k])).length)) (v := min ((c : Int) + (m : Int)) 1048577) (by rw [ptx_snoc_g, List.length_append]; have := HC.out; have := HM.out; unfold capI at *; omega)
  go_end0
  rw [HP.out]
  exact ⟨rfl, [zb], ⟨rfl, hs5.1⟩, HB4.out.trans hs5.2 (fun g hg => .inl hg), fun g hg => .inl hg⟩
theorem visSize {N : Nat} {n : Int} {gs : List Gt} {g : Gt} {i sb ib zb : Nat} (hok : OkG n gs i g) (hn : n ≤ 128) (hi : i < gs.length) (hN : N ≤ zb) : Vis N 15 (.pointer (some ⟨sb, 0, none⟩)) (.pointer (some ⟨ib, 0, none⟩)) (pcsI gs g) (SzJ gs i sb ib zb) where
  eg := fun args w => by go_simp
  later := fun d V x x' h hb => ⟨h.1, h.2.later hb⟩
  ge := fun d V x h b hb => by rw [h.1] at hb; simp at hb; omega
  vs := fun d t u rest V x hL h => gSize_s h hi t u (pcs_short (u := u) hok hn (by rw [hL]; simp))
  vg := fun d k rest V x hL h => by
    have hk := hok.ins k (pcsI_in hok (show Pc.g k ∈ pcsI gs g by rw [hL]; simp))
    obtain ⟨m, rfl⟩ : ∃ m : Nat, k = m := ⟨k.toNat, by omega⟩
    exact gSize_g h hi m (by omega)
end Go.Proofs.YtmaiofimmjedjaaDoor

/- Print: how a formula is written, gate by gate. -/
namespace Go.Proofs.YtmaiofimmjedjaaDoor
open Go.RowKit

structure WrJ (n : Int) (gs : List Gt) (a : Option Addr) (ca cb bb wb : Nat) (w0 : World) (N : Nat) (l : List UInt8) (V : List Nat) (x : World) : Prop where
  bu : ∃ v, V = bb :: rowBlk v ∧ BuV x bb l v
  c : x.heap[cb]? = some (.cells #[.int .i64 n, .slice a gs.length ca] 24 (0, 0))
  w : x.heap[wb]? = some (.cells #[.func (.func 16) #[] #[.pointer (some ⟨cb, 0, none⟩), .pointer (some ⟨bb, 0, none⟩), .pointer (some ⟨wb, 0, none⟩)]] 46 (0, 0))
  nc : cb ∉ V
  nw : wb ∉ V
  ge : ∀ g ∈ V, N ≤ g
  be : Below N w0 x
theorem WrJ.keep {n : Int} {gs : List Gt} {a : Option Addr} {ca cb bb wb N : Nat} {w0 : World} {l l' : List UInt8} {V V' : List Nat} {x x' : World} (h : WrJ n gs a ca cb bb wb w0 N l V x) (hB : Behind x V x') (hn : ∀ g ∈ V', g ∈ V ∨ x.heap.size ≤ g) (hN : N ≤ x.heap.size) (hb : ∃ v, V' = bb :: rowBlk v ∧ BuV x' bb l' v) : WrJ n gs a ca cb bb wb w0 N l' V' x' :=
  ⟨hb, hB.keep h.c h.nc, hB.keep h.w h.nw, fun hm => (hn _ hm).elim h.nc (fun e => by have := lt_of_heap h.c; omega), fun hm => (hn _ hm).elim h.nw (fun e => by have := lt_of_heap h.w; omega), fun g hg => (hn g hg).elim (h.ge g) (fun e => Nat.le_trans hN e), h.be.trans (hB.below_of h.ge hN)⟩
theorem WrJ.size {n : Int} {gs : List Gt} {a : Option Addr} {ca cb bb wb N : Nat} {w0 : World} {l : List UInt8} {V : List Nat} {x : World} (h : WrJ n gs a ca cb bb wb w0 N l V x) : N ≤ x.heap.size := by
  obtain ⟨v, hv, hb⟩ := h.bu
  obtain ⟨p, _, hk⟩ := hb.blk
  have h1 := lt_of_heap hk
  have h2 := h.ge bb (by rw [hv]; simp)
  omega
theorem WrJ.later {n : Int} {gs : List Gt} {a : Option Addr} {ca cb bb wb N : Nat} {w0 : World} {l : List UInt8} {V : List Nat} {x x' : World} (h : WrJ n gs a ca cb bb wb w0 N l V x) (hB : Below x.heap.size x x') : WrJ n gs a ca cb bb wb w0 N l V x' := by
  obtain ⟨v, hv, hb⟩ := h.bu
  exact ⟨⟨v, hv, hb.later hB⟩, (behind_of_below hB).keep h.c (by simp), (behind_of_below hB).keep h.w (by simp), h.nc, h.nw, h.ge, h.be.trans (hB.mono h.size)⟩
def Wrote2 (n : Int) (gs : List Gt) (a : Option Addr) (ca cb bb wb : Nat) (w0 : World) (N : Nat) (l : List UInt8) (V : List Nat) (x : World) (e : Ending) (x' : World) : Prop := e = .returned (.tuple #[]) ∧ ∃ V', WrJ n gs a ca cb bb wb w0 N l V' x' ∧ Behind x V x' ∧ ∀ g ∈ V', g ∈ V ∨ x.heap.size ≤ g
section
variable {n : Int} {gs : List Gt} {a : Option Addr} {ca cb bb wb N : Nat} {w0 : World} {l : List UInt8} {V : List Nat} {x : World}
theorem writeWr (h : WrJ n gs a ca cb bb wb w0 N l V x) (t : List UInt8) (hlen : l.length + t.length ≤ 1000000000) :
    Calls Tryd.prog 18 #[.pointer (some ⟨bb, 0, none⟩), .string ⟨t.toArray⟩] x fun e x' => e = .returned (.tuple #[.int .i64 t.length, .nilIface]) ∧ ∃ V', WrJ n gs a ca cb bb wb w0 N (l ++ t) V' x' ∧ Behind x V x' ∧ ∀ g ∈ V', g ∈ V ∨ x.heap.size ≤ g := by
  obtain ⟨v, hv, hb⟩ := h.bu
  refine (gWriteV bb l t v x hb hlen).mono ?_
  rintro e x' ⟨rfl, v', h1, h2, h3⟩
  rw [← hv] at h2
  have hn : ∀ g ∈ bb :: rowBlk v', g ∈ V ∨ x.heap.size ≤ g := fun g hg => by
    rw [hv]
    rcases List.mem_cons.1 hg with rfl | hg
    · exact .inl (by simp)
    · exact (h3 g hg).imp_left (fun e => by simp [e])
  exact ⟨rfl, bb :: rowBlk v', h.keep h2 hn h.size ⟨v', rfl, h1⟩, h2, hn⟩

set_option maxHeartbeats 3200000 in
set_option maxRecDepth 100000 in
theorem gWr_s (h : WrJ n gs a ca cb bb wb w0 N l V x) (t : List UInt8) (hlen : l.length + t.length ≤ 1000000000) :
    Calls Tryd.prog 17 #[.string ⟨t.toArray⟩, .int .i64 (-1), .pointer (some ⟨bb, 0, none⟩), .pointer (some ⟨wb, 0, none⟩)] x (Wrote2 n gs a ca cb bb wb w0 N (l ++ t) V x) := by
  obtain ⟨Post, hPost⟩ : ∃ P : Ending → World → Prop, P = Wrote2 n gs a ca cb bb wb w0 N (l ++ t) V x := ⟨_, rfl⟩
  rw [← hPost]
  have HP := Lib.hid hPost
  have KW := writeWr h t hlen
  obtain ⟨s, hs⟩ : ∃ s : ByteArray, s = ⟨t.toArray⟩ := ⟨_, rfl⟩
  rw [← hs] at KW ⊢
  clear hPost h hs
  go_enter Tryd.func17, Tryd.ntmps17
  go_wp2_with fail
  refine KW.mono ?_
  rintro e x' ⟨rfl, V', h1, h2, h3⟩
  have H1 := Lib.hid (show Wrote2 n gs a ca cb bb wb w0 N (l ++ t) V x (.returned (.tuple #[])) x' from ⟨rfl, V', h1, h2, h3⟩)
  clear h1 h2 h3 KW
  go_wp2_with fail
  go_end0
  rw [HP.out]
  exact H1.out

set_option maxHeartbeats 3200000 in
set_option maxRecDepth 100000 in
theorem gWr_g (h : WrJ n gs a ca cb bb wb w0 N l V x) (k : Nat) (t : List UInt8) (hlen : l.length ≤ 1000000000) (K : ∀ (V : List Nat) (x : World), WrJ n gs a ca cb bb wb w0 N l V x → Calls Tryd.prog 16 #[.int .i64 (k : Int), .pointer (some ⟨cb, 0, none⟩), .pointer (some ⟨bb, 0, none⟩), .pointer (some ⟨wb, 0, none⟩)] x (Wrote2 n gs a ca cb bb wb w0 N (l ++ t) V x)) :
    Calls Tryd.prog 17 #[.string ⟨#[]⟩, .int .i64 (k : Int), .pointer (some ⟨bb, 0, none⟩), .pointer (some ⟨wb, 0, none⟩)] x (Wrote2 n gs a ca cb bb wb w0 N (l ++ t) V x) := by
  obtain ⟨Post, hPost⟩ : ∃ P : Ending → World → Prop, P = Wrote2 n gs a ca cb bb wb w0 N (l ++ t) V x := ⟨_, rfl⟩
  rw [← hPost]
  have HP := Lib.hid hPost
  have KW := writeWr h [] (by simpa using hlen)
  rw [List.append_nil] at KW
  have hd0 : decide ((k : Int) ≥ 0) = true := decide_eq_true (by omega)
  have hd1 : decide ((0 : Int) ≤ (k : Int)) = true := decide_eq_true (by omega)
  clear hPost h
  go_enter Tryd.func17, Tryd.ntmps17
  go_wp2_with fail
  refine KW.mono ?_
  rintro e x1 ⟨rfl, V1, h1, h2, h3⟩
  have KK := K V1 x1 h1
  have c0 := blk_cell h1.w 0 rfl
  have HB1 := Lib.hid h2
  have HN1 := Lib.hid h3
  clear h1 h2 h3 KW K
  go_wp2_with fail
  refine KK.mono ?_
  rintro e x2 ⟨rfl, V2, h1, h2, h3⟩
  have H1 := Lib.hid (show Wrote2 n gs a ca cb bb wb w0 N (l ++ t) V x (.returned (.tuple #[])) x2 from ⟨rfl, V2, h1, HB1.out.trans h2 HN1.out, fun g hg => (h3 g hg).elim (HN1.out g) (fun e => .inr (Nat.le_trans HB1.out.size e))⟩)
  clear h1 h2 h3 KK c0
  go_wp2_with fail
  go_end0
  rw [HP.out]
  exact H1.out
end

theorem visWr {n : Int} {gs : List Gt} {a : Option Addr} {ca cb bb wb N : Nat} {w0 : World} {g : Gt} {i : Nat} (pre : List UInt8) (hok : OkG n gs i g) (hlen : pre.length + (ptx gs (pcsI gs g)).length ≤ 1000000000)
    (K : ∀ (k : Nat), k < i → ∀ (l : List UInt8), l.length + (TX gs k).length ≤ 1000000000 → ∀ (V : List Nat) (x : World), WrJ n gs a ca cb bb wb w0 N l V x → Calls Tryd.prog 16 #[.int .i64 (k : Int), .pointer (some ⟨cb, 0, none⟩), .pointer (some ⟨bb, 0, none⟩), .pointer (some ⟨wb, 0, none⟩)] x (Wrote2 n gs a ca cb bb wb w0 N (l ++ TX gs k) V x)) :
    Vis N 17 (.pointer (some ⟨bb, 0, none⟩)) (.pointer (some ⟨wb, 0, none⟩)) (pcsI gs g) (fun d V x => WrJ n gs a ca cb bb wb w0 N (pre ++ ptx gs d) V x) where
  eg := fun args w => by go_simp
  later := fun d V x x' h hb => h.later hb
  ge := fun d V x h b hb => h.ge b hb
  vs := fun d t u rest V x hL h => by
    have e : pre ++ ptx gs (d ++ [.s t u]) = (pre ++ ptx gs d) ++ t := by rw [ptx_snoc_s, List.append_assoc]
    have hl : (pre ++ ptx gs d).length + t.length ≤ 1000000000 := by
      rw [hL, show d ++ Pc.s t u :: rest = (d ++ [.s t u]) ++ rest by simp, ptx_app, ptx_snoc_s] at hlen
      simp only [List.length_append] at hlen ⊢
      omega
    refine (gWr_s h t hl).mono ?_
    rintro e2 x' ⟨rfl, V', h1, h2, h3⟩
    exact ⟨rfl, V', by show WrJ n gs a ca cb bb wb w0 N _ V' x'; rw [e]; exact h1, h2, h3⟩
  vg := fun d k rest V x hL h => by
    have hk := hok.ins k (pcsI_in hok (show Pc.g k ∈ pcsI gs g by rw [hL]; simp))
    obtain ⟨m, rfl⟩ : ∃ m : Nat, k = m := ⟨k.toNat, by omega⟩
    have e : pre ++ ptx gs (d ++ [.g m]) = (pre ++ ptx gs d) ++ TX gs m := by rw [ptx_snoc_g, List.append_assoc]
    have hl : (pre ++ ptx gs d).length + (TX gs m).length ≤ 1000000000 := by
      rw [hL, show d ++ Pc.g (m : Int) :: rest = (d ++ [.g m]) ++ rest by simp, ptx_app, ptx_snoc_g] at hlen
      simp only [List.length_append] at hlen ⊢
      omega
    refine (gWr_g h m (TX gs m) (by omega) (fun V x hx => K m (by omega) _ hl V x hx)).mono ?_
    rintro e2 x' ⟨rfl, V', h1, h2, h3⟩
    exact ⟨rfl, V', by show WrJ n gs a ca cb bb wb w0 N _ V' x'; rw [e]; exact h1, h2, h3⟩

theorem ins_size : ∀ {gs : List Gt} {g : Gt}, g ∈ gs → g.ins.length ≤ sizeI gs
  | x :: gs, g, h => by
    rcases List.mem_cons.1 h with rfl | h
    · simp [sizeI]
    · have := ins_size h
      simp only [sizeI, List.map_cons, List.sum_cons] at this ⊢
      omega
theorem rowBlk_lt {x : World} {E : TypeId} {z : Nat} {v : Value} {n : Nat} {xs : List Value} (h : RowV (inW x) E z v n xs) : ∀ b ∈ rowBlk v, b < x.heap.size := by
  cases h with
  | nil => intro b hb; simp [rowBlk] at hb
  | row h => intro b hb; simp [rowBlk] at hb; subst hb; exact lt_of_heap h.blk
theorem WrJ.vl {n : Int} {gs : List Gt} {a : Option Addr} {ca cb bb wb N : Nat} {w0 : World} {l : List UInt8} {V : List Nat} {x : World} (h : WrJ n gs a ca cb bb wb w0 N l V x) : ∀ b ∈ V, b < x.heap.size := by
  obtain ⟨v, rfl, hb⟩ := h.bu
  obtain ⟨p, _, hk⟩ := hb.blk
  intro b hm
  rcases List.mem_cons.1 hm with rfl | hm
  · exact lt_of_heap hk
  · exact rowBlk_lt hb.row b hm

set_option maxHeartbeats 3200000 in
set_option maxRecDepth 100000 in
theorem gWrite2 {n : Int} {gs : List Gt} {a : Option Addr} {ca cb bb wb N : Nat} {w0 : World} (hok : Ok n gs) (hn : n ≤ 128) (hC : CircAt N w0 a gs) (hgl : gs.length ≤ 4096) (hsz : sizeI gs ≤ 65536) (hV : ∀ x, Below N w0 x → VarsI x) :
    ∀ (i : Nat), i < gs.length → ∀ (l : List UInt8), l.length + (TX gs i).length ≤ 1000000000 → ∀ (V : List Nat) (x : World), WrJ n gs a ca cb bb wb w0 N l V x → Calls Tryd.prog 16 #[.int .i64 (i : Int), .pointer (some ⟨cb, 0, none⟩), .pointer (some ⟨bb, 0, none⟩), .pointer (some ⟨wb, 0, none⟩)] x (Wrote2 n gs a ca cb bb wb w0 N (l ++ TX gs i) V x) := by
  intro i
  induction i using Nat.strongRecOn with
  | ind i ih =>
  intro hi l hlen V x h
  obtain ⟨g, hg⟩ : ∃ g, gs[i]? = some g := ⟨_, List.getElem?_eq_getElem hi⟩
  have hgk := hok i g hg
  have hTX : TX gs i = ptx gs (pcsI gs g) := TX_eq hok hg
  obtain ⟨b, o, ip, ic, hb, ea, k0, k1, k2, hin⟩ := (hC.below h.be (Nat.le_refl _)) i g hg
  subst ea
  have key : ∀ z, Below x.heap.size x z → Calls Tryd.prog 14 #[.agg #[.int .i64 n, .slice (some ⟨b, o, none⟩) gs.length ca], .agg #[.int .i64 g.k, .int .i64 g.lit, .slice ip g.ins.length ic], .func (.func 17) #[] #[.pointer (some ⟨bb, 0, none⟩), .pointer (some ⟨wb, 0, none⟩)]] z (Wrote2 n gs (some ⟨b, o, none⟩) ca cb bb wb w0 N (l ++ TX gs i) V x) := fun z hz => by
    have hj := h.later hz
    have hP : PcH N 17 (.pointer (some ⟨bb, 0, none⟩)) (.pointer (some ⟨wb, 0, none⟩)) n gs (some ⟨b, o, none⟩) g i ip (fun d V x => WrJ n gs (some ⟨b, o, none⟩) ca cb bb wb w0 N (l ++ ptx gs d) V x) V z :=
      ⟨visWr l hgk (by rw [← hTX]; exact hlen) (fun k hk l' hl V x hx => ih k hk (by omega) l' hl V x hx), by simpa [ptx] using hj, hj.vl, hj.size, hC.below hj.be (Nat.le_refl _), hin.below (hz.mono h.size) (Nat.le_refl _), hgk, hi, hgl, Nat.le_trans (ins_size (List.mem_of_getElem? hg)) hsz, hn, fun y hy => hV y (hj.be.trans hy)⟩
    refine (gPieces hP ca ic).mono ?_
    rintro e x' ⟨rfl, V', h1, h2, h3⟩
    rw [hTX]
    exact ⟨rfl, V', h1, (behind_of_below hz).mono (by simp) |>.trans h2 (fun g hg => .inl hg), fun g hg => (h3 g hg).imp_right (fun e => Nat.le_trans hz.size e)⟩
  have C0 := Lib.hid (blk_cell h.c 0 rfl)
  have C1 := Lib.hid (blk_cell h.c 1 rfl)
  have K0 := Lib.hid k0
  have K1 := Lib.hid k1
  have K2 := Lib.hid k2
  have HK := Lib.hid key
  obtain ⟨Post, hPost⟩ : ∃ P : Ending → World → Prop, P = Wrote2 n gs (some ⟨b, o, none⟩) ca cb bb wb w0 N (l ++ TX gs i) V x := ⟨_, rfl⟩
  rw [← hPost] at HK ⊢
  have HP := Lib.hid hPost
  clear ih h hgk hTX hin key k0 k1 k2 hC hok hV hg hPost
  go_enter Tryd.func16, Tryd.ntmps16
  go_upto_region 0 with fail
  refine wp_game_tail 7 (List.replicate 8 0) [] B0 fin_B0 (has_B0 _) (by kernel_rfl) (by kernel_rfl) ?_
  simp only [List.take_succ_cons, List.take_zero]
  refine lex_quietE 7 (by kernel_rfl) (by rfl) ?_
  apply Exists.intro
  refine ⟨fun z hz => ?_, ?_⟩
  · have e0 := behind_cellXp hz C0.out (by simp)
    have e1 := behind_cellXp hz C1.out (by simp)
    have e2 := behind_cellXp hz K0.out (by simp)
    have e3 := behind_cellXp hz K1.out (by simp)
    have e4 := behind_cellXp hz K2.out (by simp)
    clear hz
    simp only [List.take_succ_cons, List.take_zero]
    unfold Cx
    repeat (go_big_quiet_step (fail))
    exact wpQuiet_nil rfl
  simp only [List.drop_succ_cons, List.drop_zero]
  refine lex_nil ?_
  intro z hz _
  have KP := HK.out z hz.below
  clear hz HK
  go_wp2_with fail
  refine KP.mono ?_
  intro e y h1
  have he : e = .returned (.tuple #[]) := by rw [HP.out] at h1; exact h1.1
  subst he
  have H1 := Lib.hid h1
  clear h1 KP
  go_wp2_with fail
  go_end0
  exact H1.out
end Go.Proofs.YtmaiofimmjedjaaDoor

/- The program's Print. -/
namespace Go.Proofs.YtmaiofimmjedjaaDoor
open Go.RowKit

theorem Tryd.infoIntP : (Tryd.prog.info? 3).map (fun i => (i.zero, i.size, i.bytes)) = some (some (.int .i64 0), 1, 8) := by kernel_rfl
theorem made_row (gs : List Gt) : madeCells (Value.int .i64 0).cells gs.length = szRow gs 0 0 := by
  apply Array.ext_getElem?
  intro j
  by_cases hj : j < gs.length
  · rw [szRow_get hj]
    have e : (if j < 0 then capI (TX gs j).length else if j = 0 then 0 else 0 : Nat) = 0 := by rw [if_neg (by omega)]; split <;> rfl
    rw [e]
    simp [madeCells, hj, Value.cells, Nat.mod_one]
  · rw [Array.getElem?_eq_none (by simp [madeCells]; omega), Array.getElem?_eq_none (by simp [szRow]; omega)]
theorem made_sizes (gs : List Gt) (hl : gs.length ≤ 4096) (w : World) : (Instr.makeSlice 31 (.int .i64 (gs.length : Int)) (.int .i64 (gs.length : Int))).run Tryd.prog w = .ok (.slice (some ⟨w.heap.size, 0, none⟩) gs.length gs.length) (w.alloc (.cells (szRow gs 0 0) 3)) := by
  obtain ⟨i0, ii, iz0, iz1, iz2⟩ := info_parts Tryd.infoIntP
  have h := run_makeSlice (P := Tryd.prog) (w := w) 31 3 i0 (.int .i64 0) Tryd.underlying31 ii iz0 .i64 .i64 (gs.length : Int) (gs.length : Int) (by omega) (by omega) (by rw [iz1, Int.toNat_natCast]; omega) (by rw [iz2]; omega) (by omega)
  rw [iz1, Int.toNat_natCast, Nat.mul_one, made_row] at h
  exact h
structure SzL (n : Int) (gs : List Gt) (a : Option Addr) (ca : Nat) (w : World) (cb sb zb i : Nat) (x : World) : Prop where
  z : x.heap[zb]? = some (.cells (szRow gs i 0) 3 (0, 0))
  s : x.heap[sb]? = some (.cells #[.slice (some ⟨zb, 0, none⟩) gs.length gs.length] 31 (0, 0))
  c : x.heap[cb]? = some (.cells #[.int .i64 n, .slice a gs.length ca] 24 (0, 0))
  b : Below w.heap.size w x
  ns : sb ≠ zb
  nc : cb ≠ zb
  ge : w.heap.size ≤ zb

set_option maxHeartbeats 6400000 in
set_option maxRecDepth 100000 in
theorem gPrint (n : Int) (gs : List Gt) (a : Option Addr) (ca : Nat) (w : World) (hC : CircAt w.heap.size w a gs) (hf : Fits gs) (hl : gs.length ≤ 140737488355328) (hV : VarsI w) :
    Calls Tryd.prog 7 #[.agg #[.int .i64 n, .slice a gs.length ca]] w fun e w' => e = .returned (.tuple #[.string ⟨(printI n gs).1.toArray⟩, .int .i64 (printI n gs).2]) ∧ Below w.heap.size w w' := by
  obtain ⟨R, hR⟩ : ∃ R, R = printI n gs := ⟨_, rfl⟩
  rw [← hR]
  have HR := Lib.hid (show R = if checkI n gs ≠ 0 then ([], checkI n gs) else if 1048576 < (TX gs ((gs.length : Nat) - 1 : Nat)).length then ([], 2) else (TX gs ((gs.length : Nat) - 1 : Nat), 0) from hR)
  obtain ⟨Post, hPost⟩ : ∃ P : Ending → World → Prop, P = fun e w' => e = .returned (.tuple #[.string ⟨R.1.toArray⟩, .int .i64 R.2]) ∧ Below w.heap.size w w' := ⟨_, rfl⟩
  rw [← hPost]
  have HP := Lib.hid hPost
  have HC := Lib.hid hC
  have HV := Lib.hid hV
  clear hPost hR hC hV
  go_enter Tryd.func7, Tryd.ntmps7
  go_upto_region 1 with fail
  refine wp_gen ?_
  intro w1 hw1
  have S1 := Lib.hid (show w1.heap[w.heap.size]? = some (.cells #[.int .i64 n, .slice a gs.length ca] 24 (0, 0)) by rw [hw1]; exact new_one _ _)
  have HB1 := Lib.hid (show Below w.heap.size w w1 by rw [hw1]; exact below_one _ _)
  clear hw1
  have KC := gCheck n gs a ca w1 (HC.out.later HB1.out) hf hl
  have q0 := blk_cell S1.out 0 rfl
  have q1 := blk_cell S1.out 1 rfl
  go_wp2_with fail
  refine KC.mono ?_
  rintro e w2 ⟨rfl, hB⟩
  have HB2 := Lib.hid (HB1.out.trans (hB.mono HB1.out.size))
  have S2 := Lib.hid ((behind_of_below hB).keep S1.out (by simp))
  clear hB KC q0 q1 S1 HB1
  by_cases hck : checkI n gs ≠ 0
  · have hb1 : (checkI n gs != 0) = true := by simp [bne, beq_no hck]
    have HF := Lib.hid (HR.out.trans (if_pos hck))
    clear hck HR
    go_wp2_with fail
    rw [HP.out, HF.out]
    exact ⟨rfl, HB2.out⟩
  have hb1 : (checkI n gs != 0) = false := by simp at hck; simp [hck]
  obtain ⟨h0, h128, hlen, hsize, hne, hok⟩ := check_ok (Decidable.not_not.1 hck)
  have HR2 := Lib.hid (HR.out.trans (if_neg hck))
  have HOK := Lib.hid hok
  have HSZ := Lib.hid hsize
  obtain ⟨m, hm⟩ : ∃ m, gs.length = m + 1 := ⟨gs.length - 1, by have := List.length_pos_iff.2 hne; omega⟩
  have HM := Lib.hid hm
  clear hck HR hok hsize hne hm
  have q0 := blk_cell S2.out 0 rfl
  have q1 := blk_cell S2.out 1 rfl
  go_upto_region 4 with fail
  have hmk := made_sizes gs hlen
  go_upto_region 5 with fail
  clear hmk
  refine wp_gen ?_
  intro w3 hw3
  have HL3 := Lib.hid (show SzL n gs a ca w w.heap.size (w2.heap.size + 1) w2.heap.size 0 w3 by
    have hb3 := below_two w2 (.cells (szRow gs 0 0) 3 (0, 0)) (.cells #[.slice (some ⟨w2.heap.size, 0, none⟩) gs.length gs.length] 31 (0, 0))
    have e1 := new_two1 w2 (.cells (szRow gs 0 0) 3 (0, 0)) (.cells #[.slice (some ⟨w2.heap.size, 0, none⟩) gs.length gs.length] 31 (0, 0))
    have e2 := new_two2 w2 (.cells (szRow gs 0 0) 3 (0, 0)) (.cells #[.slice (some ⟨w2.heap.size, 0, none⟩) gs.length gs.length] 31 (0, 0))
    rw [← hw3] at hb3 e1 e2
    have hlt := lt_of_heap S2.out
    exact ⟨e1, e2, (behind_of_below hb3).keep S2.out (by simp), HB2.out.trans (hb3.mono HB2.out.size), by omega, by omega, HB2.out.size⟩)
  clear hw3 q0 q1
  have q0 := blk_cell HL3.out.c 0 rfl
  have q1 := blk_cell HL3.out.c 1 rfl
  go_wp2_with fail
  go_loopw [23] (fun t23 wr => ∃ i : Nat, i ≤ gs.length ∧ t23 = .int .i64 i ∧ Hid (SzL n gs a ca w w.heap.size (w2.heap.size + 1) w2.heap.size i wr)) (fun t23 _ => gs.length - (intOf t23).toNat)
  case atStart => exact ⟨0, Nat.zero_le _, rfl, HL3.out⟩
  case round =>
    obtain ⟨i, hi, rfl, HL⟩ := hrel
    by_cases hlt : i < gs.length
    · have hdd : decide ((i : Int) < (gs.length : Int)) = true := decide_eq_true (by omega)
      have hdd2 : decide (i < gs.length) = true := decide_eq_true hlt
      obtain ⟨g, hg⟩ : ∃ g, gs[i]? = some g := ⟨_, List.getElem?_eq_getElem hlt⟩
      have HG := Lib.hid hg
      obtain ⟨b, o, ip, ic, hb, ea, k0, k1, k2, hin⟩ := (HC.out.below HL.out.b (Nat.le_refl _)) i g hg
      have HIN := Lib.hid hin
      clear hg hin q0 q1
      have q0 := blk_cell HL.out.c 0 rfl
      have q1 := blk_cell HL.out.c 1 rfl
      subst ea
      go_upto_region 8 with fail
      refine wp_gen ?_
      intro w4 hw4
      have e1 := new_two1 wr (.cells #[.int .i64 (i : Int)] 3 (0, 0)) (.cells #[.int .i64 g.k, .int .i64 g.lit, .slice ip g.ins.length ic] 37 (0, 0))
      have e2 := new_two2 wr (.cells #[.int .i64 (i : Int)] 3 (0, 0)) (.cells #[.int .i64 g.k, .int .i64 g.lit, .slice ip g.ins.length ic] 37 (0, 0))
      have hb4 := below_two wr (.cells #[.int .i64 (i : Int)] 3 (0, 0)) (.cells #[.int .i64 g.k, .int .i64 g.lit, .slice ip g.ins.length ic] 37 (0, 0))
      rw [← hw4] at e1 e2 hb4
      have k1' := (behind_of_below hb4).keep HL.out.z (by simp)
      have k2' := (behind_of_below hb4).keep HL.out.s (by simp)
      have k3' := (behind_of_below hb4).keep HL.out.c (by simp)
      have hbw := HL.out.b.trans (hb4.mono HL.out.b.size)
      have hzl := lt_of_heap HL.out.z
      have hR4 : SzR gs i (w2.heap.size + 1) wr.heap.size w2.heap.size 0 w4 := ⟨k1', k2', e1, by omega, by omega⟩
      have hP : PcH w.heap.size 15 (.pointer (some ⟨w2.heap.size + 1, 0, none⟩)) (.pointer (some ⟨wr.heap.size, 0, none⟩)) n gs (some ⟨b, o, none⟩) g i ip (SzJ gs i (w2.heap.size + 1) wr.heap.size w2.heap.size) [w2.heap.size] w4 :=
        ⟨visSize (HOK.out i g HG.out) h128 hlt HL.out.ge, ⟨rfl, hR4⟩, fun b hb => by have := hb4.size; simp at hb; omega, hbw.size, HC.out.below hbw (Nat.le_refl _), HIN.out.below (hb4.mono HL.out.b.size) (Nat.le_refl _), HOK.out i g HG.out, hlt, hlen, Nat.le_trans (ins_size (List.mem_of_getElem? HG.out)) HSZ.out, h128, fun y hy => HV.out.below (hbw.trans hy)⟩
      have KP := gPieces hP ca ic
      unfold visV at KP
      have HK4 := Lib.hid k3'
      have HBW := Lib.hid hbw
      clear hw4 hR4 hP e1 k1' k2' k3' hbw hb4 k0 k1 k2 q0 q1
      have q0 := blk_cell HK4.out 0 rfl
      have q1 := blk_cell HK4.out 1 rfl
      have g0 := blk_cell e2 0 rfl
      have g1 := blk_cell e2 1 rfl
      have g2 := blk_cell e2 2 rfl
      clear e2
      go_wp2_with fail
      refine KP.mono ?_
      rintro e w5 ⟨rfl, V5, ⟨rfl, hR5⟩, hB5, _⟩
      have hT : (ptx gs (pcsI gs g)).length = (TX gs i).length := by rw [show TX gs i = ptx gs (pcsI gs g) from TX_eq HOK.out HG.out]
      rw [hT] at hR5
      have HL5 := Lib.hid (show SzL n gs (some ⟨b, o, none⟩) ca w w.heap.size (w2.heap.size + 1) w2.heap.size (i + 1) w5 from ⟨by rw [← szRow_next]; exact hR5.z, hR5.s, hB5.keep HK4.out (by simp [HL.out.nc]), HBW.out.trans (hB5.below_of (fun k hk => by simp at hk; rw [hk]; exact HL.out.ge) HBW.out.size), HL.out.ns, HL.out.nc, HL.out.ge⟩)
      clear hR5 hB5 hT KP q0 q1 g0 g1 g2
      go_wp2_with fail
      go_roundw
      case rel => exact ⟨i + 1, by omega, by go_num, HL5.out⟩
      case measure => simp [intOf]; omega
    · obtain rfl : i = gs.length := by omega
      have hdd : decide ((gs.length : Int) < (gs.length : Int)) = false := by simp
      have hm := HM.out
      obtain ⟨L, hL⟩ : ∃ L, L = (TX gs m).length := ⟨_, rfl⟩
      have z0 := blk_cell HL.out.z m (szRow_get (by omega))
      rw [if_pos (by omega), ← hL] at z0
      clear q0 q1
      have q0 := blk_cell HL.out.c 0 rfl
      have q1 := blk_cell HL.out.c 1 rfl
      have q2 := blk_cell HL.out.s 0 rfl
      have hmi : ((gs.length : Int) - 1) = (m : Int) := by omega
      have hml : m < gs.length := by omega
      have HHL := Lib.hid hL
      clear hm hL
      go_upto_region 11 with fail
      have HMI := Lib.hid hmi
      clear hmi
      have HRX := Lib.hid (show R = if 1048576 < L then ([], 2) else (TX gs m, 0) by
        have := HR2.out
        rw [show ((gs.length : Nat) - 1 : Nat) = m by have := HM.out; omega, ← HHL.out] at this
        exact this)
      have hcb : (1048576 < capI L) = (1048576 < L) := capI_big L
      obtain ⟨cp, hcp⟩ : ∃ cp, cp = capI L := ⟨_, rfl⟩
      rw [← hcp] at z0 hcb
      by_cases hbig : 1048576 < L
      · have hd : decide ((1048576 : Int) < (cp : Int)) = true := decide_eq_true (by rw [← hcb] at hbig; omega)
        have hd2 : decide (1048576 < cp) = true := decide_eq_true (by rw [← hcb] at hbig; omega)
        have HF := Lib.hid (HRX.out.trans (if_pos hbig))
        clear hcb hcp hbig
        go_wp2_with fail
        rw [HP.out, HF.out]
        exact ⟨rfl, HL.out.b⟩
      · have hd : decide ((1048576 : Int) < (cp : Int)) = false := decide_eq_false (by rw [← hcb] at hbig; omega)
        have hd2 : decide (1048576 < cp) = false := decide_eq_false (by rw [← hcb] at hbig; omega)
        have HF := Lib.hid (HRX.out.trans (if_neg hbig))
        have HLL := Lib.hid (show (TX gs m).length ≤ 1048576 by have := HHL.out; omega)
        clear hcb hcp hbig
        go_upto_region 14 with fail
        refine wp_gen ?_
        intro w6 hw6
        have e1 := new_one wr (.cells #[.pointer none, .slice none 0 0] 45 (0, 0))
        have b1 := below_one wr (.cells #[.pointer none, .slice none 0 0] 45 (0, 0))
        rw [← hw6] at e1 b1
        have hs6 := Lib.hid (show w6.heap.size = wr.heap.size + 1 by rw [hw6]; simp)
        clear hw6
        have hc := blk_cell (new_one w6 (Obj.cells #[Value.nilFunc] 46)) 0 rfl
        have hf := blk_free (new_one w6 (Obj.cells #[Value.nilFunc] 46)) 0
        go_upto_region 16 with fail
        clear hc hf
        refine wp_gen ?_
        intro w7 hw7
        have e2 := new_one w6 (.cells #[.func (.func 16) #[] #[.pointer (some ⟨w.heap.size, 0, none⟩), .pointer (some ⟨wr.heap.size, 0, none⟩), .pointer (some ⟨w6.heap.size, 0, none⟩)]] 46 (0, 0))
        have b2 := below_one w6 (.cells #[.func (.func 16) #[] #[.pointer (some ⟨w.heap.size, 0, none⟩), .pointer (some ⟨wr.heap.size, 0, none⟩), .pointer (some ⟨w6.heap.size, 0, none⟩)]] 46 (0, 0))
        rw [← hw7] at e2 b2
        have hcl := lt_of_heap HL.out.c
        have hJ : WrJ n gs a ca w.heap.size wr.heap.size w6.heap.size w w.heap.size [] [wr.heap.size] w7 :=
          ⟨⟨.slice none 0 0, rfl, ⟨⟨.pointer none, .inl rfl, (behind_of_below b2).keep e1 (by simp)⟩, .nil, by simp [rowBlk]⟩⟩, (behind_of_below b2).keep ((behind_of_below b1).keep HL.out.c (by simp)) (by simp), e2, by simp; omega, by simp; have := hs6.out; omega, fun g hg => by simp at hg; rw [hg]; exact HL.out.b.size, HL.out.b.trans ((b1.mono HL.out.b.size).trans (b2.mono (Nat.le_trans HL.out.b.size b1.size)))⟩
        have KW := gWrite2 HOK.out h128 HC.out hlen HSZ.out (fun y hy => HV.out.below hy) m hml [] (by have := HLL.out; simp; omega) _ _ hJ
        rw [List.nil_append] at KW
        have x0 := blk_cell e2 0 rfl
        clear hw7 e1 e2 b1 b2 hcl hJ z0 q0 q1 q2
        go_wp2_with fail
        refine KW.mono ?_
        rintro e w8 ⟨rfl, V8, h8, _, _⟩
        obtain ⟨v8, hv8, hbu⟩ := h8.bu
        have hge : ∀ b ∈ wr.heap.size :: rowBlk v8, w.heap.size ≤ b := by rw [← hv8]; exact h8.ge
        have KS := gStrV wr.heap.size (TX gs m) v8 w8 hbu (by obtain ⟨_, _, hk⟩ := hbu.blk; exact lt_of_heap hk)
        have HB8 := Lib.hid h8.be
        have HGE := Lib.hid hge
        clear h8 hbu hv8 hge KW x0
        go_wp2_with fail
        refine KS.mono ?_
        rintro e w9 ⟨rfl, B, hB1, hB2, hB9⟩
        have HB9 := Lib.hid (show Below w.heap.size w w9 from HB8.out.trans (hB9.mono (hB2 _ (HGE.out _ (by simp)) (fun g hg => HGE.out g (by simp [hg])))))
        clear hB1 hB2 hB9 KS
        go_wp2_with fail
        rw [HP.out, HF.out]
        exact ⟨rfl, HB9.out⟩
end Go.Proofs.YtmaiofimmjedjaaDoor
