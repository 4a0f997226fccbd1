/- Texts of this claim, joined: HQ2. -/
import Derived.Test.YtmaiofimmjedjaaDoorMW28
import Derived.Test.YtmaiofimmjedjaaDoorMW27
import Derived.Deep.DeepCutAuto

/- The reference's formulas: a gate is written. -/
namespace Go.Proofs.YtmaiofimmjedjaaDoor
open Go.RowKit

theorem add_str {x y : ByteArray} {lx ly : List UInt8} (hx : x = ⟨lx.toArray⟩) (hy : y = ⟨ly.toArray⟩) (h : lx.length + ly.length ≤ 100000000000) : ∃ z : ByteArray, z = ⟨(lx ++ ly).toArray⟩ ∧ ∀ w, (Op.stringOp .add x y).run Tryd.prog w = .ok (.string z) w := by
  refine ⟨x ++ y, by rw [hx, hy, ba_app], fun w => run_string_add_sum w _ _ ?_⟩
  rw [hx, hy, ba_size, ba_size]; omega
structure WrH (n : Int) (gs : List Gt) (a : Option Addr) (g : Gt) (i : Nat) (ip pk : Option Addr) (w : World) : Prop where
  c : CircAt w.heap.size w a gs
  ins : AtN w.heap.size w ip (ints g.ins)
  kn : ∀ k : Nat, (k : Int) ∈ g.ins → ∃ b o, b < w.heap.size ∧ pk = some ⟨b, o, none⟩ ∧ w.cell? ⟨b, o + k, none⟩ = some (.string ⟨(TX gs k).toArray⟩)
  ok : OkG n gs i g
  hi : i < gs.length
  sz : ∀ k ∈ g.ins, (TX gs k).length ≤ 1048576
  il : g.ins.length ≤ 65536
  n128 : n ≤ 128
  gl : gs.length ≤ 4096
theorem WrH.later {n : Int} {gs : List Gt} {a : Option Addr} {g : Gt} {i : Nat} {ip pk : Option Addr} {w w' : World} (h : WrH n gs a g i ip pk w) (hb : Below w.heap.size w w') : WrH n gs a g i ip pk w' :=
  ⟨h.c.later hb, (h.ins.below hb (Nat.le_refl _)).mono hb.size, fun k hk => by
    obtain ⟨b, o, h1, h2, h3⟩ := h.kn k hk
    exact ⟨b, o, Nat.lt_of_lt_of_le h1 hb.size, h2, below_cell hb h1 h3⟩, h.ok, h.hi, h.sz, h.il, h.n128, h.gl⟩

set_option maxHeartbeats 6400000 in
set_option maxRecDepth 100000 in
theorem xWrite_zero {n : Int} {gs : List Gt} {a : Option Addr} {g : Gt} {i : Nat} {ip pk : Option Addr} {w : World} (h : WrH n gs a g i ip pk w) (ca ic ck : Nat) (hk : g.k = 0) (hpc : ptx gs (pcsI gs g) = [48]) :
    Calls Tryd.prog 21 #[.agg #[.int .i64 n, .slice a gs.length ca], .agg #[.int .i64 g.k, .int .i64 g.lit, .slice ip g.ins.length ic], .slice pk i ck] w fun e w' => e = .returned (.string ⟨(ptx gs (pcsI gs g)).toArray⟩) ∧ Below w.heap.size w w' := by
  obtain ⟨Post, hPost⟩ : ∃ P : Ending → World → Prop, P = fun e w' => e = .returned (.string ⟨(ptx gs (pcsI gs g)).toArray⟩) ∧ Below w.heap.size w w' := ⟨_, rfl⟩
  rw [← hPost]
  have HP := Lib.hid (show ∀ (z : ByteArray) (l : List UInt8) (w' : World), z = ⟨l.toArray⟩ → ptx gs (pcsI gs g) = l → Below w.heap.size w w' → Post (.returned (.string z)) w' from fun z l w' h1 h2 hb => by rw [hPost, h1, h2]; exact ⟨rfl, hb⟩)
  have H := Lib.hid h
  have HPC := Lib.hid hpc
  clear hPost h hpc
  have HKD := Lib.hid hk
  clear hk
  go_enter Tryd.func21, Tryd.ntmps21
  go_upto_region 1 with fail
  refine wp_gen ?_
  intro w1 hw1
  have A1 := Lib.hid (show w1.heap[w.heap.size]? = some (.cells #[.int .i64 n, .slice a gs.length ca] 24 (0, 0)) by rw [hw1]; exact new_two1 _ _ _)
  have G1 := Lib.hid (show w1.heap[w.heap.size + 1]? = some (.cells #[.int .i64 g.k, .int .i64 g.lit, .slice ip g.ins.length ic] 37 (0, 0)) by rw [hw1]; exact new_two2 _ _ _)
  have HB1 := Lib.hid (show Below w.heap.size w w1 by rw [hw1]; exact below_two _ _ _)
  have H1 := Lib.hid (H.out.later HB1.out)
  clear hw1
  have g0 := blk_cell G1.out 0 rfl
  rw [HKD.out] at g0
  go_wp2_with fail
  exact HP.out ⟨#[48]⟩ [48] _ rfl HPC.out HB1.out

set_option maxHeartbeats 6400000 in
set_option maxRecDepth 100000 in
theorem xWrite_one {n : Int} {gs : List Gt} {a : Option Addr} {g : Gt} {i : Nat} {ip pk : Option Addr} {w : World} (h : WrH n gs a g i ip pk w) (ca ic ck : Nat) (hk : g.k = 1) (hpc : ptx gs (pcsI gs g) = [49]) :
    Calls Tryd.prog 21 #[.agg #[.int .i64 n, .slice a gs.length ca], .agg #[.int .i64 g.k, .int .i64 g.lit, .slice ip g.ins.length ic], .slice pk i ck] w fun e w' => e = .returned (.string ⟨(ptx gs (pcsI gs g)).toArray⟩) ∧ Below w.heap.size w w' := by
  obtain ⟨Post, hPost⟩ : ∃ P : Ending → World → Prop, P = fun e w' => e = .returned (.string ⟨(ptx gs (pcsI gs g)).toArray⟩) ∧ Below w.heap.size w w' := ⟨_, rfl⟩
  rw [← hPost]
  have HP := Lib.hid (show ∀ (z : ByteArray) (l : List UInt8) (w' : World), z = ⟨l.toArray⟩ → ptx gs (pcsI gs g) = l → Below w.heap.size w w' → Post (.returned (.string z)) w' from fun z l w' h1 h2 hb => by rw [hPost, h1, h2]; exact ⟨rfl, hb⟩)
  have H := Lib.hid h
  have HPC := Lib.hid hpc
  clear hPost h hpc
  have HKD := Lib.hid hk
  clear hk
  go_enter Tryd.func21, Tryd.ntmps21
  go_upto_region 1 with fail
  refine wp_gen ?_
  intro w1 hw1
  have A1 := Lib.hid (show w1.heap[w.heap.size]? = some (.cells #[.int .i64 n, .slice a gs.length ca] 24 (0, 0)) by rw [hw1]; exact new_two1 _ _ _)
  have G1 := Lib.hid (show w1.heap[w.heap.size + 1]? = some (.cells #[.int .i64 g.k, .int .i64 g.lit, .slice ip g.ins.length ic] 37 (0, 0)) by rw [hw1]; exact new_two2 _ _ _)
  have HB1 := Lib.hid (show Below w.heap.size w w1 by rw [hw1]; exact below_two _ _ _)
  have H1 := Lib.hid (H.out.later HB1.out)
  clear hw1
  have g0 := blk_cell G1.out 0 rfl
  rw [HKD.out] at g0
  go_wp2_with fail
  exact HP.out ⟨#[49]⟩ [49] _ rfl HPC.out HB1.out

set_option maxHeartbeats 6400000 in
set_option maxRecDepth 100000 in
theorem xWrite_litn {n : Int} {gs : List Gt} {a : Option Addr} {g : Gt} {i : Nat} {ip pk : Option Addr} {w : World} (h : WrH n gs a g i ip pk w) (ca ic ck : Nat) (hk : g.k = 2) {m : Nat} (hl : g.lit = -(m : Int)) (h1 : 1 ≤ m) (h2 : m ≤ 128) (hpc : ptx gs (pcsI gs g) = 33 :: xI m) :
    Calls Tryd.prog 21 #[.agg #[.int .i64 n, .slice a gs.length ca], .agg #[.int .i64 g.k, .int .i64 g.lit, .slice ip g.ins.length ic], .slice pk i ck] w fun e w' => e = .returned (.string ⟨(ptx gs (pcsI gs g)).toArray⟩) ∧ Below w.heap.size w w' := by
  obtain ⟨Post, hPost⟩ : ∃ P : Ending → World → Prop, P = fun e w' => e = .returned (.string ⟨(ptx gs (pcsI gs g)).toArray⟩) ∧ Below w.heap.size w w' := ⟨_, rfl⟩
  rw [← hPost]
  have HP := Lib.hid (show ∀ (z : ByteArray) (l : List UInt8) (w' : World), z = ⟨l.toArray⟩ → ptx gs (pcsI gs g) = l → Below w.heap.size w w' → Post (.returned (.string z)) w' from fun z l w' h1 h2 hb => by rw [hPost, h1, h2]; exact ⟨rfl, hb⟩)
  have H := Lib.hid h
  have HPC := Lib.hid hpc
  clear hPost h hpc
  have HKD := Lib.hid hk
  clear hk
  have HLI := Lib.hid hl
  clear hl
  go_enter Tryd.func21, Tryd.ntmps21
  go_upto_region 1 with fail
  refine wp_gen ?_
  intro w1 hw1
  have A1 := Lib.hid (show w1.heap[w.heap.size]? = some (.cells #[.int .i64 n, .slice a gs.length ca] 24 (0, 0)) by rw [hw1]; exact new_two1 _ _ _)
  have G1 := Lib.hid (show w1.heap[w.heap.size + 1]? = some (.cells #[.int .i64 g.k, .int .i64 g.lit, .slice ip g.ins.length ic] 37 (0, 0)) by rw [hw1]; exact new_two2 _ _ _)
  have HB1 := Lib.hid (show Below w.heap.size w w1 by rw [hw1]; exact below_two _ _ _)
  have H1 := Lib.hid (H.out.later HB1.out)
  clear hw1
  have g0 := blk_cell G1.out 0 rfl
  rw [HKD.out] at g0
  have g1 := blk_cell G1.out 1 rfl
  rw [HLI.out] at g1
  have hdn : decide (-(m : Int) < 0) = true := decide_eq_true (by omega)
  have KN := xNumber m (by omega)
  obtain ⟨y, hy⟩ : ∃ y : ByteArray, y = ⟨(decN m).toArray⟩ := ⟨_, rfl⟩
  rw [← hy] at KN
  have hdl := decN_small m (by omega)
  obtain ⟨z, hz, ha⟩ := add_str (x := ⟨#[33, 120]⟩) (lx := [33, 120]) rfl hy (by simp; omega)
  have HZ := Lib.hid (show z = ⟨(33 :: xI m : List UInt8).toArray⟩ from hz)
  clear hy hz
  go_wp2_with fail
  refine (KN w1).mono ?_
  rintro e w2 ⟨rfl, hb2⟩
  have HB2 := Lib.hid (HB1.out.trans (hb2.mono HB1.out.size))
  clear hb2 KN
  go_wp2_with fail
  exact HP.out z _ _ HZ.out HPC.out HB2.out

set_option maxHeartbeats 6400000 in
set_option maxRecDepth 100000 in
theorem xWrite_litp {n : Int} {gs : List Gt} {a : Option Addr} {g : Gt} {i : Nat} {ip pk : Option Addr} {w : World} (h : WrH n gs a g i ip pk w) (ca ic ck : Nat) (hk : g.k = 2) {m : Nat} (hl : g.lit = (m : Int)) (h1 : 1 ≤ m) (h2 : m ≤ 128) (hpc : ptx gs (pcsI gs g) = xI m) :
    Calls Tryd.prog 21 #[.agg #[.int .i64 n, .slice a gs.length ca], .agg #[.int .i64 g.k, .int .i64 g.lit, .slice ip g.ins.length ic], .slice pk i ck] w fun e w' => e = .returned (.string ⟨(ptx gs (pcsI gs g)).toArray⟩) ∧ Below w.heap.size w w' := by
  obtain ⟨Post, hPost⟩ : ∃ P : Ending → World → Prop, P = fun e w' => e = .returned (.string ⟨(ptx gs (pcsI gs g)).toArray⟩) ∧ Below w.heap.size w w' := ⟨_, rfl⟩
  rw [← hPost]
  have HP := Lib.hid (show ∀ (z : ByteArray) (l : List UInt8) (w' : World), z = ⟨l.toArray⟩ → ptx gs (pcsI gs g) = l → Below w.heap.size w w' → Post (.returned (.string z)) w' from fun z l w' h1 h2 hb => by rw [hPost, h1, h2]; exact ⟨rfl, hb⟩)
  have H := Lib.hid h
  have HPC := Lib.hid hpc
  clear hPost h hpc
  have HKD := Lib.hid hk
  clear hk
  have HLI := Lib.hid hl
  clear hl
  go_enter Tryd.func21, Tryd.ntmps21
  go_upto_region 1 with fail
  refine wp_gen ?_
  intro w1 hw1
  have A1 := Lib.hid (show w1.heap[w.heap.size]? = some (.cells #[.int .i64 n, .slice a gs.length ca] 24 (0, 0)) by rw [hw1]; exact new_two1 _ _ _)
  have G1 := Lib.hid (show w1.heap[w.heap.size + 1]? = some (.cells #[.int .i64 g.k, .int .i64 g.lit, .slice ip g.ins.length ic] 37 (0, 0)) by rw [hw1]; exact new_two2 _ _ _)
  have HB1 := Lib.hid (show Below w.heap.size w w1 by rw [hw1]; exact below_two _ _ _)
  have H1 := Lib.hid (H.out.later HB1.out)
  clear hw1
  have g0 := blk_cell G1.out 0 rfl
  rw [HKD.out] at g0
  have g1 := blk_cell G1.out 1 rfl
  rw [HLI.out] at g1
  have hdn : decide ((m : Int) < 0) = false := decide_eq_false (by omega)
  have KN := xNumber m (by omega)
  obtain ⟨y, hy⟩ : ∃ y : ByteArray, y = ⟨(decN m).toArray⟩ := ⟨_, rfl⟩
  rw [← hy] at KN
  have hdl := decN_small m (by omega)
  obtain ⟨z, hz, ha⟩ := add_str (x := ⟨#[120]⟩) (lx := [120]) rfl hy (by simp; omega)
  have HZ := Lib.hid (show z = ⟨(xI m : List UInt8).toArray⟩ from hz)
  clear hy hz
  go_wp2_with fail
  refine (KN w1).mono ?_
  rintro e w2 ⟨rfl, hb2⟩
  have HB2 := Lib.hid (HB1.out.trans (hb2.mono HB1.out.size))
  clear hb2 KN
  go_wp2_with fail
  exact HP.out z _ _ HZ.out HPC.out HB2.out

set_option maxHeartbeats 6400000 in
set_option maxRecDepth 100000 in
theorem xWrite_not {n : Int} {gs : List Gt} {a : Option Addr} {g : Gt} {i : Nat} {ip pk : Option Addr} {w : World} (h : WrH n gs a g i ip pk w) (ca ic ck : Nat) (hk : g.k = 3) {k : Nat} (hin : g.ins = [(k : Int)]) (hki : k < i) (hpc : ptx gs (pcsI gs g) = [33] ++ (if notParI (gI gs k) then [40] ++ TX gs k ++ [41] else TX gs k)) :
    Calls Tryd.prog 21 #[.agg #[.int .i64 n, .slice a gs.length ca], .agg #[.int .i64 g.k, .int .i64 g.lit, .slice ip g.ins.length ic], .slice pk i ck] w fun e w' => e = .returned (.string ⟨(ptx gs (pcsI gs g)).toArray⟩) ∧ Below w.heap.size w w' := by
  obtain ⟨Post, hPost⟩ : ∃ P : Ending → World → Prop, P = fun e w' => e = .returned (.string ⟨(ptx gs (pcsI gs g)).toArray⟩) ∧ Below w.heap.size w w' := ⟨_, rfl⟩
  rw [← hPost]
  have HP := Lib.hid (show ∀ (z : ByteArray) (l : List UInt8) (w' : World), z = ⟨l.toArray⟩ → ptx gs (pcsI gs g) = l → Below w.heap.size w w' → Post (.returned (.string z)) w' from fun z l w' h1 h2 hb => by rw [hPost, h1, h2]; exact ⟨rfl, hb⟩)
  have H := Lib.hid h
  have HPC := Lib.hid hpc
  clear hPost h hpc
  have HKD := Lib.hid hk
  clear hk
  have HIN := Lib.hid hin
  clear hin
  go_enter Tryd.func21, Tryd.ntmps21
  go_upto_region 1 with fail
  refine wp_gen ?_
  intro w1 hw1
  have A1 := Lib.hid (show w1.heap[w.heap.size]? = some (.cells #[.int .i64 n, .slice a gs.length ca] 24 (0, 0)) by rw [hw1]; exact new_two1 _ _ _)
  have G1 := Lib.hid (show w1.heap[w.heap.size + 1]? = some (.cells #[.int .i64 g.k, .int .i64 g.lit, .slice ip g.ins.length ic] 37 (0, 0)) by rw [hw1]; exact new_two2 _ _ _)
  have HB1 := Lib.hid (show Below w.heap.size w w1 by rw [hw1]; exact below_two _ _ _)
  have H1 := Lib.hid (H.out.later HB1.out)
  clear hw1
  have g0 := blk_cell G1.out 0 rfl
  rw [HKD.out] at g0
  have hil : g.ins.length = 1 := by rw [HIN.out]; rfl
  have hkl : k < gs.length := by have := H1.out.hi; omega
  obtain ⟨b1, o1, _, ea, ke⟩ := H1.out.ins 0 _ (ints_get g.ins 0 (k : Int) (by rw [HIN.out]; rfl))
  rw [Nat.add_zero] at ke
  obtain ⟨b3, o3, _, ec, kt⟩ := H1.out.kn k (by rw [HIN.out]; simp)
  obtain ⟨b2, o2, q2, e2, _, eb, ka0, ka1, ka2, _⟩ := H1.out.c k _ (gI_at (gs := gs) (k := (k : Int)) (by omega) (by omega))
  obtain ⟨G, hG⟩ : ∃ G, G = gI gs (k : Int) := ⟨_, rfl⟩
  rw [← hG] at ka0 ka1 ka2
  have hsz := H1.out.sz (k : Int) (by rw [HIN.out]; simp)
  obtain ⟨T, hT⟩ : ∃ T : ByteArray, T = ⟨(TX gs k).toArray⟩ := ⟨_, rfl⟩
  rw [← hT] at kt
  have HNP := Lib.hid (show notParI (gI gs k) = (decide (levelI G < 7) || (decide (G.k = 2) && decide (0 < G.lit))) by rw [hG]; rfl)
  obtain ⟨np, hnp⟩ : ∃ np, np = notParI (gI gs k) := ⟨_, rfl⟩
  rw [← hnp] at HNP HPC
  obtain ⟨u1, hu1, ha1⟩ := add_str (x := ⟨#[33, 40]⟩) (lx := [33, 40]) rfl hT (by simp; omega)
  obtain ⟨u2, hu2, ha2⟩ := add_str (y := ⟨#[41]⟩) (ly := [41]) hu1 rfl (by simp; omega)
  obtain ⟨u3, hu3, ha3⟩ := add_str (x := ⟨#[33]⟩) (lx := [33]) rfl hT (by simp; omega)
  have HU2 := Lib.hid hu2
  have HU3 := Lib.hid hu3
  have g2 := blk_cell G1.out 2 rfl
  rw [hil] at g2
  have c1 := blk_cell A1.out 1 rfl
  have KLV := Lib.hid (xLevel G q2 e2)
  obtain ⟨lv, hlv⟩ : ∃ lv, lv = levelI G := ⟨_, rfl⟩
  rw [← hlv] at KLV HNP
  have KE := Lib.hid ke
  have KT := Lib.hid kt
  have K0 := Lib.hid ka0
  have K1 := Lib.hid ka1
  have K2 := Lib.hid ka2
  have G2 := Lib.hid g2
  have C1 := Lib.hid c1
  subst ea
  subst eb
  subst ec
  clear hG hT hnp hu1 hu2 hu3 hlv hil ke ka0 ka1 ka2 kt
  go_upto_region 11 with fail
  clear g0 g2 c1
  refine wp_game [0, 0, 0, 0, 0, 0, 0, 0, 3, 2] [] B0 fin_B0 (has_B0 _) (by kernel_rfl) (by kernel_rfl) ?_
  refine lex_quietE 8 (by kernel_rfl) (by rfl) ?_
  apply Exists.intro
  refine ⟨fun z hz => ?_, ?_⟩
  · have f1 := behind_cellXp hz KE.out (by simp)
    have f2 := behind_cellXp hz G2.out (by simp)
    have f3 := behind_cellXp hz C1.out (by simp)
    have f4 := behind_cellXp hz K0.out (by simp)
    have f5 := behind_cellXp hz K1.out (by simp)
    have f6 := behind_cellXp hz K2.out (by simp)
    clear hz
    simp only [List.take_succ_cons, List.take_zero]
    unfold Cx
    repeat (go_big_quiet_step (fail))
    exact wpQuiet_nil rfl
  simp only [List.drop_succ_cons, List.drop_zero]
  refine lex_alloc (.agg #[.int .i64 0, .int .i64 0, .slice none 0 0]) (by rfl) (fun x => by kernel_rfl) (fun g8 q8 hn8 => ?_)
  unfold setSlot
  go_big_quiet_step (fail)
  refine wpQuiet_nil ?_
  refine lex_store_all g8 #[.int .i64 G.k, .int .i64 G.lit, .slice q2 G.ins.length e2] #[.int .i64 0, .int .i64 0, .slice none 0 0] 37 (by rfl) (by rfl) (by rfl) (Blocks.put_same _ _ _) rfl (.inr q8) (by kernel_rfl) (by simp [Value.oneCell']) ?_
  refine lex_nil ?_
  intro y hy hH
  have M1 := Lib.hid (hH g8 _ (Blocks.put_same _ _ _))
  have HB2 := Lib.hid (HB1.out.trans (hy.below.mono HB1.out.size))
  have KE1 := Lib.hid (behind_cellX hy KE.out (by simp))
  have KT1 := Lib.hid (behind_cellX hy KT.out (by simp))
  have GG1 := Lib.hid (behind_cellX hy G2.out (by simp))
  clear hH hy hn8 K0 K1 K2 C1 G2 KE KT
  have m0 := blk_cell M1.out 0 rfl
  have m1 := blk_cell M1.out 1 rfl
  have m2 := blk_cell M1.out 2 rfl
  go_wp2_with fail
  refine (KLV.out y).mono ?_
  rintro e y2 ⟨rfl, hb2⟩
  have hy2 := behind_of_below hb2
  have HB3 := Lib.hid (HB2.out.trans (hb2.mono HB2.out.size))
  have ke := behind_cellX hy2 KE1.out (by simp)
  have kt := behind_cellX hy2 KT1.out (by simp)
  have g2 := behind_cellX hy2 GG1.out (by simp)
  have M2 := Lib.hid (hy2.keep M1.out (by simp))
  clear hy2 hb2 KLV m0 m1 m2 M1 KE1 KT1 GG1
  have m0 := blk_cell M2.out 0 rfl
  have m1 := blk_cell M2.out 1 rfl
  have hYes := Lib.hid (fun (h : np = true) => show ptx gs (pcsI gs g) = [33, 40] ++ TX gs k ++ [41] by rw [HPC.out, if_pos h]; rfl)
  have hNo := Lib.hid (fun (h : np = false) => show ptx gs (pcsI gs g) = [33] ++ TX gs k by rw [HPC.out, if_neg (by rw [h]; simp)])
  by_cases c1 : lv < 7
  · have d1 : decide ((lv : Int) < 7) = true := decide_eq_true (by omega)
    have d2 : decide (lv < 7) = true := decide_eq_true c1
    have hnp : np = true := by rw [HNP.out, d2]; rfl
    have HF := Lib.hid (hYes.out hnp)
    clear c1 hnp
    go_wp2_with fail
    exact HP.out u2 _ _ HU2.out HF.out HB3.out
  have d1 : decide ((lv : Int) < 7) = false := decide_eq_false (by omega)
  have d2 : decide (lv < 7) = false := decide_eq_false c1
  by_cases c2 : G.k = 2
  · have d3 : (G.k == 2) = true := by simp [c2]
    by_cases c3 : 0 < G.lit
    · have d4 : decide (0 < G.lit) = true := decide_eq_true c3
      have hnp : np = true := by rw [HNP.out, d2, decide_eq_true c2, d4]; rfl
      have HF := Lib.hid (hYes.out hnp)
      clear c1 c2 c3 hnp
      go_wp2_with fail
      exact HP.out u2 _ _ HU2.out HF.out HB3.out
    · have d4 : decide (0 < G.lit) = false := decide_eq_false c3
      have hnp : np = false := by rw [HNP.out, d2, decide_eq_true c2, d4]; rfl
      have HF := Lib.hid (hNo.out hnp)
      clear c1 c2 c3 hnp
      go_wp2_with fail
      exact HP.out u3 _ _ HU3.out HF.out HB3.out
  · have d3 : (G.k == 2) = false := beq_no c2
    have hnp : np = false := by rw [HNP.out, d2, decide_eq_false c2]; rfl
    have HF := Lib.hid (hNo.out hnp)
    clear c1 c2 hnp
    go_wp2_with fail
    exact HP.out u3 _ _ HU3.out HF.out HB3.out

set_option maxHeartbeats 6400000 in
set_option maxRecDepth 100000 in
theorem xWrite_iff {n : Int} {gs : List Gt} {a : Option Addr} {g : Gt} {i : Nat} {ip pk : Option Addr} {w : World} (h : WrH n gs a g i ip pk w) (ca ic ck : Nat) (hk : g.k = 7) {k l : Nat} (hin : g.ins = [(k : Int), (l : Int)]) (hki : k < i) (hli : l < i) (hpc : ptx gs (pcsI gs g) = TX gs k ++ [32, 60, 45, 62, 32] ++ (if decide (levelI (gI gs l) = 2) then [40] ++ TX gs l ++ [41] else TX gs l)) :
    Calls Tryd.prog 21 #[.agg #[.int .i64 n, .slice a gs.length ca], .agg #[.int .i64 g.k, .int .i64 g.lit, .slice ip g.ins.length ic], .slice pk i ck] w fun e w' => e = .returned (.string ⟨(ptx gs (pcsI gs g)).toArray⟩) ∧ Below w.heap.size w w' := by
  obtain ⟨Post, hPost⟩ : ∃ P : Ending → World → Prop, P = fun e w' => e = .returned (.string ⟨(ptx gs (pcsI gs g)).toArray⟩) ∧ Below w.heap.size w w' := ⟨_, rfl⟩
  rw [← hPost]
  have HP := Lib.hid (show ∀ (z : ByteArray) (l : List UInt8) (w' : World), z = ⟨l.toArray⟩ → ptx gs (pcsI gs g) = l → Below w.heap.size w w' → Post (.returned (.string z)) w' from fun z l w' h1 h2 hb => by rw [hPost, h1, h2]; exact ⟨rfl, hb⟩)
  have H := Lib.hid h
  have HPC := Lib.hid hpc
  clear hPost h hpc
  have HKD := Lib.hid hk
  clear hk
  have HIN := Lib.hid hin
  clear hin
  go_enter Tryd.func21, Tryd.ntmps21
  go_upto_region 1 with fail
  refine wp_gen ?_
  intro w1 hw1
  have A1 := Lib.hid (show w1.heap[w.heap.size]? = some (.cells #[.int .i64 n, .slice a gs.length ca] 24 (0, 0)) by rw [hw1]; exact new_two1 _ _ _)
  have G1 := Lib.hid (show w1.heap[w.heap.size + 1]? = some (.cells #[.int .i64 g.k, .int .i64 g.lit, .slice ip g.ins.length ic] 37 (0, 0)) by rw [hw1]; exact new_two2 _ _ _)
  have HB1 := Lib.hid (show Below w.heap.size w w1 by rw [hw1]; exact below_two _ _ _)
  have H1 := Lib.hid (H.out.later HB1.out)
  clear hw1
  have g0 := blk_cell G1.out 0 rfl
  rw [HKD.out] at g0
  have hil : g.ins.length = 2 := by rw [HIN.out]; rfl
  have hll : l < gs.length := by have := H1.out.hi; omega
  obtain ⟨b1, o1, _, ea, ke⟩ := H1.out.ins 0 _ (ints_get g.ins 0 (k : Int) (by rw [HIN.out]; rfl))
  obtain ⟨b1', o1', _, ea', kf⟩ := H1.out.ins 1 _ (ints_get g.ins 1 (l : Int) (by rw [HIN.out]; rfl))
  rw [Nat.add_zero] at ke
  obtain ⟨b3, o3, _, ec, kt⟩ := H1.out.kn k (by rw [HIN.out]; simp)
  obtain ⟨b3', o3', _, ec', ku⟩ := H1.out.kn l (by rw [HIN.out]; simp)
  obtain ⟨b2, o2, q2, e2, _, eb, ka0, ka1, ka2, _⟩ := H1.out.c l _ (gI_at (gs := gs) (k := (l : Int)) (by omega) (by omega))
  obtain ⟨G, hG⟩ : ∃ G, G = gI gs (l : Int) := ⟨_, rfl⟩
  rw [← hG] at ka0 ka1 ka2 HPC
  have hsz := H1.out.sz (k : Int) (by rw [HIN.out]; simp)
  have hsz2 := H1.out.sz (l : Int) (by rw [HIN.out]; simp)
  obtain ⟨T, hT⟩ : ∃ T : ByteArray, T = ⟨(TX gs k).toArray⟩ := ⟨_, rfl⟩
  rw [← hT] at kt
  obtain ⟨U, hU⟩ : ∃ T : ByteArray, T = ⟨(TX gs l).toArray⟩ := ⟨_, rfl⟩
  rw [← hU] at ku
  obtain ⟨u1, hu1, ha1⟩ := add_str (y := ⟨#[32, 60, 45, 62, 32, 40]⟩) (ly := [32, 60, 45, 62, 32, 40]) hT rfl (by simp; omega)
  obtain ⟨u2, hu2, ha2⟩ := add_str hu1 hU (by simp; omega)
  obtain ⟨u3, hu3, ha3⟩ := add_str (y := ⟨#[41]⟩) (ly := [41]) hu2 rfl (by simp; omega)
  obtain ⟨u4, hu4, ha4⟩ := add_str (y := ⟨#[32, 60, 45, 62, 32]⟩) (ly := [32, 60, 45, 62, 32]) hT rfl (by simp; omega)
  obtain ⟨u5, hu5, ha5⟩ := add_str hu4 hU (by simp; omega)
  have HU3 := Lib.hid hu3
  have HU5 := Lib.hid hu5
  have G2 := Lib.hid (blk_cell G1.out 2 rfl)
  rw [hil] at G2
  have C1 := Lib.hid (blk_cell A1.out 1 rfl)
  have KLV := Lib.hid (xLevel G q2 e2)
  obtain ⟨bb, hbb⟩ : ∃ bb, bb = decide (levelI G = 2) := ⟨_, rfl⟩
  rw [← hbb] at HPC
  obtain ⟨lv, hlv⟩ : ∃ lv, lv = levelI G := ⟨_, rfl⟩
  rw [← hlv] at KLV hbb
  have d1 : ((lv : Int) == 2) = bb := by rw [hbb]; by_cases h : lv = 2 <;> simp [h]; omega
  have d2 : (lv == 2) = bb := by rw [hbb]; by_cases h : lv = 2 <;> simp [h]
  have KE := Lib.hid ke
  have KF := Lib.hid kf
  have KT := Lib.hid kt
  have KU := Lib.hid ku
  have K0 := Lib.hid ka0
  have K1 := Lib.hid ka1
  have K2 := Lib.hid ka2
  subst ea
  cases ea'
  subst eb
  subst ec
  cases ec'
  clear hG hT hU hu1 hu2 hu3 hu4 hu5 hlv hbb hil ke kf ka0 ka1 ka2 kt ku
  go_upto_region 16 with fail
  clear g0
  refine wp_game (List.replicate 10 0) [] B0 fin_B0 (has_B0 _) (by kernel_rfl) (by kernel_rfl) ?_
  refine lex_quietE 10 (by kernel_rfl) (by rfl) ?_
  apply Exists.intro
  refine ⟨fun z hz => ?_, ?_⟩
  · have f1 := behind_cellXp hz KF.out (by simp)
    have f2 := behind_cellXp hz G2.out (by simp)
    have f3 := behind_cellXp hz C1.out (by simp)
    have f4 := behind_cellXp hz K0.out (by simp)
    have f5 := behind_cellXp hz K1.out (by simp)
    have f6 := behind_cellXp hz K2.out (by simp)
    clear hz
    simp only [List.take_succ_cons, List.take_zero]
    unfold Cx
    repeat (go_big_quiet_step (with_reducible exact KLV.out.at _ _))
    exact wpQuiet_nil rfl
  simp only [List.drop_succ_cons, List.drop_zero]
  refine lex_nil ?_
  intro z hz _
  have HB2 := Lib.hid (HB1.out.trans (hz.below.mono HB1.out.size))
  have G2' := Lib.hid (behind_cellX hz G2.out (by simp))
  have KE' := Lib.hid (behind_cellX hz KE.out (by simp))
  have KF' := Lib.hid (behind_cellX hz KF.out (by simp))
  have KT' := Lib.hid (behind_cellX hz KT.out (by simp))
  have KU' := Lib.hid (behind_cellX hz KU.out (by simp))
  clear hz K0 K1 K2 C1 G2 KE KF KT KU KLV d1 d2
  cases bb with
  | true =>
    have HF := Lib.hid (show ptx gs (pcsI gs g) = ((TX gs k ++ [32, 60, 45, 62, 32, 40]) ++ TX gs l) ++ [41] by rw [HPC.out, if_pos rfl]; simp)
    go_upto_region 17 with fail
    refine wp_game (List.replicate 18 0) [] B0 fin_B0 (has_B0 _) (by kernel_rfl) (by kernel_rfl) ?_
    refine lex_quietE 18 (by kernel_rfl) (by rfl) ?_
    apply Exists.intro
    refine ⟨fun z hz => ?_, ?_⟩
    · have f1 := behind_cellXp hz KE'.out (by simp)
      have f2 := behind_cellXp hz G2'.out (by simp)
      have f3 := behind_cellXp hz KF'.out (by simp)
      have f4 := behind_cellXp hz KT'.out (by simp)
      have f5 := behind_cellXp hz KU'.out (by simp)
      clear hz
      simp only [List.take_succ_cons, List.take_zero]
      unfold Cx
      repeat (go_big_quiet_step (fail))
      exact wpQuiet_nil rfl
    simp only [List.drop_succ_cons, List.drop_zero]
    refine lex_nil ?_
    intro y hy _
    have HB3 := Lib.hid (HB2.out.trans (hy.below.mono HB2.out.size))
    clear hy
    go_wp2_with fail
    exact HP.out u3 _ _ HU3.out HF.out HB3.out
  | false =>
    have HF := Lib.hid (show ptx gs (pcsI gs g) = (TX gs k ++ [32, 60, 45, 62, 32]) ++ TX gs l by rw [HPC.out, if_neg (by simp)])
    go_upto_region 18 with fail
    refine wp_game (List.replicate 17 0) [] B0 fin_B0 (has_B0 _) (by kernel_rfl) (by kernel_rfl) ?_
    refine lex_quietE 17 (by kernel_rfl) (by rfl) ?_
    apply Exists.intro
    refine ⟨fun z hz => ?_, ?_⟩
    · have f1 := behind_cellXp hz KE'.out (by simp)
      have f2 := behind_cellXp hz G2'.out (by simp)
      have f3 := behind_cellXp hz KF'.out (by simp)
      have f4 := behind_cellXp hz KT'.out (by simp)
      have f5 := behind_cellXp hz KU'.out (by simp)
      clear hz
      simp only [List.take_succ_cons, List.take_zero]
      unfold Cx
      repeat (go_big_quiet_step (fail))
      exact wpQuiet_nil rfl
    simp only [List.drop_succ_cons, List.drop_zero]
    refine lex_nil ?_
    intro y hy _
    have HB3 := Lib.hid (HB2.out.trans (hy.below.mono HB2.out.size))
    clear hy
    go_wp2_with fail
    exact HP.out u5 _ _ HU5.out HF.out HB3.out

end Go.Proofs.YtmaiofimmjedjaaDoor
