/- Texts of this claim, joined: BRefE, BTexts, BRefA. -/
import Derived.Test.YtbacloneddnaeaaJ36
import Derived.Test.YtbacloneddnaeaaJ37
import Derived.Test.YtbacloneddnaeaaJ31
import Derived.Test.YtbacloneddnaeaaJ33

/- censusref40.Entry and product. -/
namespace Go.Proofs.Ytbacloneddnaeaa
open Go.RowKit Go.Shelf Num

set_option maxHeartbeats 3200000 in
set_option maxRecDepth 100000 in
theorem xentry_law (N : Nat) (l : List RV) (vs : List Nat) (a va : Option Addr) (c vc i : Nat) (x : RV) (hx : l[i]? = some x) (hf : Fit (gnet l) vs) (hp : ∀ p ∈ x.ps, 0 ≤ p ∧ p.toNat < l.length) (hpl : x.ps.length ≤ 16) (hl : l.length ≤ 100) (w : World) (hN : RefAt N w a l) (hV : AtN N w va (ints (vs.map Int.ofNat))) (hw : N ≤ w.heap.size) :
    Calls Try.prog 78 #[.slice a l.length c, .int .i64 i, .slice va vs.length vc] w fun e w' => e = .returned (.int .i64 ((idxFrom (gnet l) vs 0 x.ps * x.k.toNat + vs.getD i 0 : Nat) : Int)) ∧ Below w.heap.size w w' := by
  obtain ⟨R, hR⟩ : ∃ R : Ending → World → Prop, R = fun e w' => e = .returned (.int .i64 ((idxFrom (gnet l) vs 0 x.ps * x.k.toNat + vs.getD i 0 : Nat) : Int)) ∧ Below w.heap.size w w' := ⟨_, rfl⟩
  rw [← hR]
  have HR := Lib.hid hR
  clear hR
  have hgl : (gnet l).length = l.length := by simp [gnet]
  have HGL := Lib.hid hgl
  have HN := Lib.hid hN
  have HV := Lib.hid hV
  have HF := Lib.hid hf
  have HP := Lib.hid (show ∀ p ∈ x.ps, 0 ≤ p ∧ p.toNat < (gnet l).length by rw [hgl]; exact hp)
  have HX := Lib.hid hx
  have hi : i < l.length := (List.getElem?_eq_some_iff.1 hx).1
  obtain ⟨b, o, pa, pc, ta, tc, hb, rfl, c0, c1, c2, hpa, _⟩ := hN i x hx
  have HPA := Lib.hid hpa
  have C0 := Lib.hid c0
  have C1 := Lib.hid c1
  clear hgl hN hV hf hp hx hpa c0 c1 c2
  go_enter Try.func78, Try.ntmps78
  go_wp2_with fail
  go_loopw [7, 8] (fun at0 k wr => ∃ j : Nat, j ≤ x.ps.length ∧ k = .int .i64 j ∧ at0 = .int .i64 (idxFrom (gnet l) vs 0 (x.ps.take j) : Nat) ∧ Hid (Below w.heap.size w wr))
    (fun _ k _ => x.ps.length - (intOf k).toNat)
  case atStart => exact ⟨0, Nat.zero_le _, rfl, rfl, Below.refl _ _⟩
  case round =>
    obtain ⟨j, hj, rfl, rfl, HB⟩ := hrel
    have f1 := below_cell HB.out (by omega) C1.out
    by_cases hlt : j < x.ps.length
    · have hd : decide (j < x.ps.length) = true := by simpa using hlt
      obtain ⟨p, hpj⟩ : ∃ p, x.ps[j]? = some p := ⟨_, List.getElem?_eq_getElem hlt⟩
      obtain ⟨hp0, hpl2⟩ := HP.out p (List.mem_of_getElem? hpj)
      obtain ⟨pn, rfl⟩ : ∃ pn : Nat, p = pn := ⟨p.toNat, by omega⟩
      rw [Int.toNat_natCast, HGL.out] at hpl2
      obtain ⟨y, hy⟩ : ∃ y, l[pn]? = some y := ⟨_, List.getElem?_eq_getElem hpl2⟩
      obtain ⟨hk1, hk8⟩ := HF.out.kpos pn (gvar y) (gnet_get hy)
      obtain ⟨K, hK⟩ : ∃ K : Nat, y.k = K := ⟨y.k.toNat, by simp [gvar] at hk1; omega⟩
      obtain ⟨v, hv⟩ : ∃ v, vs[pn]? = some v := ⟨_, List.getElem?_eq_getElem (by rw [HF.out.len, HGL.out]; omega)⟩
      have hvK := HF.out.lt pn (gvar y) v (gnet_get hy) hv
      obtain ⟨_, _, _, _, _, _, _, he, e0, _⟩ := HN.out pn y hy
      cases he
      obtain ⟨pb, po, hpb, rfl, e1⟩ := HPA.out j _ (ints_get _ _ _ hpj)
      obtain ⟨vb, vo, hvb, rfl, e2⟩ := HV.out pn _ (ints_get _ _ (v : Int) (by simp [hv]))
      rw [hK] at e0
      simp only [gvar, hK] at hk1 hk8 hvK
      have hA := idxFrom_le HF.out x.ps HP.out hpl j
      have hS : Hid (idxFrom (gnet l) vs 0 (x.ps.take j) * K + v = idxFrom (gnet l) vs 0 (x.ps.take (j + 1))) := by
        unfold Hid
        rw [idxFrom_snoc hpj (gnet_get hy) hv]; simp [gvar, hK]
      have hk1' : 1 ≤ K := by omega
      have hk8' : K ≤ 8 := by omega
      have hvK' : v < K := by omega
      have hlv : pn < vs.length := by rw [HF.out.len, HGL.out]; omega
      have f2 := below_cell HB.out (by omega) e1
      have E0 := Lib.hid e0
      have E2 := Lib.hid e2
      clear hK hpj hy hv hk1 hk8 hvK e0 e1 e2
      generalize idxFrom (gnet l) vs 0 (x.ps.take j) = A at *
      generalize hA2 : idxFrom (gnet l) vs 0 (x.ps.take (j + 1)) = A2 at *
      have HA2 := Lib.hid hA2
      clear hA2
      have hm1 : A * K ≤ 2251799813685248 := Nat.le_trans (Nat.mul_le_mul hA hk8') (by decide)
      obtain ⟨hm2, hm3⟩ := mulI hm1
      have hbw : b < w.heap.size := by omega
      have hvbw : vb < w.heap.size := by omega
      go_wp2_with fail
      clear f1 f2
      refine wp_game [0, 0, 0, 0, 0, 0, 0, 0, 0, 0, 0, 0, 0] [] B0 fin_B0 (has_B0 _) (by kernel_rfl) (by kernel_rfl) ?_
      refine lex_quietE 13 (by kernel_rfl) (by rfl) ?_
      apply Exists.intro
      refine ⟨fun z hz => ?_, ?_⟩
      · have hwz := HB.out.trans (hz.below_of (b := w.heap.size) (by simp) HB.out.size)
        have g0 := below_cellp hwz E0.out hbw
        have g2 := below_cellp hwz E2.out hvbw
        clear hz hwz
        simp only [List.take_succ_cons, List.take_zero]
        unfold Cx
        repeat (go_big_quiet_step (fail))
        exact wpQuiet_nil rfl
      simp only [List.drop_succ_cons, List.drop_zero]
      refine lex_nil ?_
      intro w5 hx5 _
      have HB5 := Lib.hid (HB.out.trans (hx5.below_of (b := w.heap.size) (by simp) HB.out.size))
      clear hx5 HB
      go_wp2_with fail
      go_roundw
      case rel => exact ⟨j + 1, by omega, by go_num, by rw [HA2.out, ← hS.out]; go_num, HB5⟩
      case measure => simp [intOf]; omega
    · obtain rfl : j = x.ps.length := by omega
      obtain ⟨hk1, hk8⟩ := HF.out.kpos i (gvar x) (gnet_get HX.out)
      obtain ⟨K, hK⟩ : ∃ K : Nat, x.k = K := ⟨x.k.toNat, by simp [gvar] at hk1; omega⟩
      obtain ⟨v, hv⟩ : ∃ v, vs[i]? = some v := ⟨_, List.getElem?_eq_getElem (by rw [HF.out.len, HGL.out]; omega)⟩
      have hvK := HF.out.lt i (gvar x) v (gnet_get HX.out) hv
      obtain ⟨vb, vo, hvb, rfl, e2⟩ := HV.out i _ (ints_get _ _ (v : Int) (by simp [hv]))
      have hA := idxFrom_le HF.out x.ps HP.out hpl x.ps.length
      have hvd : vs.getD i 0 = v := by simp [hv]
      have HS : Hid (idxFrom (gnet l) vs 0 x.ps * x.k.toNat + vs.getD i 0 = idxFrom (gnet l) vs 0 x.ps * K + v) := by unfold Hid; rw [hvd, hK, Int.toNat_natCast]
      rw [List.take_length] at *
      have HRR := HR.out
      have HS2 := HS.out
      rw [HS2] at HRR
      have HR2 := Lib.hid HRR
      clear HR HS HS2 HRR
      have c0 := C0.out
      rw [hK] at c0
      simp only [gvar, hK] at hk1 hk8 hvK
      generalize idxFrom (gnet l) vs 0 x.ps = A at *
      have hlv : i < vs.length := by rw [HF.out.len, HGL.out]; omega
      have hm1 : A * K ≤ 2251799813685248 := Nat.le_trans (Nat.mul_le_mul hA (show K ≤ 8 by omega)) (by decide)
      obtain ⟨hm2, hm3⟩ := mulI hm1
      have hK8 : K ≤ 8 := by omega
      have hvK' : v < K := by omega
      have hbw : b < w.heap.size := by omega
      have hvbw : vb < w.heap.size := by omega
      have C02 := Lib.hid c0
      have E2 := Lib.hid e2
      obtain ⟨I, hI⟩ : ∃ I, A * K + v = I := ⟨_, rfl⟩
      have hI2 := addI hI
      rw [hI] at HR2
      have HI := Lib.hid hI
      clear hk1 hk8 hvK hK hv hvd hm1 c0 e2 hI
      go_wp2_with fail
      clear f1
      refine wp_game [0, 0, 0, 0, 0, 0, 0, 0, 0, 0, 0, 0, 0] [] B0 fin_B0 (has_B0 _) (by kernel_rfl) (by kernel_rfl) ?_
      refine lex_quietE 13 (by kernel_rfl) (by rfl) ?_
      apply Exists.intro
      refine ⟨fun z hz => ?_, ?_⟩
      · have hwz := HB.out.trans (hz.below_of (b := w.heap.size) (by simp) HB.out.size)
        have g0 := below_cellp hwz C02.out hbw
        have g2 := below_cellp hwz E2.out hvbw
        clear hz hwz
        simp only [List.take_succ_cons, List.take_zero]
        unfold Cx
        repeat (go_big_quiet_step (fail))
        exact wpQuiet_nil rfl
      simp only [List.drop_succ_cons, List.drop_zero]
      refine lex_nil ?_
      intro w5 hx5 _
      have HB5 := Lib.hid (HB.out.trans (hx5.below_of (b := w.heap.size) (by simp) HB.out.size))
      clear hx5 HB
      go_wp2_with fail
      rw [HR2.out]
      exact ⟨rfl, HB5.out⟩

/-- The probability of an assignment, variable after variable. -/
def prodV (l : List BV) (vs : List Nat) (j : Nat) : Nat × Nat := (List.range j).foldl (fun s i => Q.mul s (pAt l i vs)) (1, 1)
theorem prodV_succ (l : List BV) (vs : List Nat) (j : Nat) : prodV l vs (j + 1) = Q.mul (prodV l vs j) (pAt l j vs) := by simp [prodV, List.range_succ]
end Go.Proofs.Ytbacloneddnaeaa

/- censuslaw40.texts. -/
namespace Go.Proofs.Ytbacloneddnaeaa
open Go.RowKit Go.Shelf Num

def textsB (ps : List (Nat × Nat)) (ss : List ByteArray) : Bool := decide (ps.map rtext = ss)
theorem textsB_step {ps : List (Nat × Nat)} {ss : List ByteArray} {j : Nat} {p : Nat × Nat} {s : ByteArray} (h : (ps.take j).map rtext = ss.take j) (hp : ps[j]? = some p) (hs : ss[j]? = some s) (e : rtext p = s) : (ps.take (j + 1)).map rtext = ss.take (j + 1) := by
  rw [take_snoc_of hp, take_snoc_of hs, List.map_append, h, List.map_singleton, e]
theorem textsB_not {ps : List (Nat × Nat)} {ss : List ByteArray} {j : Nat} {p : Nat × Nat} {s : ByteArray} (hp : ps[j]? = some p) (hs : ss[j]? = some s) (e : rtext p ≠ s) : textsB ps ss = false := by
  refine decide_eq_false fun h => e ?_
  have := congrArg (fun l => l[j]?) h
  simp [hp, hs] at this
  exact this

set_option maxHeartbeats 1600000 in
set_option maxRecDepth 100000 in
theorem texts_law (N : Nat) (ps : List (Nat × Nat)) (ss : List ByteArray) (a b : Option Addr) (c d : Nat) (hps : ∀ p ∈ ps, Sm 1000000 p) (hl : ps.length ≤ 100000) (hl2 : ss.length ≤ 100000) (w : World) (hA : AtN N w a (rats ps)) (hB : AtN N w b (strs ss)) (hw : N ≤ w.heap.size) :
    Calls Try.prog 20 #[.slice a ps.length c, .slice b ss.length d] w fun e w' => e = .returned (.bool (textsB ps ss)) ∧ Below w.heap.size w w' := by
  have HA := Lib.hid hA
  have HB := Lib.hid hB
  have HP := Lib.hid hps
  have HW := Lib.hid hw
  clear hA hB hps hw
  by_cases hlen : ps.length = ss.length
  · go_enter Try.func20, Try.ntmps20
    have hlen1 : ((ps.length : Int) == (ss.length : Int)) = true := by simp [hlen]
    have HLEN := Lib.hid hlen
    rw [← hlen]
    clear hlen hl2
    go_wp2_with fail
    go_loopw [5] (fun i wr => ∃ j : Nat, j ≤ ps.length ∧ i = .int .i64 j ∧ Hid ((ps.take j).map rtext = ss.take j) ∧ Hid (Below w.heap.size w wr))
      (fun i _ => ps.length - (intOf i).toNat)
    case atStart => exact ⟨0, Nat.zero_le _, rfl, by simp [Hid], Below.refl _ _⟩
    case round =>
      obtain ⟨j, hj, rfl, HT, HBE⟩ := hrel
      by_cases hlt : j < ps.length
      · obtain ⟨p, hp⟩ : ∃ p, ps[j]? = some p := ⟨_, List.getElem?_eq_getElem hlt⟩
        obtain ⟨s, hs⟩ : ∃ s, ss[j]? = some s := ⟨_, List.getElem?_eq_getElem (by rw [← HLEN.out]; exact hlt)⟩
        obtain ⟨q1, q2⟩ := p
        have KT : Gives 16 #[.agg #[.string (nb q1), .string (nb q2)]] (.string (rtext (q1, q2))) := gRText (q1, q2) (HP.out _ (List.mem_of_getElem? hp))
        obtain ⟨b1, o1, hb1, rfl, k1⟩ := (HA.out.below HBE.out HW.out) _ _ (rats_get hp).1
        obtain ⟨_, _, _, e2, k2⟩ := (HA.out.below HBE.out HW.out) _ _ (rats_get hp).2
        cases e2
        obtain ⟨b3, o3, hb3, rfl, k3⟩ := (HB.out.below HBE.out HW.out) _ _ (strs_get hs)
        rw [← Nat.add_assoc] at k2
        have K1 := Lib.hid k1
        have K2 := Lib.hid k2
        have K3 := Lib.hid k3
        have HPJ := Lib.hid hp
        have HSJ := Lib.hid hs
        clear k1 k2 k3 hp hs
        go_wp2_with fail
        obtain ⟨u, hu⟩ : ∃ u, u = rtext (q1, q2) := ⟨_, rfl⟩
        rw [← hu] at KT
        by_cases hE : u = s
        · have HU := Lib.hid hu
          subst hE
          clear hu
          refine wp_game [0, 0, 0, 0, 0, 0, 0, 0, 0, 0] [] B0 fin_B0 (has_B0 _) (by kernel_rfl) (by kernel_rfl) ?_
          refine lex_quietE 10 (by kernel_rfl) (by rfl) ?_
          apply Exists.intro
          refine ⟨fun z hz => ?_, ?_⟩
          · have g1 := behind_cellp hz K1.out (by simp)
            have g2 := behind_cellp hz K2.out (by simp)
            have g3 := behind_cellp hz K3.out (by simp)
            clear hz
            simp only [List.take_succ_cons, List.take_zero]
            unfold Cx
            repeat (go_big_quiet_step (first | with_reducible exact KT.at _ _))
            exact wpQuiet_nil rfl
          simp only [List.drop_succ_cons, List.drop_zero]
          refine lex_nil ?_
          intro x hx _
          have hbx := HBE.out.trans (hx.below.mono (B' := w.heap.size) (by have := HBE.out.size; omega))
          have HBX := Lib.hid hbx
          have HT2 := Lib.hid (textsB_step HT.out HPJ.out HSJ.out HU.out.symm)
          clear hx hbx
          go_wp2_with fail
          go_roundw
          case rel => exact ⟨j + 1, by omega, by go_num, HT2, HBX⟩
          case measure => simp [intOf]; omega
        · have hne := toListB_ne hE
          have HF : Hid (textsB ps ss = false) := textsB_not HPJ.out HSJ.out (by rw [← hu]; exact hE)
          clear hu hE
          refine wp_game [0, 0, 0, 0, 0, 0, 0, 0, 0, 0] [] B0 fin_B0 (has_B0 _) (by kernel_rfl) (by kernel_rfl) ?_
          refine lex_quietE 10 (by kernel_rfl) (by rfl) ?_
          apply Exists.intro
          refine ⟨fun z hz => ?_, ?_⟩
          · have g1 := behind_cellp hz K1.out (by simp)
            have g2 := behind_cellp hz K2.out (by simp)
            have g3 := behind_cellp hz K3.out (by simp)
            clear hz
            simp only [List.take_succ_cons, List.take_zero]
            unfold Cx
            repeat (go_big_quiet_step (first | with_reducible exact KT.at _ _))
            exact wpQuiet_nil rfl
          simp only [List.drop_succ_cons, List.drop_zero]
          refine lex_nil ?_
          intro x hx _
          have hbx := HBE.out.trans (hx.below.mono (B' := w.heap.size) (by have := HBE.out.size; omega))
          have HBX := Lib.hid hbx
          clear hx hbx
          go_wp2_with fail
          go_ret
          exact ⟨by rw [HF.out]; rfl, HBX.out⟩
      · obtain rfl : j = ps.length := by omega
        have hT := HT.out
        rw [List.take_length, HLEN.out, List.take_length] at hT
        have HF : Hid (textsB ps ss = true) := decide_eq_true hT
        clear hT
        go_wp2_with fail
        go_ret
        exact ⟨by rw [HF.out]; rfl, HBE.out⟩
  · have hlen1 : ((ps.length : Int) == (ss.length : Int)) = false := beq_no (by omega)
    have HF : Hid (textsB ps ss = false) := decide_eq_false fun h => hlen (by rw [← h]; simp)
    go_enter Try.func20, Try.ntmps20
    go_wp2_with fail
    go_ret
    exact ⟨by rw [HF.out]; rfl, Below.refl _ _⟩
end Go.Proofs.Ytbacloneddnaeaa

/- censusref40.allowed. -/
namespace Go.Proofs.Ytbacloneddnaeaa
open Go.RowKit Go.Shelf Num

def leastOf (op : Bool) : Int := if op then -1 else 0
def OkTo (l : List RV) (vs : List Int) (least : Int) (j : Nat) : Prop := ∀ (i : Nat) (x : RV) (v : Int), i < j → l[i]? = some x → vs[i]? = some v → least ≤ v ∧ v < x.k
theorem okTo_succ {l : List RV} {vs : List Int} {least : Int} {j : Nat} {x : RV} {v : Int} (h : OkTo l vs least j) (hx : l[j]? = some x) (hv : vs[j]? = some v) (hb : least ≤ v ∧ v < x.k) : OkTo l vs least (j + 1) := fun i y u hi hy hu => by
  rcases Nat.lt_or_ge i j with h1 | h1
  · exact h i y u h1 hy hu
  · obtain rfl : i = j := by omega
    rw [hx] at hy; cases hy
    rw [hv] at hu; cases hu
    exact hb
theorem allowed_of {l : List RV} {vs : List Int} {least : Int} (hl : vs.length = l.length) (h : OkTo l vs least l.length) : allowedB (gnet l) vs least = true :=
  allowedB_true ⟨by simp [gnet, hl], fun i y v hy hv => by
    have hi := (List.getElem?_eq_some_iff.1 hy).1
    simp only [gnet, List.length_map] at hi
    obtain ⟨x, hx⟩ : ∃ x, l[i]? = some x := ⟨_, List.getElem?_eq_getElem hi⟩
    rw [gnet_get hx] at hy
    cases hy
    exact h i x v hi hx hv⟩
theorem not_allowed {l : List RV} {vs : List Int} {least : Int} {j : Nat} {x : RV} {v : Int} (hx : l[j]? = some x) (hv : vs[j]? = some v) (hb : ¬ (least ≤ v ∧ v < x.k)) : allowedB (gnet l) vs least = false :=
  allowedB_false fun ⟨_, h⟩ => hb (h j (gvar x) v (gnet_get hx) hv)

set_option maxHeartbeats 3200000 in
set_option maxRecDepth 100000 in
theorem xallowed_law (N : Nat) (l : List RV) (vs : List Int) (a va : Option Addr) (c vc : Nat) (op : Bool) (hl : l.length ≤ 100) (hvl : vs.length ≤ 100) (w : World) (hN : RefAt N w a l) (hV : AtN N w va (ints vs)) (hw : N ≤ w.heap.size) :
    Calls Try.prog 38 #[.slice a l.length c, .slice va vs.length vc, .bool op] w fun e w' => e = .returned (.bool (allowedB (gnet l) vs (leastOf op))) ∧ Below w.heap.size w w' := by
  have HN := Lib.hid hN
  have HV := Lib.hid hV
  clear hN hV
  by_cases hlen : vs.length = l.length
  · have hlen1 : ((vs.length : Int) == (l.length : Int)) = true := by simp [hlen]
    have HLEN := Lib.hid hlen
    go_enter Try.func38, Try.ntmps38
    rw [hlen]
    clear hlen hvl hlen1
    go_wp2_with fail
    go_loopw [7] (fun i wr => ∃ j : Nat, j ≤ l.length ∧ i = .int .i64 j ∧ Hid (OkTo l vs (leastOf op) j) ∧ Hid (Below w.heap.size w wr))
      (fun i _ => l.length - (intOf i).toNat)
    case atStart => exact ⟨0, Nat.zero_le _, rfl, fun i x v h => by omega, Below.refl _ _⟩
    case round =>
      obtain ⟨j, hj, rfl, HO, HB⟩ := hrel
      by_cases hlt : j < l.length
      · have hd : decide (j < l.length) = true := by simpa using hlt
        obtain ⟨x, hx⟩ : ∃ x, l[j]? = some x := ⟨_, List.getElem?_eq_getElem hlt⟩
        obtain ⟨v, hv⟩ : ∃ v, vs[j]? = some v := ⟨_, List.getElem?_eq_getElem (by rw [HLEN.out]; exact hlt)⟩
        have HX := Lib.hid hx
        have HVJ := Lib.hid hv
        obtain ⟨b, o, pa, pc, ta, tc, hb, rfl, n0, _⟩ := HN.out j x hx
        obtain ⟨vb, vo, hvb, rfl, e0⟩ := HV.out j _ (ints_get _ _ _ hv)
        have N0 := Lib.hid n0
        have E0 := Lib.hid e0
        have hbw : b < w.heap.size := by omega
        have hvbw : vb < w.heap.size := by omega
        clear hx hv n0 e0
        have hgood : (leastOf op ≤ v ∧ v < x.k) → Hid (OkTo l vs (leastOf op) (j + 1)) := fun h => okTo_succ HO.out HX.out HVJ.out h
        have hbad : ¬ (leastOf op ≤ v ∧ v < x.k) → Hid (allowedB (gnet l) vs (leastOf op) = false) := fun h => not_allowed HX.out HVJ.out h
        by_cases hk : x.k ≤ v
        · have HF := hbad (fun h => by omega)
          clear hgood hbad hd
          go_wp2_with fail
          refine wp_game [0, 0, 0, 0, 0, 0, 0, 0, 0, 0, 0, 0, 0, 0, 0, 0, 0, 0, 0, 0, 0, 0, 0, 0, 0, 0, 0, 0] [] B0 fin_B0 (has_B0 _) (by kernel_rfl) (by kernel_rfl) ?_
          refine lex_quietE 28 (by kernel_rfl) (by rfl) ?_
          apply Exists.intro
          refine ⟨fun z hz => ?_, ?_⟩
          · have hwz := HB.out.trans (hz.below_of (b := w.heap.size) (by simp) HB.out.size)
            have g0 := below_cellp hwz N0.out hbw
            have g1 := below_cellp hwz E0.out hvbw
            clear hz hwz
            simp only [List.take_succ_cons, List.take_zero]
            unfold Cx
            repeat (go_big_quiet_step (fail))
            exact wpQuiet_nil rfl
          simp only [List.drop_succ_cons, List.drop_zero]
          refine lex_nil ?_
          intro x7 hx7 _
          have HB7 := Lib.hid (HB.out.trans (hx7.below_of (b := w.heap.size) (by simp) HB.out.size))
          clear hx7 HB HO N0 E0
          go_wp2_with fail
          go_ret
          exact ⟨by rw [HF.out]; rfl, HB7.out⟩
        have hk' : v < x.k := by omega
        have hkn : decide (x.k ≤ v) = false := by simpa using hk'
        clear hk
        by_cases h0 : 0 ≤ v
        · have HG := hgood ⟨by cases op <;> simp [leastOf] <;> omega, hk'⟩
          have h0n : decide (v < 0) = false := by simpa using h0
          clear hgood hbad hd
          go_wp2_with fail
          refine wp_game [0, 0, 0, 0, 0, 0, 0, 0, 0, 0, 0, 0, 0, 0, 0, 0, 0, 0, 0, 0, 0, 0, 0, 0, 0, 0, 0, 0] [] B0 fin_B0 (has_B0 _) (by kernel_rfl) (by kernel_rfl) ?_
          refine lex_quietE 28 (by kernel_rfl) (by rfl) ?_
          apply Exists.intro
          refine ⟨fun z hz => ?_, ?_⟩
          · have hwz := HB.out.trans (hz.below_of (b := w.heap.size) (by simp) HB.out.size)
            have g0 := below_cellp hwz N0.out hbw
            have g1 := below_cellp hwz E0.out hvbw
            clear hz hwz
            simp only [List.take_succ_cons, List.take_zero]
            unfold Cx
            repeat (go_big_quiet_step (fail))
            exact wpQuiet_nil rfl
          simp only [List.drop_succ_cons, List.drop_zero]
          refine lex_nil ?_
          intro x7 hx7 _
          have HB7 := Lib.hid (HB.out.trans (hx7.below_of (b := w.heap.size) (by simp) HB.out.size))
          clear hx7 HB HO N0 E0
          go_wp2_with fail
          go_roundw
          case rel => exact ⟨j + 1, by omega, by go_num, HG, HB7⟩
          case measure => simp [intOf]; omega
        have h0' : v < 0 := by omega
        clear h0
        cases op with
        | false =>
          have HF := hbad (fun h => by have := h.1; simp [leastOf] at this; omega)
          clear hgood hbad hd
          go_wp2_with fail
          refine wp_game [0, 0, 0, 0, 0, 0, 0, 0, 0, 0, 0, 0, 0, 0, 0, 0, 0, 0, 0, 0, 0, 0, 0, 0, 0, 0, 0, 0] [] B0 fin_B0 (has_B0 _) (by kernel_rfl) (by kernel_rfl) ?_
          refine lex_quietE 28 (by kernel_rfl) (by rfl) ?_
          apply Exists.intro
          refine ⟨fun z hz => ?_, ?_⟩
          · have hwz := HB.out.trans (hz.below_of (b := w.heap.size) (by simp) HB.out.size)
            have g0 := below_cellp hwz N0.out hbw
            have g1 := below_cellp hwz E0.out hvbw
            clear hz hwz
            simp only [List.take_succ_cons, List.take_zero]
            unfold Cx
            repeat (go_big_quiet_step (fail))
            exact wpQuiet_nil rfl
          simp only [List.drop_succ_cons, List.drop_zero]
          refine lex_nil ?_
          intro x7 hx7 _
          have HB7 := Lib.hid (HB.out.trans (hx7.below_of (b := w.heap.size) (by simp) HB.out.size))
          clear hx7 HB HO N0 E0
          go_wp2_with fail
          go_ret
          exact ⟨by rw [HF.out]; rfl, HB7.out⟩
        | true =>
          by_cases h1 : v = -1
          · subst h1
            have HG := hgood ⟨by simp [leastOf], hk'⟩
            clear hgood hbad hd
            go_wp2_with fail
            refine wp_game [0, 0, 0, 0, 0, 0, 0, 0, 0, 0, 0, 0, 0, 0, 0, 0, 0, 0, 0, 0, 0, 0, 0, 0, 0, 0, 0, 0] [] B0 fin_B0 (has_B0 _) (by kernel_rfl) (by kernel_rfl) ?_
            refine lex_quietE 28 (by kernel_rfl) (by rfl) ?_
            apply Exists.intro
            refine ⟨fun z hz => ?_, ?_⟩
            · have hwz := HB.out.trans (hz.below_of (b := w.heap.size) (by simp) HB.out.size)
              have g0 := below_cellp hwz N0.out hbw
              have g1 := below_cellp hwz E0.out hvbw
              clear hz hwz
              simp only [List.take_succ_cons, List.take_zero]
              unfold Cx
              repeat (go_big_quiet_step (fail))
              exact wpQuiet_nil rfl
            simp only [List.drop_succ_cons, List.drop_zero]
            refine lex_nil ?_
            intro x7 hx7 _
            have HB7 := Lib.hid (HB.out.trans (hx7.below_of (b := w.heap.size) (by simp) HB.out.size))
            clear hx7 HB HO N0 E0
            go_wp2_with fail
            go_roundw
            case rel => exact ⟨j + 1, by omega, by go_num, HG, HB7⟩
            case measure => simp [intOf]; omega
          · have HF := hbad (fun h => by have := h.1; simp [leastOf] at this; omega)
            have h2 : (v == -1) = false := beq_no h1
            clear hgood hbad hd
            go_wp2_with fail
            refine wp_game [0, 0, 0, 0, 0, 0, 0, 0, 0, 0, 0, 0, 0, 0, 0, 0, 0, 0, 0, 0, 0, 0, 0, 0, 0, 0, 0, 0] [] B0 fin_B0 (has_B0 _) (by kernel_rfl) (by kernel_rfl) ?_
            refine lex_quietE 28 (by kernel_rfl) (by rfl) ?_
            apply Exists.intro
            refine ⟨fun z hz => ?_, ?_⟩
            · have hwz := HB.out.trans (hz.below_of (b := w.heap.size) (by simp) HB.out.size)
              have g0 := below_cellp hwz N0.out hbw
              have g1 := below_cellp hwz E0.out hvbw
              clear hz hwz
              simp only [List.take_succ_cons, List.take_zero]
              unfold Cx
              repeat (go_big_quiet_step (fail))
              exact wpQuiet_nil rfl
            simp only [List.drop_succ_cons, List.drop_zero]
            refine lex_nil ?_
            intro x7 hx7 _
            have HB7 := Lib.hid (HB.out.trans (hx7.below_of (b := w.heap.size) (by simp) HB.out.size))
            clear hx7 HB HO N0 E0
            go_wp2_with fail
            go_ret
            exact ⟨by rw [HF.out]; rfl, HB7.out⟩
      · obtain rfl : j = l.length := by omega
        have HE : Hid (allowedB (gnet l) vs (leastOf op) = true) := allowed_of HLEN.out HO.out
        clear HO
        go_wp2_with fail
        go_ret
        exact ⟨by rw [HE.out]; rfl, HB.out⟩
  · have hlen1 : ((vs.length : Int) == (l.length : Int)) = false := beq_no (by omega)
    have hne : (vs.length : Int) ≠ (l.length : Int) := by omega
    have HF : Hid (allowedB (gnet l) vs (leastOf op) = false) := allowedB_false fun ⟨h, _⟩ => hlen (by simpa [gnet] using h)
    go_enter Try.func38, Try.ntmps38
    go_wp2_with fail
    go_ret
    exact ⟨by rw [HF.out]; rfl, Below.refl _ _⟩
end Go.Proofs.Ytbacloneddnaeaa
