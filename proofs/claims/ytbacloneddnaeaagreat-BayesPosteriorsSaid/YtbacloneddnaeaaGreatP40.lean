/- Texts of this claim, joined: BRefA, BJntP, BJnt, BAskP, BPstP, BKeep, BLists. -/
import Derived.Test.YtbacloneddnaeaaGreatP39
import Derived.Test.YtbacloneddnaeaaGreatP37
import Derived.Test.YtbacloneddnaeaaGreatP38
import Derived.Test.YtbacloneddnaeaaGreatP23

/- censusref40.allowed. -/
namespace Go.Proofs.YtbacloneddnaeaaGreat
open Go.RowKit Go.Shelf Num

def leastOf (op : Bool) : Int := if op then -1 else 0
def OkTo (l : List RV) (vs : List Int) (least : Int) (j : Nat) : Prop := ∀ (i : Nat) (x : RV) (v : Int), i < j → l[i]? = some x → vs[i]? = some v → least ≤ v ∧ v < x.k
theorem okTo_succ {l : List RV} {vs : List Int} {least : Int} {j : Nat} {x : RV} {v : Int} (h : OkTo l vs least j) (hx : l[j]? = some x) (hv : vs[j]? = some v) (hb : least ≤ v ∧ v < x.k) : OkTo l vs least (j + 1) := fun i y u hi hy hu => by
  rcases Nat.lt_or_ge i j with h1 | h1
  · exact h i y u h1 hy hu
  · obtain rfl : i = j := by omega
    rw [hx] at hy; cases hy
    rw [hv] at hu; cases hu
    exact hb
theorem allowed_of {l : List RV} {vs : List Int} {least : Int} (hl : vs.length = l.length) (h : OkTo l vs least l.length) : allowedB (gnet l) vs least = true :=
  allowedB_true ⟨by simp [gnet, hl], fun i y v hy hv => by
    have hi := (List.getElem?_eq_some_iff.1 hy).1
    simp only [gnet, List.length_map] at hi
    obtain ⟨x, hx⟩ : ∃ x, l[i]? = some x := ⟨_, List.getElem?_eq_getElem hi⟩
    rw [gnet_get hx] at hy
    cases hy
    exact h i x v hi hx hv⟩
theorem not_allowed {l : List RV} {vs : List Int} {least : Int} {j : Nat} {x : RV} {v : Int} (hx : l[j]? = some x) (hv : vs[j]? = some v) (hb : ¬ (least ≤ v ∧ v < x.k)) : allowedB (gnet l) vs least = false :=
  allowedB_false fun ⟨_, h⟩ => hb (h j (gvar x) v (gnet_get hx) hv)

set_option maxHeartbeats 3200000 in
set_option maxRecDepth 100000 in
theorem xallowed_law (N : Nat) (l : List RV) (vs : List Int) (a va : Option Addr) (c vc : Nat) (op : Bool) (hl : l.length ≤ 100) (hvl : vs.length ≤ 100) (w : World) (hN : RefAt N w a l) (hV : AtN N w va (ints vs)) (hw : N ≤ w.heap.size) :
    Calls Tryz.prog 23 #[.slice a l.length c, .slice va vs.length vc, .bool op] w fun e w' => e = .returned (.bool (allowedB (gnet l) vs (leastOf op))) ∧ Below w.heap.size w w' := by
  have HN := Lib.hid hN
  have HV := Lib.hid hV
  clear hN hV
  by_cases hlen : vs.length = l.length
  · have hlen1 : ((vs.length : Int) == (l.length : Int)) = true := by simp [hlen]
    have HLEN := Lib.hid hlen
    go_enter Tryz.func23, Tryz.ntmps23
    rw [hlen]
    clear hlen hvl hlen1
    go_wp2_with fail
    go_loopw [7] (fun i wr => ∃ j : Nat, j ≤ l.length ∧ i = .int .i64 j ∧ Hid (OkTo l vs (leastOf op) j) ∧ Hid (Below w.heap.size w wr))
      (fun i _ => l.length - (intOf i).toNat)
    case atStart => exact ⟨0, Nat.zero_le _, rfl, fun i x v h => by omega, Below.refl _ _⟩
    case round =>
      obtain ⟨j, hj, rfl, HO, HB⟩ := hrel
      by_cases hlt : j < l.length
      · have hd : decide (j < l.length) = true := by simpa using hlt
        obtain ⟨x, hx⟩ : ∃ x, l[j]? = some x := ⟨_, List.getElem?_eq_getElem hlt⟩
        obtain ⟨v, hv⟩ : ∃ v, vs[j]? = some v := ⟨_, List.getElem?_eq_getElem (by rw [HLEN.out]; exact hlt)⟩
        have HX := Lib.hid hx
        have HVJ := Lib.hid hv
        obtain ⟨b, o, pa, pc, ta, tc, hb, rfl, n0, _⟩ := HN.out j x hx
        obtain ⟨vb, vo, hvb, rfl, e0⟩ := HV.out j _ (ints_get _ _ _ hv)
        have N0 := Lib.hid n0
        have E0 := Lib.hid e0
        have hbw : b < w.heap.size := by omega
        have hvbw : vb < w.heap.size := by omega
        clear hx hv n0 e0
        have hgood : (leastOf op ≤ v ∧ v < x.k) → Hid (OkTo l vs (leastOf op) (j + 1)) := fun h => okTo_succ HO.out HX.out HVJ.out h
        have hbad : ¬ (leastOf op ≤ v ∧ v < x.k) → Hid (allowedB (gnet l) vs (leastOf op) = false) := fun h => not_allowed HX.out HVJ.out h
        by_cases hk : x.k ≤ v
        · have HF := hbad (fun h => by omega)
          clear hgood hbad hd
          go_wp2_with fail
          refine wp_game [0, 0, 0, 0, 0, 0, 0, 0, 0, 0, 0, 0, 0, 0, 0, 0, 0, 0, 0, 0, 0, 0, 0, 0, 0, 0, 0, 0] [] B0 fin_B0 (has_B0 _) (by kernel_rfl) (by kernel_rfl) ?_
          refine lex_quietE 28 (by kernel_rfl) (by rfl) ?_
          apply Exists.intro
          refine ⟨fun z hz => ?_, ?_⟩
          · have hwz := HB.out.trans (hz.below_of (b := w.heap.size) (by simp) HB.out.size)
            have g0 := below_cellp hwz N0.out hbw
            have g1 := below_cellp hwz E0.out hvbw
            clear hz hwz
            simp only [List.take_succ_cons, List.take_zero]
            unfold Cx
            repeat (go_big_quiet_step (fail))
            exact wpQuiet_nil rfl
          simp only [List.drop_succ_cons, List.drop_zero]
          refine lex_nil ?_
          intro x7 hx7 _
          have HB7 := Lib.hid (HB.out.trans (hx7.below_of (b := w.heap.size) (by simp) HB.out.size))
          clear hx7 HB HO N0 E0
          go_wp2_with fail
          go_ret
          exact ⟨by rw [HF.out]; rfl, HB7.out⟩
        have hk' : v < x.k := by omega
        have hkn : decide (x.k ≤ v) = false := by simpa using hk'
        clear hk
        by_cases h0 : 0 ≤ v
        · have HG := hgood ⟨by cases op <;> simp [leastOf] <;> omega, hk'⟩
          have h0n : decide (v < 0) = false := by simpa using h0
          clear hgood hbad hd
          go_wp2_with fail
          refine wp_game [0, 0, 0, 0, 0, 0, 0, 0, 0, 0, 0, 0, 0, 0, 0, 0, 0, 0, 0, 0, 0, 0, 0, 0, 0, 0, 0, 0] [] B0 fin_B0 (has_B0 _) (by kernel_rfl) (by kernel_rfl) ?_
          refine lex_quietE 28 (by kernel_rfl) (by rfl) ?_
          apply Exists.intro
          refine ⟨fun z hz => ?_, ?_⟩
          · have hwz := HB.out.trans (hz.below_of (b := w.heap.size) (by simp) HB.out.size)
            have g0 := below_cellp hwz N0.out hbw
            have g1 := below_cellp hwz E0.out hvbw
            clear hz hwz
            simp only [List.take_succ_cons, List.take_zero]
            unfold Cx
            repeat (go_big_quiet_step (fail))
            exact wpQuiet_nil rfl
          simp only [List.drop_succ_cons, List.drop_zero]
          refine lex_nil ?_
          intro x7 hx7 _
          have HB7 := Lib.hid (HB.out.trans (hx7.below_of (b := w.heap.size) (by simp) HB.out.size))
          clear hx7 HB HO N0 E0
          go_wp2_with fail
          go_roundw
          case rel => exact ⟨j + 1, by omega, by go_num, HG, HB7⟩
          case measure => simp [intOf]; omega
        have h0' : v < 0 := by omega
        clear h0
        cases op with
        | false =>
          have HF := hbad (fun h => by have := h.1; simp [leastOf] at this; omega)
          clear hgood hbad hd
          go_wp2_with fail
          refine wp_game [0, 0, 0, 0, 0, 0, 0, 0, 0, 0, 0, 0, 0, 0, 0, 0, 0, 0, 0, 0, 0, 0, 0, 0, 0, 0, 0, 0] [] B0 fin_B0 (has_B0 _) (by kernel_rfl) (by kernel_rfl) ?_
          refine lex_quietE 28 (by kernel_rfl) (by rfl) ?_
          apply Exists.intro
          refine ⟨fun z hz => ?_, ?_⟩
          · have hwz := HB.out.trans (hz.below_of (b := w.heap.size) (by simp) HB.out.size)
            have g0 := below_cellp hwz N0.out hbw
            have g1 := below_cellp hwz E0.out hvbw
            clear hz hwz
            simp only [List.take_succ_cons, List.take_zero]
            unfold Cx
            repeat (go_big_quiet_step (fail))
            exact wpQuiet_nil rfl
          simp only [List.drop_succ_cons, List.drop_zero]
          refine lex_nil ?_
          intro x7 hx7 _
          have HB7 := Lib.hid (HB.out.trans (hx7.below_of (b := w.heap.size) (by simp) HB.out.size))
          clear hx7 HB HO N0 E0
          go_wp2_with fail
          go_ret
          exact ⟨by rw [HF.out]; rfl, HB7.out⟩
        | true =>
          by_cases h1 : v = -1
          · subst h1
            have HG := hgood ⟨by simp [leastOf], hk'⟩
            clear hgood hbad hd
            go_wp2_with fail
            refine wp_game [0, 0, 0, 0, 0, 0, 0, 0, 0, 0, 0, 0, 0, 0, 0, 0, 0, 0, 0, 0, 0, 0, 0, 0, 0, 0, 0, 0] [] B0 fin_B0 (has_B0 _) (by kernel_rfl) (by kernel_rfl) ?_
            refine lex_quietE 28 (by kernel_rfl) (by rfl) ?_
            apply Exists.intro
            refine ⟨fun z hz => ?_, ?_⟩
            · have hwz := HB.out.trans (hz.below_of (b := w.heap.size) (by simp) HB.out.size)
              have g0 := below_cellp hwz N0.out hbw
              have g1 := below_cellp hwz E0.out hvbw
              clear hz hwz
              simp only [List.take_succ_cons, List.take_zero]
              unfold Cx
              repeat (go_big_quiet_step (fail))
              exact wpQuiet_nil rfl
            simp only [List.drop_succ_cons, List.drop_zero]
            refine lex_nil ?_
            intro x7 hx7 _
            have HB7 := Lib.hid (HB.out.trans (hx7.below_of (b := w.heap.size) (by simp) HB.out.size))
            clear hx7 HB HO N0 E0
            go_wp2_with fail
            go_roundw
            case rel => exact ⟨j + 1, by omega, by go_num, HG, HB7⟩
            case measure => simp [intOf]; omega
          · have HF := hbad (fun h => by have := h.1; simp [leastOf] at this; omega)
            have h2 : (v == -1) = false := beq_no h1
            clear hgood hbad hd
            go_wp2_with fail
            refine wp_game [0, 0, 0, 0, 0, 0, 0, 0, 0, 0, 0, 0, 0, 0, 0, 0, 0, 0, 0, 0, 0, 0, 0, 0, 0, 0, 0, 0] [] B0 fin_B0 (has_B0 _) (by kernel_rfl) (by kernel_rfl) ?_
            refine lex_quietE 28 (by kernel_rfl) (by rfl) ?_
            apply Exists.intro
            refine ⟨fun z hz => ?_, ?_⟩
            · have hwz := HB.out.trans (hz.below_of (b := w.heap.size) (by simp) HB.out.size)
              have g0 := below_cellp hwz N0.out hbw
              have g1 := below_cellp hwz E0.out hvbw
              clear hz hwz
              simp only [List.take_succ_cons, List.take_zero]
              unfold Cx
              repeat (go_big_quiet_step (fail))
              exact wpQuiet_nil rfl
            simp only [List.drop_succ_cons, List.drop_zero]
            refine lex_nil ?_
            intro x7 hx7 _
            have HB7 := Lib.hid (HB.out.trans (hx7.below_of (b := w.heap.size) (by simp) HB.out.size))
            clear hx7 HB HO N0 E0
            go_wp2_with fail
            go_ret
            exact ⟨by rw [HF.out]; rfl, HB7.out⟩
      · obtain rfl : j = l.length := by omega
        have HE : Hid (allowedB (gnet l) vs (leastOf op) = true) := allowed_of HLEN.out HO.out
        clear HO
        go_wp2_with fail
        go_ret
        exact ⟨by rw [HE.out]; rfl, HB.out⟩
  · have hlen1 : ((vs.length : Int) == (l.length : Int)) = false := beq_no (by omega)
    have hne : (vs.length : Int) ≠ (l.length : Int) := by omega
    have HF : Hid (allowedB (gnet l) vs (leastOf op) = false) := allowedB_false fun ⟨h, _⟩ => hlen (by simpa [gnet] using h)
    go_enter Tryz.func23, Tryz.ntmps23
    go_wp2_with fail
    go_ret
    exact ⟨by rw [HF.out]; rfl, Below.refl _ _⟩
end Go.Proofs.YtbacloneddnaeaaGreat

/- The probability of an assignment: the tree of choices and the product. -/
namespace Go.Proofs.YtbacloneddnaeaaGreat
open Go.RowKit Go.Shelf Num

theorem pAt_take {l : List BV} (hg : Good l) (vs : List Nat) (n : Nat) : pAt l n (vs.take (n + 1)) = pAt l n vs := by
  unfold pAt
  cases h : l[n]? with
  | none => rfl
  | some x =>
    have e : (vs.take (n + 1)).getD n 0 = vs.getD n 0 := by
      rw [List.getD_eq_getElem?_getD, List.getD_eq_getElem?_getD, List.getElem?_take, if_pos (by omega)]
    simp only [e]
    rw [idxFrom_take l vs (n + 1) x.ps 0 (fun p hp => by have := hg.par n x h p hp; omega)]

end Go.Proofs.YtbacloneddnaeaaGreat

/- censusref40.Joint; BayesJoints: the walk. -/
namespace Go.Proofs.YtbacloneddnaeaaGreat
open Go.RowKit Go.Shelf Num

end Go.Proofs.YtbacloneddnaeaaGreat

/- Probabilities of evidence: the sum over all assignments, one after another; plain laws. -/
namespace Go.Proofs.YtbacloneddnaeaaGreat
open Num

def allV (ks : List Nat) : List (List Nat) := extsQ (ks.map List.range)
theorem allV_cons (k : Nat) (ks : List Nat) : allV (k :: ks) = (List.range k).flatMap fun x => (allV ks).map (x :: ·) := rfl

def nextV : List Nat → List Nat → Option (List Nat)
  | k :: ks, v :: vs => match nextV ks vs with
    | some u => some (v :: u)
    | none => if v + 1 < k then some ((v + 1) :: List.replicate vs.length 0) else none
  | _, _ => none

theorem nextV_cons_some {k v : Nat} {ks vs u : List Nat} (h : nextV ks vs = some u) : nextV (k :: ks) (v :: vs) = some (v :: u) := by
  simp only [nextV, h]
theorem nextV_cons_none {k v : Nat} {ks vs : List Nat} (h : nextV ks vs = none) : nextV (k :: ks) (v :: vs) = if v + 1 < k then some ((v + 1) :: List.replicate vs.length 0) else none := by
  simp only [nextV, h]
theorem nextV_pre : ∀ (js bs ks vs : List Nat), js.length = bs.length → ∀ u, nextV ks vs = some u → nextV (js ++ ks) (bs ++ vs) = some (bs ++ u)
  | [], [], _, _, _, _, h => h
  | j :: js, b :: bs, ks, vs, hl, u, h => by
    have := nextV_pre js bs ks vs (by simpa using hl) u h
    exact nextV_cons_some this

def Path {α : Type} (nx : α → Option α) : List α → Option α → Prop
  | [], _ => True
  | x :: L, z => nx x = (L.head?).or z ∧ Path nx L z

theorem path_append {α : Type} {nx : α → Option α} : ∀ (L M : List α) (z : Option α), Path nx L (M.head?.or z) → Path nx M z → Path nx (L ++ M) z
  | [], _, _, _, h => h
  | x :: L, M, z, h1, h2 => by
    refine ⟨?_, path_append L M z h1.2 h2⟩
    show nx x = (L ++ M).head?.or z
    rw [h1.1, List.head?_append]
    cases L <;> simp
theorem path_at {α : Type} {nx : α → Option α} : ∀ (L : List α) (x : α) (M : List α), Path nx (L ++ x :: M) none → nx x = M.head?
  | [], x, M, h => by
    have := h.1
    simpa using this
  | _ :: L, x, M, h => path_at L x M h.2

theorem path_cons {k x : Nat} {ks : List Nat} (n : Nat) (z : Option (List Nat)) (hz : z = if x + 1 < k then some ((x + 1) :: List.replicate n 0) else none) : ∀ (L : List (List Nat)), (∀ l ∈ L, l.length = n) → Path (nextV ks) L none → Path (nextV (k :: ks)) (L.map (x :: ·)) z
  | [], _, _ => trivial
  | l :: L, hl, h => by
    refine ⟨?_, path_cons n z hz L (fun l' h' => hl l' (by simp [h'])) h.2⟩
    have h1 := h.1
    cases L with
    | nil =>
      have h2 : nextV ks l = none := by simpa using h1
      rw [nextV_cons_none h2, hl l (by simp), hz]; rfl
    | cons m L =>
      have h2 : nextV ks l = some m := by simpa using h1
      rw [nextV_cons_some h2]; simp

theorem allV_length : ∀ (ks : List Nat) (l : List Nat), l ∈ allV ks → l.length = ks.length
  | [], l, h => by
    have : l = [] := by simpa [allV, extsQ] using h
    subst this; rfl
  | k :: ks, l, h => by
    rw [allV_cons] at h
    obtain ⟨x, _, h2⟩ := List.mem_flatMap.1 h
    obtain ⟨m, hm, rfl⟩ := List.mem_map.1 h2
    simp [allV_length ks m hm]
theorem allV_head : ∀ (ks : List Nat), (∀ k ∈ ks, 0 < k) → (allV ks).head? = some (List.replicate ks.length 0)
  | [], _ => rfl
  | k :: ks, h => by
    have ih := allV_head ks (fun j hj => h j (by simp [hj]))
    obtain ⟨j, rfl⟩ : ∃ j, k = j + 1 := ⟨k - 1, by have := h k (by simp); omega⟩
    rw [allV_cons, List.range_succ_eq_map, List.flatMap_cons]
    cases hA : allV ks with
    | nil => rw [hA] at ih; cases ih
    | cons m M =>
      rw [hA] at ih
      have : m = List.replicate ks.length 0 := by simpa using ih
      subst this
      simp [List.replicate_succ]

theorem blocks_path (k : Nat) (ks : List Nat) (hks : ∀ k ∈ ks, 0 < k) (h : Path (nextV ks) (allV ks) none) : ∀ (m x : Nat), x + m = k → Path (nextV (k :: ks)) ((List.range' x m).flatMap fun y => (allV ks).map (y :: ·)) none
  | 0, _, _ => trivial
  | m + 1, x, hx => by
    rw [List.range'_succ, List.flatMap_cons]
    refine path_append _ _ _ (path_cons ks.length _ ?_ _ (allV_length ks) h) (blocks_path k ks hks h m (x + 1) (by omega))
    have hh := allV_head ks hks
    cases m with
    | zero => rw [if_neg (by omega)]; rfl
    | succ m =>
      rw [if_pos (by omega), List.range'_succ, List.flatMap_cons]
      cases hA : allV ks with
      | nil => rw [hA] at hh; cases hh
      | cons a A =>
        rw [hA] at hh
        have : a = List.replicate ks.length 0 := by simpa using hh
        subst this
        simp
theorem allV_path : ∀ (ks : List Nat), (∀ k ∈ ks, 0 < k) → Path (nextV ks) (allV ks) none
  | [], _ => ⟨rfl, trivial⟩
  | k :: ks, h => by
    have hks : ∀ j ∈ ks, 0 < j := fun j hj => h j (by simp [hj])
    rw [allV_cons, List.range_eq_range']
    exact blocks_path k ks hks (allV_path ks hks) k 0 (by omega)
theorem allV_lt : ∀ (ks l : List Nat), l ∈ allV ks → ∀ (i k v : Nat), ks[i]? = some k → l[i]? = some v → v < k
  | [], _, _ => fun i k v h => by simp at h
  | k :: ks, l, h => by
    rw [allV_cons] at h
    obtain ⟨x, hx, h2⟩ := List.mem_flatMap.1 h
    obtain ⟨m, hm, rfl⟩ := List.mem_map.1 h2
    intro i k' v hk hv
    cases i with
    | zero =>
      simp only [List.getElem?_cons_zero, Option.some.injEq] at hk hv
      subst hk hv
      exact List.mem_range.1 hx
    | succ i => exact allV_lt ks m hm i k' v (by simpa using hk) (by simpa using hv)
theorem allV_count : ∀ (ks : List Nat), (allV ks).length = ks.foldr (· * ·) 1
  | [] => rfl
  | k :: ks => by
    rw [allV_cons, List.length_flatMap]
    simp only [List.length_map, allV_count ks, List.foldr_cons]
    have : ∀ (c n : Nat), ((List.range n).map fun _ => c).sum = n * c := fun c n => by
      induction n with
      | zero => simp
      | succ n ih => rw [List.range_succ, List.map_append, List.sum_append, ih, Nat.succ_mul]; simp
    exact this _ k

def agreesB (vs : List Nat) (ev : List Int) : Bool := (vs.zipIdx 0).all fun q => decide (ev.getD q.2 0 < 0 ∨ ev.getD q.2 0 = (q.1 : Int))

theorem fromQ_tree {l : List BV} (hg : Good l) (ev : List Int) : ∀ (d : Nat) (pre : List Nat), pre.length + d = l.length → fromQ l ev d pre = treeQ (fun vs => pAt l (vs.length - 1) vs) (((List.range' pre.length d).map fun i => chosen (ev.getD i 0) (kAt l i))) pre
  | 0, _, _ => rfl
  | d + 1, pre, h => by
    rw [fromQ_sum hg ev d pre h, List.range'_succ, List.map_cons]
    show _ = Q.sumL (List.map _ _)
    congr 1
    refine List.map_congr_left fun x _ => ?_
    have := fromQ_tree hg ev d (pre ++ [x]) (by simp; omega)
    simp only [List.length_append, List.length_cons, List.length_nil, Nat.zero_add] at this
    rw [this]
    simp

theorem pAt_cut {l : List BV} (hg : Good l) (vs : List Nat) {i n : Nat} (h : i < n) : pAt l i (vs.take n) = pAt l i vs := by
  have h1 := pAt_take hg (vs.take n) (n := i)
  have h2 := pAt_take hg vs (n := i)
  rw [List.take_take, Nat.min_eq_left h] at h1
  rw [← h1, h2]
theorem prodV_cut {l : List BV} (hg : Good l) (vs : List Nat) (n : Nat) : ∀ j, j ≤ n → prodV l (vs.take n) j = prodV l vs j
  | 0, _ => rfl
  | j + 1, h => by rw [prodV_succ, prodV_succ, prodV_cut hg vs n j (by omega), pAt_cut hg vs (by omega)]

theorem prodQ_prodV {l : List BV} (hg : Good l) : ∀ (ext pre : List Nat), prodQ (fun vs => pAt l (vs.length - 1) vs) (prodV l pre pre.length) pre ext = prodV l (pre ++ ext) (pre ++ ext).length
  | [], pre => by simp [prodQ]
  | x :: ext, pre => by
    have ih := prodQ_prodV hg ext (pre ++ [x])
    have e : prodV l (pre ++ [x]) (pre ++ [x]).length = Q.mul (prodV l pre pre.length) (pAt l pre.length (pre ++ [x])) := by
      have h1 : (pre ++ [x]).length = pre.length + 1 := by simp
      rw [h1, prodV_succ]
      congr 1
      have := prodV_cut hg (pre ++ [x]) pre.length pre.length (Nat.le_refl _)
      rw [List.take_left' rfl] at this
      exact this.symm
    rw [e] at ih
    simp only [prodQ]
    simp only [List.length_append, List.length_cons, List.length_nil, Nat.zero_add, Nat.add_sub_cancel]
    rw [ih]
    simp

def askV (l : List BV) (ev : List Int) (vss : List (List Nat)) : Nat × Nat := Q.sumL ((vss.filter (agreesB · ev)).map fun vs => prodV l vs l.length)

theorem askV_all {l : List BV} (hg : Good l) (ev : List Int) : askV l ev (allV (ksOf l)) = fromQ l ev l.length [] := by
  have hp : ∀ vs, Q.Low (pAt l (vs.length - 1) vs) := fun vs => (pAt_low hg _ _).1
  rw [fromQ_tree hg ev l.length [] (by simp)]
  have h1 := treeQ_sum hp ((List.range' 0 l.length).map fun i => chosen (ev.getD i 0) (kAt l i)) [] (1, 1) Q.low11
  rw [Q.one_mul (treeQ_low hp _ _)] at h1
  rw [List.length_nil, ← h1]
  have h2 := extsQ_filter (fun (i x : Nat) => decide (ev.getD i 0 < 0 ∨ ev.getD i 0 = (x : Int))) ((ksOf l).map List.range) 0
  have e : (((ksOf l).map List.range).zipIdx 0).map (fun q => q.1.filter ((fun (i x : Nat) => decide (ev.getD i 0 < 0 ∨ ev.getD i 0 = (x : Int))) q.2)) = (List.range' 0 l.length).map fun i => chosen (ev.getD i 0) (kAt l i) := by
    apply List.ext_getElem?
    intro i
    rw [List.getElem?_map, List.getElem?_map, List.getElem?_zipIdx, List.getElem?_map]
    unfold ksOf
    rw [List.getElem?_map]
    cases h : l[i]? with
    | none =>
      have hi : l.length ≤ i := List.getElem?_eq_none_iff.1 h
      rw [List.getElem?_eq_none (by simp; omega)]; rfl
    | some x =>
      have hi : i < l.length := (List.getElem?_eq_some_iff.1 h).1
      rw [List.getElem?_range' hi]
      simp only [Option.map_some, Nat.zero_add, Nat.one_mul, kAt_of h]
      rfl
  rw [e] at h2
  unfold askV allV
  rw [show (fun vs => agreesB vs ev) = (fun l => (l.zipIdx 0).all fun q => (fun (i x : Nat) => decide (ev.getD i 0 < 0 ∨ ev.getD i 0 = (x : Int))) q.2 q.1) from rfl, h2]
  congr 1
  refine List.map_congr_left fun vs hvs => ?_
  have hlen : vs.length = l.length := by
    rw [← h2] at hvs
    have := allV_length (ksOf l) vs (List.mem_filter.1 hvs).1
    simpa [ksOf] using this
  have := prodQ_prodV hg vs []
  simp only [List.nil_append, List.length_nil, hlen] at this
  exact this.symm

theorem askV_nil (l : List BV) (ev : List Int) : askV l ev [] = (0, 1) := rfl
theorem askV_yes {l : List BV} {ev : List Int} {vss : List (List Nat)} {vs : List Nat} (h : agreesB vs ev = true) : askV l ev (vss ++ [vs]) = Q.add (askV l ev vss) (prodV l vs l.length) := by
  unfold askV Q.sumL
  rw [List.filter_append, List.map_append, List.foldl_append]
  simp [h]
theorem askV_no {l : List BV} {ev : List Int} {vss : List (List Nat)} {vs : List Nat} (h : agreesB vs ev = false) : askV l ev (vss ++ [vs]) = askV l ev vss := by
  unfold askV
  rw [List.filter_append]
  simp [h]
theorem sumL_sm {l : List BV} (hg : Good l) : ∀ (n : Nat) (vss : List (List Nat)), vss.length = n → Q.Low (Q.sumL (vss.map fun vs => prodV l vs l.length)) ∧ Sm (1 + n * 82) (Q.sumL (vss.map fun vs => prodV l vs l.length))
  | 0, vss, h => by
    obtain rfl : vss = [] := List.length_eq_zero_iff.1 h
    show Q.Low (0, 1) ∧ Sm (1 + 0 * 82) (0, 1)
    exact ⟨Q.low01, ⟨by decide, by decide⟩⟩
  | n + 1, vss, h => by
    obtain ⟨v', q, rfl⟩ : ∃ v' q, vss = v' ++ [q] := ⟨vss.dropLast, vss.getLast (by intro e; rw [e] at h; cases h), (List.dropLast_concat_getLast _).symm⟩
    obtain ⟨h1, h2⟩ := sumL_sm hg n v' (by simpa using h)
    obtain ⟨h3, h4⟩ := prodV_low hg q l.length
    have e : Q.sumL ((v' ++ [q]).map fun vs => prodV l vs l.length) = Q.add (Q.sumL (v'.map fun vs => prodV l vs l.length)) (prodV l q l.length) := by
      unfold Q.sumL
      rw [List.map_append, List.foldl_append]; rfl
    rw [e]
    exact ⟨Q.add_low h1 h3, (sm_add2 h2 h4).mono (by have := hg.len; omega)⟩
theorem askV_sm {l : List BV} (hg : Good l) (ev : List Int) (vss : List (List Nat)) : Q.Low (askV l ev vss) ∧ Sm (1 + vss.length * 82) (askV l ev vss) := by
  obtain ⟨h1, h2⟩ := sumL_sm hg _ (vss.filter (agreesB · ev)) rfl
  have h3 := List.length_filter_le (agreesB · ev) vss
  exact ⟨h1, h2.mono (by have := Nat.mul_le_mul_right 82 h3; omega)⟩

theorem allV_fit {l : List BV} (hg : Good l) {vs : List Nat} (h : vs ∈ allV (ksOf l)) : Fit l vs := by
  refine ⟨by have := allV_length _ _ h; simpa [ksOf] using this, hg.kb, fun i x v hx hv => ?_⟩
  have := allV_lt _ _ h i x.k.toNat v (by simp [ksOf, hx]) hv
  have := hg.kb i x hx
  omega
theorem ksOf_pos {l : List BV} (hg : Good l) : ∀ k ∈ ksOf l, 0 < k := fun k hk => by
  obtain ⟨x, hx, rfl⟩ := List.mem_map.1 hk
  obtain ⟨i, hi⟩ := List.getElem?_of_mem hx
  have := hg.kb i x hi
  omega

theorem agreesB_iff {vs : List Nat} {ev : List Int} : agreesB vs ev = true ↔ ∀ (i v : Nat), vs[i]? = some v → ev.getD i 0 < 0 ∨ ev.getD i 0 = (v : Int) := by
  unfold agreesB
  rw [List.all_eq_true]
  constructor
  · intro h i v hv
    have := h (v, i) (by rw [List.mem_zipIdx_iff_getElem?]; exact hv)
    simpa using this
  · intro h q hq
    rw [List.mem_zipIdx_iff_getElem?] at hq
    simpa using h q.2 q.1 hq

theorem few_count {l : List RV} (h : FewP l) (hc : checkE (gnet l) = 0) : (allV (ksOf (gnet l))).length ≤ 300 := by
  have hfit := encFit (lit_in (few_lit h)) hc
  have hk : ∀ x ∈ l, 2 ≤ x.k ∧ x.k ≤ 8 := fun x hx => by
    obtain ⟨i, hi⟩ := List.getElem?_of_mem hx
    exact hfit.kb i (gvar x) (gnet_get hi)
  have h1 := fewJ_prod l 1 hk
  have h2 := h.j
  unfold fewJ at h2
  have e : ksOf (gnet l) = l.map fun x => x.k.toNat := by simp [ksOf, gnet, gvar]
  rw [allV_count, e]
  omega
end Go.Proofs.YtbacloneddnaeaaGreat

/- Probabilities of values: the reference's answer; plain laws. -/
namespace Go.Proofs.YtbacloneddnaeaaGreat
open Num

noncomputable def partsV (l : List BV) (ev : List Int) (v K : Nat) : List (Nat × Nat) := (List.range K).map fun x => askV l (ev.set v (x : Nat)) (allV (ksOf l))
theorem partsV_length (l : List BV) (ev : List Int) (v K : Nat) : (partsV l ev v K).length = K := by simp [partsV]
theorem partsV_get {l : List BV} {ev : List Int} {v K x : Nat} (h : x < K) : (partsV l ev v K)[x]? = some (askV l (ev.set v (x : Nat)) (allV (ksOf l))) := by
  unfold partsV; rw [List.getElem?_map, List.getElem?_range h]; rfl

noncomputable def postX (l : List BV) (ev : List Int) (v : Int) : List ByteArray × Int :=
  if checkE l ≠ 0 then ([], checkE l) else if allowedB l ev (-1) = false ∨ v < 0 ∨ (l.length : Int) ≤ v then ([], 1)
  else if (Q.sumL (partsV l ev v.toNat (kAt l v.toNat))).1 = 0 then ([], 3)
  else ((partsV l ev v.toNat (kAt l v.toNat)).map fun p => rtext (Q.div p (Q.sumL (partsV l ev v.toNat (kAt l v.toNat)))), 0)

theorem partsV_of {l : List BV} (hg : Good l) (ev : List Int) (v K : Nat) : partsV l ev v K = (partsR l ev v K).map nz := by
  unfold partsV partsR
  rw [List.map_map]
  refine List.map_congr_left fun x _ => ?_
  rw [askV_all hg]
  exact (rawQ_spec hg _ l.length [] (by simp)).1.symm
theorem partsV_sm {l : List BV} (hg : Good l) (hct : (allV (ksOf l)).length ≤ 300) {ev : List Int} {v K : Nat} : ∀ p ∈ partsV l ev v K, Q.Low p ∧ Sm 24601 p := fun p hp => by
  obtain ⟨x, _, rfl⟩ := List.mem_map.1 hp
  obtain ⟨h1, h2⟩ := askV_sm hg (ev.set v (x : Nat)) (allV (ksOf l))
  exact ⟨h1, h2.mono (by omega)⟩
theorem sumL_snoc (L : List (Nat × Nat)) (q : Nat × Nat) : Q.sumL (L ++ [q]) = Q.add (Q.sumL L) q := by
  unfold Q.sumL
  rw [List.foldl_append]; rfl
theorem sumL_sm2 : ∀ (n : Nat) (L : List (Nat × Nat)), L.length = n → (∀ p ∈ L, Q.Low p ∧ Sm 24601 p) → Q.Low (Q.sumL L) ∧ Sm (1 + n * 24602) (Q.sumL L)
  | 0, L, h, _ => by
    obtain rfl : L = [] := List.length_eq_zero_iff.1 h
    show Q.Low (0, 1) ∧ Sm (1 + 0 * 24602) (0, 1)
    exact ⟨Q.low01, ⟨by decide, by decide⟩⟩
  | n + 1, L, h, hL => by
    obtain ⟨L', q, rfl⟩ : ∃ L' q, L = L' ++ [q] := ⟨L.dropLast, L.getLast (by intro e; rw [e] at h; cases h), (List.dropLast_concat_getLast _).symm⟩
    obtain ⟨h1, h2⟩ := sumL_sm2 n L' (by simpa using h) (fun p hp => hL p (by simp [hp]))
    obtain ⟨h3, h4⟩ := hL q (by simp)
    rw [sumL_snoc]
    exact ⟨Q.add_low h1 h3, (sm_add2 h2 h4).mono (by omega)⟩
theorem partsV_sums {l : List BV} (hg : Good l) (hct : (allV (ksOf l)).length ≤ 300) {ev : List Int} {v K : Nat} (hK : K ≤ 8) (j : Nat) : Q.Low (Q.sumL ((partsV l ev v K).take j)) ∧ Sm 200000 (Q.sumL ((partsV l ev v K).take j)) := by
  have h := partsV_sm hg hct (ev := ev) (v := v) (K := K)
  obtain ⟨h1, h2⟩ := sumL_sm2 _ ((partsV l ev v K).take j) rfl (fun p hp => h p (List.mem_of_mem_take hp))
  have h3 : ((partsV l ev v K).take j).length ≤ 8 := by
    rw [List.length_take, partsV_length]; omega
  exact ⟨h1, h2.mono (by have := Nat.mul_le_mul_right 24602 h3; omega)⟩

theorem postX_main {l : List BV} {ev : List Int} {i K : Nat} (hc : checkE l = 0) (ha : allowedB l ev (-1) = true) (hi : i < l.length) (hK : kAt l i = K) : postX l ev i = if (Q.sumL (partsV l ev i K)).1 = 0 then ([], 3) else ((partsV l ev i K).map fun p => rtext (Q.div p (Q.sumL (partsV l ev i K))), 0) := by
  unfold postX
  rw [if_neg (show ¬ (checkE l ≠ 0) by rw [hc]; simp), if_neg (show ¬ (allowedB l ev (-1) = false ∨ (i : Int) < 0 ∨ (l.length : Int) ≤ i) by rw [not_or, not_or]; exact ⟨by rw [ha]; simp, by omega, by omega⟩), Int.toNat_natCast, hK]
theorem postE_main {l : List BV} {ev : List Int} {i K : Nat} (hc : checkE l = 0) (ha : allowedB l ev (-1) = true) (hi : i < l.length) (hK : kAt l i = K) : postE l ev i = if (rowR (partsR l ev i K)).1 = 0 then ([], 3) else ((partsR l ev i K).map fun p => Q.div (nz p) (nz (rowR (partsR l ev i K))), 0) := by
  unfold postE
  rw [if_neg (show ¬ (checkE l ≠ 0) by rw [hc]; simp), if_neg (show ¬ (allowedB l ev (-1) = false ∨ (i : Int) < 0 ∨ (l.length : Int) ≤ i) by rw [not_or, not_or]; exact ⟨by rw [ha]; simp, by omega, by omega⟩), Int.toNat_natCast, hK]

theorem post_agree {l : List BV} (hn : NetIn l) (hsz : checkE l = 0 → szs (ksOf l) ≤ 9000) (ev : List Int) (v : Int) : (postE l ev v).2 = (postX l ev v).2 ∧ (postE l ev v).1.map rtext = (postX l ev v).1 ∧ (∀ p ∈ (postE l ev v).1, Sm 1000000 p) ∧ (postE l ev v).1.length ≤ 8 := by
  by_cases hc : checkE l ≠ 0
  · unfold postE postX
    rw [if_pos hc, if_pos hc]; exact ⟨rfl, rfl, fun p hp => by simp at hp, by simp⟩
  · have hc0 := Classical.not_not.1 hc
    have hg := check_ok hn hc0
    by_cases ha : allowedB l ev (-1) = false ∨ v < 0 ∨ (l.length : Int) ≤ v
    · unfold postE postX
      rw [if_neg hc, if_neg hc, if_pos ha, if_pos ha]; exact ⟨rfl, rfl, fun p hp => by simp at hp, by simp⟩
    · rw [not_or, not_or] at ha
      obtain ⟨ha1, ha2, ha3⟩ := ha
      obtain ⟨i, rfl⟩ : ∃ i : Nat, v = i := ⟨v.toNat, by omega⟩
      have hA : askE l ev (-1) = (rawQ l ev l.length [], 0) := by
        unfold askE
        rw [if_neg hc, if_neg ha1]
      have hil : i < l.length := by omega
      obtain ⟨x, hx⟩ : ∃ x, l[i]? = some x := ⟨_, List.getElem?_eq_getElem hil⟩
      have hkb := hg.kb i x hx
      have hK8 : kAt l i ≤ 8 := by rw [kAt_of hx]; omega
      have hO := post_open hn hc0 (hsz hc0) hA hil (L := (postE l ev i).1) (G := (postE l ev i).2) rfl
      have hlow : ∀ p ∈ partsR l ev i (kAt l i), Q.Low (nz p) := fun p hp => by
        obtain ⟨x, _, rfl⟩ := List.mem_map.1 hp
        exact (raw_sm hg (hsz hc0) _).1
      have hsum : nz (rowR (partsR l ev i (kAt l i))) = Q.sumL (partsV l ev i (kAt l i)) := by
        rw [partsV_of hg]
        exact (rowR_sum _ _ rfl hlow).2
      have hfst : (Q.sumL (partsV l ev i (kAt l i))).1 = (rowR (partsR l ev i (kAt l i))).1 := by rw [← hsum]; rfl
      have hat : allowedB l ev (-1) = true := by
        cases h : allowedB l ev (-1) with
        | true => rfl
        | false => exact absurd h ha1
      have eE := postE_main (ev := ev) hc0 hat hil rfl
      have eX := postX_main (ev := ev) hc0 hat hil rfl
      rw [hfst] at eX
      rcases hO.2.2.2 with ⟨hG, h0⟩ | ⟨hG, h0, hL, hSm, _⟩
      · rw [if_pos h0] at eE eX
        rw [eE, eX]
        exact ⟨rfl, rfl, fun p hp => by simp at hp, by simp⟩
      · refine ⟨?_, ?_, fun p hp => (hSm p hp).mono (by omega), by rw [hL]; exact hK8⟩
        · rw [if_neg h0] at eE eX
          rw [eE, eX]
        · rw [if_neg h0] at eE eX
          rw [eE, eX]
          simp only
          rw [hsum, partsV_of hg, List.map_map, List.map_map]
          rfl

theorem textsB_self (L : List (Nat × Nat)) (ss : List ByteArray) (h : L.map rtext = ss) : textsB L ss = true := decide_eq_true h
end Go.Proofs.YtbacloneddnaeaaGreat

/- What is kept from world to world. -/
namespace Go.Proofs.YtbacloneddnaeaaGreat
open Go.RowKit Go.Shelf Num

structure Kn (w0 : World) (ns : List (Option Addr × List BV)) (bs : List (Nat × Obj)) (ls : List (Option Addr × List Value)) (W : World) : Prop where
  be : Below w0.heap.size w0 W
  net : ∀ x ∈ ns, NetAt W.heap.size W x.1 x.2
  bl : ∀ x ∈ bs, W.heap[x.1]? = some x.2
  at' : ∀ x ∈ ls, AtN W.heap.size W x.1 x.2
theorem Kn.go {w0 : World} {ns : List (Option Addr × List BV)} {bs : List (Nat × Obj)} {ls : List (Option Addr × List Value)} {W W' : World} (h : Kn w0 ns bs ls W) (hb : Below W.heap.size W W') : Kn w0 ns bs ls W' :=
  ⟨h.be.trans (hb.mono h.be.size), fun x hx => ((h.net x hx).below hb (Nat.le_refl _)).mono hb.size, fun x hx => (behind_of_below hb).keep (h.bl x hx) (by simp), fun x hx => ((h.at' x hx).below hb (Nat.le_refl _)).mono hb.size⟩
theorem Kn.addA {w0 : World} {ns : List (Option Addr × List BV)} {bs : List (Nat × Obj)} {ls : List (Option Addr × List Value)} {W : World} (h : Kn w0 ns bs ls W) {a : Option Addr} {xs : List Value} (ha : AtN W.heap.size W a xs) : Kn w0 ns bs ((a, xs) :: ls) W :=
  ⟨h.be, h.net, h.bl, fun x hx => by rcases List.mem_cons.1 hx with rfl | hx; exact ha; exact h.at' x hx⟩
theorem Kn.addN {w0 : World} {ns : List (Option Addr × List BV)} {bs : List (Nat × Obj)} {ls : List (Option Addr × List Value)} {W : World} (h : Kn w0 ns bs ls W) {a : Option Addr} {l : List BV} (ha : NetAt W.heap.size W a l) : Kn w0 ((a, l) :: ns) bs ls W :=
  ⟨h.be, fun x hx => by rcases List.mem_cons.1 hx with rfl | hx; exact ha; exact h.net x hx, h.bl, h.at'⟩

theorem below_one (w : World) (o : Obj) : Below w.heap.size w (w.alloc o) := (Below.refl _ _).alloc (Nat.le_refl _) _
theorem below_two (w : World) (o u : Obj) : Below w.heap.size w ((w.alloc o).alloc u) := ((Below.refl _ _).alloc (Nat.le_refl _) _).alloc (by simp) _
theorem new_one (w : World) (o : Obj) : (w.alloc o).heap[w.heap.size]? = some o := World.alloc_heap_new w o
theorem new_two1 (w : World) (o u : Obj) : ((w.alloc o).alloc u).heap[w.heap.size]? = some o := (heap_alloc_old _ _ (by simp)).trans (World.alloc_heap_new w o)
theorem new_two2 (w : World) (o u : Obj) : ((w.alloc o).alloc u).heap[w.heap.size + 1]? = some u := by
  have := World.alloc_heap_new (w.alloc o) u
  simpa using this
end Go.Proofs.YtbacloneddnaeaaGreat

/- Lists of numbers: a copy by append; Same. -/
namespace Go.Proofs.YtbacloneddnaeaaGreat
open Go.RowKit Go.Shelf Num

theorem run_append_zero {P : Program} (w : World) (t ty e : TypeId) (i : TypeInfo) (ht : P.underlying t = some (.slice e)) (hi : P.info? e = some i) (g : Nat) (a : Option Addr) (c : Nat) :
    (Builtin.append_ #[t, t] ty #[.slice (some ⟨g, 0, none⟩) 0 0, .slice a 0 c]).run P w = .ok (.slice (some ⟨g, 0, none⟩) 0 0) w := by
  cases a with
  | none => simp [Builtin.append_, run_underlying ht, sizeOf, typeInfo, hi, Builtin.lenOf, Builtin.firstCells, storeCells]
  | some a => simp [Builtin.append_, run_underlying ht, sizeOf, typeInfo, hi, Builtin.lenOf, Builtin.firstCells, storeCells, loadCells, loadCellsFrom]

theorem wpList_append_any {P : Program} {ops : Array Oper} {rest : List Oper} {o : Oper} {a : Act} {Q : Exit → Act → World → Prop} (w : World) (hgd : o.guard = none) (s x : Operand) (t : TypeId) (ho : o.op = .call { callee := .builtin .append, args := #[s, x], argTypes := #[t, t] })
    (E : TypeId) (i : TypeInfo) (z : Value) (bytes : Nat) (ht : P.underlying t = some (.slice E)) (hi : P.info? E = some i) (hz : i.zero = some z) (hsize : i.size = 1) (hby : i.bytes = bytes) (hzs : z.cells.size = 1)
    (g : Nat) (hs : a.eval s = .slice (some ⟨g, 0, none⟩) 0 0) (N : Nat) (ad : Option Addr) (m c2 : Nat) (news : List Value) (hx : a.eval x = .slice ad m c2) (hnews : AtN N w ad news) (hl : news.length = m)
    (h63 : m ≤ maxLen) (hbytes : m * bytes ≤ 140737488355328)
    (h : ∀ a' cap' w', AtN w'.heap.size w' a' news → Below w.heap.size w w' → wpList P ops Q rest (a.put o.dst (.slice a' m cap')) w') : wpList P ops Q (o :: rest) a w := by
  subst hby
  refine wpList_plain hgd fun _ hK => ?_
  rcases Nat.eq_zero_or_pos m with rfl | h0
  · have hr := run_append_zero (P := P) w t o.type E i ht hi g ad c2
    unfold Oper.wp execOp
    simp only [ho, resolve, invoke, builtin, Sem.run_bind, Sem.run_pure, Result.andThen_ok, List.map_toArray, List.map_cons, List.map_nil, hs, hx, hr]
    refine hK _ _ (h _ _ _ ?_ (Below.refl _ _))
    intro j u hj
    rw [List.length_eq_zero_iff.1 hl] at hj
    simp at hj
  · obtain ⟨b, of, hb, rfl, hc⟩ := hnews.base (by omega)
    have hl1 : news.length = m * i.size := by rw [hsize]; omega
    have hr := run_append_grow (P := P) w t o.type E i z ht hi hz ⟨g, 0, none⟩ 0 0 [] (by simp) (fun j v hj => by simp at hj) ⟨b, of, none⟩ m c2 news hl1 (fun j u hj => by rw [Addr.add_lit]; exact hc j u hj) (by omega) (by simp only [maxLen] at h63; omega) (growslice_fits (by omega) (by rw [Nat.zero_add]; exact hbytes))
    simp only [Nat.zero_add, List.nil_append] at hr
    unfold Oper.wp execOp
    simp only [ho, resolve, invoke, builtin, Sem.run_bind, Sem.run_pure, Result.andThen_ok, List.map_toArray, List.map_cons, List.map_nil, hs, hx, hr]
    refine hK _ _ (h _ _ _ ?_ ((Below.refl _ w).drew.alloc (by simp) _))
    intro j u hj
    refine atN_cells (heap_alloc_new w.drew _) j u ?_
    simp only [Array.toList_append, List.toList_toArray, List.nil_append]
    rw [List.getElem?_append_left (List.getElem?_eq_some_iff.1 hj).1]
    exact hj

set_option maxHeartbeats 1600000 in
set_option maxRecDepth 100000 in
theorem xsame_law (N : Nat) (xs : List Int) (a b : Option Addr) (c d : Nat) (hl : xs.length ≤ 100000) (w : World) (hA : AtN N w a (ints xs)) (hB : AtN N w b (ints xs)) (hw : N ≤ w.heap.size) :
    Calls Tryz.prog 11 #[.slice a xs.length c, .slice b xs.length d] w fun e w' => e = .returned (.bool true) ∧ Below w.heap.size w w' := by
  have HA := Lib.hid hA
  have HB0 := Lib.hid hB
  clear hA hB
  go_enter Tryz.func11, Tryz.ntmps11
  go_wp2_with fail
  go_loopw [5] (fun i wr => ∃ j : Nat, j ≤ xs.length ∧ i = .int .i64 j ∧ Hid (Below w.heap.size w wr)) (fun i _ => xs.length - (intOf i).toNat)
  case atStart => exact ⟨0, Nat.zero_le _, rfl, Below.refl _ _⟩
  case round =>
    obtain ⟨j, hj, rfl, HB⟩ := hrel
    by_cases hlt : j < xs.length
    · have hd : decide (j < xs.length) = true := by simpa using hlt
      obtain ⟨e, he⟩ : ∃ e, xs[j]? = some e := ⟨_, List.getElem?_eq_getElem hlt⟩
      obtain ⟨b1, o1, hb1, rfl, k0⟩ := HA.out j _ (ints_get _ _ _ he)
      obtain ⟨b2, o2, hb2, rfl, k1⟩ := HB0.out j _ (ints_get _ _ _ he)
      have K0 := Lib.hid k0
      have K1 := Lib.hid k1
      have h1w : b1 < w.heap.size := by omega
      have h2w : b2 < w.heap.size := by omega
      have hne : (e != e) = false := by simp
      clear he k0 k1 hb1 hb2
      go_wp2_with fail
      refine wp_game [0, 0, 0, 0, 0, 0, 0, 0, 0] [] B0 fin_B0 (has_B0 _) (by kernel_rfl) (by kernel_rfl) ?_
      refine lex_quietE 9 (by kernel_rfl) (by rfl) ?_
      apply Exists.intro
      refine ⟨fun z hz => ?_, ?_⟩
      · have hwz := HB.out.trans (hz.below_of (b := w.heap.size) (by simp) HB.out.size)
        have g0 := below_cellp hwz K0.out h1w
        have g1 := below_cellp hwz K1.out h2w
        clear hz hwz
        simp only [List.take_succ_cons, List.take_zero]
        unfold Cx
        repeat (go_big_quiet_step (fail))
        exact wpQuiet_nil rfl
      simp only [List.drop_succ_cons, List.drop_zero]
      refine lex_nil ?_
      intro x7 hx7 _
      have HB7 := Lib.hid (HB.out.trans (hx7.below_of (b := w.heap.size) (by simp) HB.out.size))
      clear hx7 HB K0 K1
      go_wp2_with fail
      go_roundw
      case rel => exact ⟨j + 1, by omega, by go_num, HB7⟩
      case measure => simp [intOf]; omega
    · obtain rfl : j = xs.length := by omega
      go_wp2_with fail
      go_ret
      exact ⟨rfl, HB.out⟩
end Go.Proofs.YtbacloneddnaeaaGreat
