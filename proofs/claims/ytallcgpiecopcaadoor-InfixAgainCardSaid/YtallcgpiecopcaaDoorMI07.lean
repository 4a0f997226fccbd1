/- Texts of this claim, joined: IF, IG, IM, IH, II. -/
import Derived.Test.YtallcgpiecopcaaDoorMI06

/- What is written for a circuit is read as its tree form: each kind of gate. Plain. -/
namespace Go.Proofs.YtallcgpiecopcaaDoor
open Go

theorem TR_nil {n : Int} {G : List Gt} (hok : Ok n G) {i : Nat} {g : Gt} (hx : G[i]? = some g) (h : g.ins = []) (b : Nat) : TR G i b = [⟨g.k, g.lit, []⟩] := by
  rw [TR_eq hok hx, h]; rfl
theorem TK_is {n : Int} {G : List Gt} (hok : Ok n G) {i : Nat} {g : Gt} (hx : G[i]? = some g) : TK G i = ptk G (pcsI G g) := TK_eq hok hx
theorem root_app (b : List Gt) (u : List Gt) (g : Gt) : rootI b.length (u ++ [g]) = (((b ++ u).length : Nat) : Int) := by
  unfold rootI; simp; omega
theorem of_atom {n : Nat} {G : List Gt} {k : Int} (h : ∀ (rest : List Tk) (o : Nat) (b : List Gt), stopI 7 rest → Good (RI n .atom (tkT G k ++ rest) o b) (.ok [rootI b.length (TR G k b.length)] rest (b ++ TR G k b.length))) : AtI n G k ∧ FmI n G k := by
  have hA : ∀ (lv : Nat), 3 ≤ lv → lv ≤ 7 → ∀ (rest : List Tk) (o : Nat) (b : List Gt), stopI lv rest → Good (RI n (mdI lv) (tkT G k ++ rest) o b) (.ok [rootI b.length (TR G k b.length)] rest (b ++ TR G k b.length)) := fun lv h3 h7 rest o b hs => by
    refine down_to (7 - lv) lv h3 (by omega) ?_ hs
    rw [show lv + (7 - lv) = 7 by omega]
    show Good (RI n (.chain 7) _ o b) _
    rw [RI_chain7]
    exact h rest o b (hs.mono h7)
  refine ⟨fun lv h3 hl => hA lv h3 (by have := level_cases (gI G k); omega), fun rest o b hs => ?_⟩
  rw [RI_form]
  exact Good.bind (hA 3 (by omega) (by omega) rest o b hs) (.refl _)
theorem wordI_name (k : Int) (h : k = 4 ∨ k = 5 ∨ k = 6 ∨ k = 8) : wordI (nameI k) = k := by
  rcases h with rfl | rfl | rfl | rfl <;> decide
theorem name_no (k : Int) : nameI k ≠ [33] ∧ nameI k ≠ [40] ∧ nameI k ≠ [48] ∧ nameI k ≠ [49] := by
  unfold nameI
  split
  · decide
  split
  · decide
  split <;> decide
theorem head_no {m : Int} {G : List Gt} (hok : Ok m G) (n : Nat) {i : Nat} {g : Gt} (hx : G[i]? = some g) (hp : notParI g = false) : ∃ w r, tkT G i = some w :: r ∧ varI n w = 0 := by
  unfold tkT
  rw [TK_is hok hx]
  unfold notParI at hp
  rw [Bool.or_eq_false_iff] at hp
  have h7 : ¬ levelI g < 7 := of_decide_eq_false hp.1
  have hG := hok i g hx
  unfold pcsI
  split
  · exact ⟨[48], _, by rw [ptk_s]; rfl, varI_no (by decide)⟩
  split
  · exact ⟨[49], _, by rw [ptk_s]; rfl, varI_no (by decide)⟩
  split
  · rename_i h2
    split
    · exact ⟨[33], _, by rw [ptk_s]; rfl, varI_no (by decide)⟩
    · rename_i hl
      have := hp.2
      rw [decide_eq_true h2] at this
      have h0 : ¬ 0 < g.lit := of_decide_eq_false (by simpa using this)
      have := hG.lit h2
      unfold litI at this
      rw [Bool.or_eq_true] at this
      rcases this with h | h
      · have := of_decide_eq_true h; omega
      · have := of_decide_eq_true h; omega
  split
  · exact ⟨[33], _, by rw [ptk_s]; rfl, varI_no (by decide)⟩
  split
  · rename_i h
    exact absurd (show levelI g < 7 by unfold levelI; rw [if_pos h]; omega) h7
  split
  · exact ⟨nameI g.k, _, by rw [ptk_s]; rfl, varI_name n g.k⟩
  · have := level_cases g
    omega
theorem len_two {α : Type} {l : List α} (h : l.length = 2) : ∃ a b, l = [a, b] := by
  match l, h with
  | [a, b], _ => exact ⟨a, b, rfl⟩
theorem len_three {α : Type} {l : List α} (h : l.length = 3) : ∃ a b c, l = [a, b, c] := by
  match l, h with
  | [a, b, c], _ => exact ⟨a, b, c, rfl⟩
theorem put_head {G : List Gt} {k : Int} (h : ∃ w u, tkT G k = some w :: u ∧ w ≠ [41]) (p : Bool) (r : List Tk) : ∃ w u, putT G k p ++ r = some w :: u ∧ w ≠ [41] := by
  cases p with
  | true => rw [putT_yes]; exact ⟨[40], _, rfl, by decide⟩
  | false =>
    rw [putT_no]
    obtain ⟨w, u, e, hw⟩ := h
    rw [e]; exact ⟨w, _, rfl, hw⟩
theorem head_any {m : Int} {G : List Gt} (hok : Ok m G) : ∀ (i : Nat), i < G.length → ∃ w u, tkT G i = some w :: u ∧ w ≠ [41] := by
  intro i
  induction i using Nat.strongRecOn with
  | _ i ih =>
    intro hi
    have hx : G[i]? = some G[i] := List.getElem?_eq_getElem hi
    obtain ⟨g, hg⟩ : ∃ g, g = G[i] := ⟨_, rfl⟩
    rw [← hg] at hx
    have hG := hok i g hx
    have sub : ∀ k ∈ g.ins, ∃ w u, tkT G k = some w :: u ∧ w ≠ [41] := fun k hk => by
      obtain ⟨j, rfl, hj, _⟩ := hG.inp hi hk
      exact ih j hj (by omega)
    have hK : tkT G i = (ptk G (pcsI G g)).map some := by unfold tkT; rw [TK_is hok hx]
    rw [hK]
    unfold pcsI
    split
    · exact ⟨[48], _, by rw [ptk_s]; rfl, by decide⟩
    split
    · exact ⟨[49], _, by rw [ptk_s]; rfl, by decide⟩
    split
    · split
      · exact ⟨[33], _, by rw [ptk_s]; rfl, by decide⟩
      · exact ⟨xI g.lit, _, by rw [ptk_s]; rfl, by simp [xI]⟩
    split
    · exact ⟨[33], _, by rw [ptk_s]; rfl, by decide⟩
    split
    · rename_i k7
      obtain ⟨a, c, hac⟩ := len_two (many_two hG.many k7)
      rw [hac, ptk_app, List.map_append]
      exact put_head (sub a (by rw [hac]; simp)) false _
    split
    · exact ⟨nameI g.k, _, by rw [ptk_s]; rfl, by unfold nameI; split <;> (try split) <;> (try split) <;> decide⟩
    · rename_i k0 k1 k2 k3 k7 h7
      cases he : g.ins with
      | nil =>
        exact absurd (show levelI g = 7 by unfold levelI; rw [if_neg k7, he]; rfl) h7
      | cons k r =>
        rw [betweenI, ptk_app, List.map_append]
        exact put_head (sub k (by rw [he]; simp)) _ _
theorem gate_ok {m : Int} {G : List Gt} (hok : Ok m G) (n : Nat) (hn : m = (n : Int)) : ∀ (i : Nat), i < G.length → AtI n G i ∧ FmI n G i := by
  intro i
  induction i using Nat.strongRecOn with
  | _ i ih =>
    intro hi
    have hx : G[i]? = some G[i] := List.getElem?_eq_getElem hi
    obtain ⟨g, hg⟩ : ∃ g, g = G[i] := ⟨_, rfl⟩
    rw [← hg] at hx
    have hG := hok i g hx
    have hgi := gI_of hx
    have sub : ∀ k ∈ g.ins, AtI n G k ∧ FmI n G k := fun k hk => by
      obtain ⟨j, rfl, hj, _⟩ := hG.inp hi hk
      exact ih j hj (by omega)
    have hT : ∀ b : Nat, TR G i b = (seqI (TR G) g.ins b).1 ++ [⟨g.k, g.lit, (seqI (TR G) g.ins b).2⟩] := TR_eq hok hx
    have hK : tkT G i = (ptk G (pcsI G g)).map some := by unfold tkT; rw [TK_is hok hx]
    have kinds := many_kind hG.many
    by_cases k0 : g.k = 0
    · have he : g.ins = [] := List.length_eq_zero_iff.1 (many_none hG.many (.inl k0))
      have hl := hG.nlit (by omega)
      refine of_atom fun rest o b hst => ?_
      rw [hK, TR_nil hok hx he]
      unfold pcsI
      rw [if_pos k0, ptk_s, RI_atom]
      simp only [List.map_cons, List.cons_append, List.nil_append]
      rw [next_some, if_neg (by rw [varI_no (by decide)]; simp), if_neg (by decide), if_neg (by decide), if_pos rfl, k0, hl]
      exact .inl (by simp [rootI, ptk_nil])
    by_cases k1 : g.k = 1
    · have he : g.ins = [] := List.length_eq_zero_iff.1 (many_none hG.many (.inr (.inl k1)))
      have hl := hG.nlit (by omega)
      refine of_atom fun rest o b hst => ?_
      rw [hK, TR_nil hok hx he]
      unfold pcsI
      rw [if_neg k0, if_pos k1, ptk_s, RI_atom]
      simp only [List.map_cons, List.cons_append, List.nil_append]
      rw [next_some, if_neg (by rw [varI_no (by decide)]; simp), if_neg (by decide), if_neg (by decide), if_neg (by decide), if_pos rfl, k1, hl]
      exact .inl (by simp [rootI, ptk_nil])
    by_cases k2 : g.k = 2
    · have he : g.ins = [] := List.length_eq_zero_iff.1 (many_none hG.many (.inr (.inr k2)))
      have hl := hG.lit k2
      unfold litI at hl
      rw [Bool.or_eq_true] at hl
      refine of_atom fun rest o b hst => ?_
      rw [hK, TR_nil hok hx he]
      unfold pcsI
      rw [if_neg k0, if_neg k1, if_pos k2]
      by_cases hneg : g.lit < 0
      · obtain ⟨v, hv⟩ : ∃ v : Nat, -g.lit = v := ⟨(-g.lit).toNat, by omega⟩
        have hv1 : 1 ≤ v ∧ v ≤ n := by
          rcases hl with h | h
          · have := of_decide_eq_true h; omega
          · have := of_decide_eq_true h; omega
        have hvar : varI n (xI (-g.lit)) = v := by unfold xI; rw [hv, Int.toNat_natCast]; exact varI_of hv1.1 hv1.2
        rw [if_pos hneg, ptk_s, RI_atom]
        simp only [List.map_cons, List.cons_append, List.nil_append]
        rw [next_some, if_neg (by rw [varI_no (by decide)]; simp), if_pos rfl]
        refine open_some ?_
        rw [next_some, hvar, if_pos (by omega), k2, show g.lit = -(v : Int) by omega]
        exact .inl (by simp [rootI, ptk_nil])
      · obtain ⟨v, hv⟩ : ∃ v : Nat, g.lit = v := ⟨g.lit.toNat, by omega⟩
        have hv1 : 1 ≤ v ∧ v ≤ n := by
          rcases hl with h | h
          · have := of_decide_eq_true h; omega
          · have := of_decide_eq_true h; omega
        have hvar : varI n (xI g.lit) = v := by unfold xI; rw [hv, Int.toNat_natCast]; exact varI_of hv1.1 hv1.2
        rw [if_neg hneg, ptk_s, RI_atom]
        simp only [List.map_cons, List.cons_append, List.nil_append]
        rw [next_some, hvar, if_pos (by omega), k2, hv]
        exact .inl (by simp [rootI, ptk_nil])
    by_cases k3 : g.k = 3
    · have h1 := many_one hG.many k3
      obtain ⟨a, ha⟩ : ∃ a, g.ins = [a] := List.length_eq_one_iff.1 h1
      have hl := hG.nlit (by omega)
      have hs := sub a (by rw [ha]; simp)
      obtain ⟨j, rfl, hj, x, hxj, hgx⟩ := hG.inp hi (show a ∈ g.ins by rw [ha]; simp)
      refine of_atom fun rest o b hst => ?_
      have hp : ∃ w r, putT G j (notParI x) = some w :: r ∧ varI n w = 0 := by
        cases hq : notParI x with
        | true => rw [putT_yes]; exact ⟨[40], _, rfl, varI_no (by decide)⟩
        | false => rw [putT_no]; exact head_no hok n hxj hq
      obtain ⟨w, r, hwr, hw0⟩ := hp
      have hop := put_at (n := n) hs.2 hs.1 (notParI x) 7 (by omega) (by omega) (fun e => by
        unfold notParI at e
        rw [Bool.or_eq_false_iff] at e
        have := of_decide_eq_false e.1
        rw [hgx]; omega)
      have hK2 : tkT G i = some [33] :: putT G j (notParI x) := by
        rw [hK]; unfold pcsI
        rw [if_neg k0, if_neg k1, if_neg k2, if_pos k3, ptk_s, ha, show headI [(j : Int)] = (j : Int) from rfl, hgx]
        rfl
      rw [hK2, RI_atom, List.cons_append, next_some, if_neg (by rw [varI_no (by decide)]; simp), if_pos rfl]
      refine open_some ?_
      rw [hT, ha, k3, hl, root_app]
      rw [show putT G j (notParI x) ++ rest = some w :: (r ++ rest) by rw [hwr]; rfl, next_some, if_neg (by rw [hw0]; simp), show (some w :: (r ++ rest) : List Tk) = putT G j (notParI x) ++ rest by rw [hwr]; rfl]
      have h7 := hop rest (o + 1) b hst
      rw [show mdI 7 = .chain 7 from rfl, RI_chain7] at h7
      refine Good.bind h7 (.inl ?_)
      simp [seqI, rootI, List.append_assoc]
    by_cases k7 : g.k = 7
    · have h2 := many_two hG.many k7
      have hl := hG.nlit (by omega)
      have hlev : levelI g = 2 := by unfold levelI; rw [if_pos k7]
      refine ⟨fun lv h3 hlv => by rw [hgi, hlev] at hlv; omega, fun rest o b hs => ?_⟩
      obtain ⟨a, c, hac⟩ : ∃ a c, g.ins = [a, c] := len_two h2
      have ha := sub a (by rw [hac]; simp)
      have hc := sub c (by rw [hac]; simp)
      have hK2 : tkT G i = tkT G a ++ some [60, 45, 62] :: putT G c (decide (levelI (gI G c) = 2)) := by
        rw [hK]; unfold pcsI
        rw [if_neg k0, if_neg k1, if_neg k2, if_neg k3, if_pos k7, hac, ptk_app, ptk_s, show headI [a, c] = a from rfl, show headI [a, c].tail = c from rfl, List.map_append]
        have e := putT_no G a
        unfold putT at e
        rw [e]; rfl
      rw [hK2, List.append_assoc, List.cons_append, hT, hac]
      refine (ha.2 _ o b (stop_of (fun e => by omega) (fun _ => by decide) (fun ℓ _ _ _ => sign_no (by decide) ℓ))).trans ?_
      rw [RI_formL, next_some, if_pos rfl, List.tail_cons]
      have h := put_at hc.2 hc.1 (decide (levelI (gI G c) = 2)) 3 (by omega) (by omega) (fun e => by have := of_decide_eq_false e; have := level_cases (gI G c); omega) rest o (b ++ TR G a b.length) hs
      refine Good.bind (show Good (RI n .impl _ o _) _ from h) (.inl ?_)
      rw [root_app]
      simp [seqI, rootI, headI, List.append_assoc, k7, hl]
    have kk : g.k = 4 ∨ g.k = 5 ∨ g.k = 6 ∨ g.k = 8 := by omega
    have hl := hG.nlit (by omega)
    by_cases h7 : levelI g = 7
    · refine of_atom fun rest o b hst => ?_
      have hK2 : tkT G i = some (nameI g.k) :: some [40] :: ((ptk G (betweenI G [44, 32] [[44]] 0 g.ins)).map some ++ [some [41]]) := by
        rw [hK]; unfold pcsI
        rw [if_neg k0, if_neg k1, if_neg k2, if_neg k3, if_neg k7, if_pos h7, ptk_s, ptk_app, ptk_s]
        simp [ptk_nil]
      rw [hK2, RI_atom, List.cons_append, next_some, if_neg (by rw [varI_name]; simp), if_neg (name_no g.k).1, if_neg (name_no g.k).2.1, if_neg (name_no g.k).2.2.1, if_neg (name_no g.k).2.2.2, wordI_name g.k kk, if_neg (by omega), List.tail_cons, hT, root_app]
      have lev1 : ∀ k ∈ g.ins, FmI n G k ∧ 1 ≤ levelI (gI G k) := fun k hk => ⟨(sub k hk).2, by have := level_cases (gI G k); omega⟩
      have fin : Good (RI n (if g.k = 8 then .three else .args) (some [40] :: ((ptk G (betweenI G [44, 32] [[44]] 0 g.ins)).map some ++ [some [41]]) ++ rest) o b) (.ok (seqI (TR G) g.ins b.length).2 rest (b ++ (seqI (TR G) g.ins b.length).1)) := by
        by_cases k8 : g.k = 8
        · have h3 := many_three hG.many k8
          obtain ⟨x, y, z, hxyz⟩ : ∃ x y z, g.ins = [x, y, z] := len_three h3
          have op : ∀ k ∈ g.ins, opT G 0 k = tkT G k := fun k hk => by
            unfold opT opI
            rw [show decide (levelI (gI G k) ≤ 0) = false from decide_eq_false (by have := (lev1 k hk).2; omega)]
            exact putT_no G k
          have hb : (ptk G (betweenI G [44, 32] [[44]] 0 g.ins)).map some = tkT G x ++ some [44] :: (tkT G y ++ some [44] :: (tkT G z)) := by
            have e : (ptk G (betweenI G [44, 32] [[44]] 0 g.ins)).map some = opT G 0 x ++ moreT G [44, 32] [44] 0 [y, z] := by rw [hxyz, betweenI, ptk_app, List.map_append]; rfl
            rw [e, moreT_cons, moreT_cons, moreT_nil, op x (by rw [hxyz]; simp), op y (by rw [hxyz]; simp), op z (by rw [hxyz]; simp), List.append_nil]
          rw [hb, if_pos k8, RI_three, List.cons_append]
          refine open_some ?_
          simp only [List.append_assoc, List.cons_append, List.nil_append]
          have st : ∀ (t : List UInt8) (r : List Tk), t = [44] ∨ t = [41] → stopI 2 (some t :: r) := fun t r h => by
            rcases h with rfl | rfl
            · exact stop_of (fun _ => by decide) (fun _ => by decide) (fun ℓ _ _ _ => sign_no (by decide) ℓ)
            · exact stop_of (fun _ => by decide) (fun _ => by decide) (fun ℓ _ _ _ => sign_no (by decide) ℓ)
          refine Good.bind (form_ok (lev1 x (by rw [hxyz]; simp)).1 _ (o + 1) b (st _ _ (.inl rfl))) ?_
          rw [need_some]
          refine Good.bind (form_ok (lev1 y (by rw [hxyz]; simp)).1 _ (o + 1) _ (st _ _ (.inl rfl))) ?_
          rw [need_some]
          refine Good.bind (form_ok (lev1 z (by rw [hxyz]; simp)).1 _ (o + 1) _ (st _ _ (.inr rfl))) ?_
          rw [need_some, hxyz]
          exact .inl (by simp [seqI, rootI, List.append_assoc, Nat.add_assoc])
        · rw [if_neg k8, RI_args, List.cons_append]
          refine open_some ?_
          cases he : g.ins with
          | nil =>
            rw [show ((ptk G (betweenI G [44, 32] [[44]] 0 [])).map some ++ [some [41]]) ++ rest = some [41] :: rest from rfl, next_some, if_pos rfl, List.tail_cons]
            exact .inl (by simp [seqI])
          | cons k r =>
            rw [he] at lev1
            have hk := lev1 k (by simp)
            have e : (ptk G (betweenI G [44, 32] [[44]] 0 (k :: r))).map some = tkT G k ++ moreT G [44, 32] [44] 0 r := by
              rw [betweenI, ptk_app, List.map_append]
              have e1 : (ptk G (opI G 0 k)).map some = tkT G k := by
                unfold opI
                rw [show decide (levelI (gI G k) ≤ 0) = false from decide_eq_false (by have := hk.2; omega)]
                exact putT_no G k
              rw [e1]; rfl
            rw [e, List.append_assoc, List.append_assoc, List.singleton_append]
            obtain ⟨w, u, hw, hw41⟩ : ∃ w u, tkT G k = some w :: u ∧ w ≠ [41] := by
              obtain ⟨j, rfl, hj, _⟩ := hG.inp hi (show k ∈ g.ins by rw [he]; simp)
              exact head_any hok j (by omega)
            have e3 : tkT G k ++ (moreT G [44, 32] [44] 0 r ++ some [41] :: rest) = some w :: (u ++ (moreT G [44, 32] [44] 0 r ++ some [41] :: rest)) := by rw [hw]; rfl
            rw [e3, next_some, if_neg hw41, ← e3]
            have hrest : stopI 2 (moreT G [44, 32] [44] 0 r ++ some [41] :: rest) := by
              cases r with
              | nil => rw [moreT_nil]; exact stop_of (fun _ => by decide) (fun _ => by decide) (fun ℓ _ _ _ => sign_no (by decide) ℓ)
              | cons j l =>
                rw [moreT_cons, List.cons_append]
                exact stop_of (fun _ => by decide) (fun _ => by decide) (fun ℓ _ _ _ => sign_no (by decide) ℓ)
            refine Good.bind (form_ok hk.1 _ (o + 1) b hrest) ?_
            refine (args_more [44, 32] rest (o + 1) r (fun j hj => lev1 j (by simp [hj])) _ _).trans (.inl ?_)
            simp [seqI, rootI, List.append_assoc]
      refine Good.bind fin (.inl ?_)
      simp [hl, List.append_assoc]
    · have hlv : levelI g = 4 ∨ levelI g = 5 ∨ levelI g = 6 := by
        have := level_cases g
        have : levelI g ≠ 2 := fun e => by
          unfold levelI at e
          rw [if_neg k7] at e
          split at e <;> (try split at e) <;> (try split at e) <;> (try split at e) <;> simp at e
        omega
      have hlen : 2 ≤ g.ins.length := by
        have h := h7
        unfold levelI at h
        rw [if_neg k7] at h
        split at h
        · exact absurd rfl h
        · omega
      have hkd : kindI (levelI g) = g.k := by
        unfold levelI
        rw [if_neg k7, if_neg (by omega)]
        rcases kk with e | e | e | e
        · rw [e]; decide
        · rw [e]; decide
        · rw [e]; decide
        · exact absurd (show levelI g = 7 by unfold levelI; rw [if_neg k7, if_neg (by omega), if_neg (by omega), if_neg (by omega), if_neg (by omega)]) h7
      obtain ⟨k, r, hkr⟩ : ∃ k r, g.ins = k :: r := by
        cases h : g.ins with
        | nil => rw [h] at hlen; simp at hlen
        | cons k r => exact ⟨k, r, rfl⟩
      have hK2 : tkT G i = opT G (levelI g) k ++ moreT G ([32] ++ signI (levelI g) ++ [32]) (signI (levelI g)) (levelI g) r := by
        rw [hK]; unfold pcsI
        rw [if_neg k0, if_neg k1, if_neg k2, if_neg k3, if_neg k7, if_neg h7, hkr, betweenI, ptk_app, List.map_append]; rfl
      have home : ∀ (rest : List Tk) (o : Nat) (b : List Gt), stopI (levelI g) rest → Good (RI n (mdI (levelI g)) (tkT G i ++ rest) o b) (.ok [rootI b.length (TR G i b.length)] rest (b ++ TR G i b.length)) := fun rest o b hs => by
        generalize levelI g = lv at *
        have e1 : mdI lv = .chain lv := by unfold mdI; rw [if_neg (by omega), if_neg (by omega)]
        have e2 : mdI (lv + 1) = .chain (lv + 1) := by unfold mdI; rw [if_neg (by omega), if_neg (by omega)]
        have hk := sub k (by rw [hkr]; simp)
        rw [e1, RI_chain n lv (by omega), hK2, List.append_assoc]
        have hrest : stopI (lv + 1) (moreT G ([32] ++ signI lv ++ [32]) (signI lv) lv r ++ rest) := by
          cases r with
          | nil => rw [hkr] at hlen; simp at hlen
          | cons j l =>
            rw [moreT_cons, List.cons_append]
            exact stop_of (fun e => by omega) (fun e => by omega) (fun ℓ e1 e2 e3 e => by have := sign_inj (by omega) (by omega) e2 e3 e; omega)
        have h := put_at hk.2 hk.1 (decide (levelI (gI G k) ≤ lv)) (lv + 1) (by omega) (by omega) (fun e => by have := of_decide_eq_false e; omega) _ o b hrest
        rw [e2] at h
        refine Good.bind h ?_
        refine (chain_more lv (by omega) (by omega) _ rest o hs r (fun j hj => (sub j (by rw [hkr]; simp [hj])).symm) _ _ (by rw [hkr] at hlen; simp at hlen ⊢; omega)).trans (.inl ?_)
        rw [hT, hkr, root_app]
        simp [seqI, rootI, List.append_assoc, hkd, hl]
      have hA : AtI n G i := fun lv h3 hle rest o b hs => by
        rw [hgi] at hle
        exact down_to (levelI g - lv) lv h3 (by omega) (by rw [show lv + (levelI g - lv) = levelI g by omega]; exact home rest o b (hs.mono hle)) hs
      exact ⟨hA, at_form hA (by rw [hgi]; omega)⟩
end Go.Proofs.YtallcgpiecopcaaDoor

/- Parse of what is written; the text of the tree form. Plain. -/
namespace Go.Proofs.YtallcgpiecopcaaDoor
open Go

theorem readI_top (n : Nat) (l : List UInt8) : readI n (16 * (lexI (l.length + 1) l 0).length + 16) .form ((lexI (l.length + 1) l 0).map (·.2)) 0 [] = RI n .form (lexS l) 0 [] := by
  refine RI_of ?_
  unfold bdI
  rw [List.length_map, show rkI .form = 14 from rfl]; omega
def finI (l : List UInt8) (n : Int) (r : PR) : List Gt × Nat × Int := match r with
  | .err r e => ([], posI l r, e)
  | .ok _ ts gs => if ts.headD (some []) ≠ some [] then ([], posI l ts.length, 5) else if checkI n gs = 0 then (gs, 0, 0) else ([], 0, 2)
theorem parseI_eq {l : List UInt8} {n : Int} (h0 : 0 ≤ n) (h1 : n ≤ 128) (hl : l.length ≤ 1048576) : parseI l n = finI l n (RI n.toNat .form (lexS l) 0 []) := by
  unfold parseI
  rw [if_neg (by omega), if_neg (by omega), readI_top]
  rfl
theorem parse_written {n : Int} {gs : List Gt} (hc : checkI n gs = 0) (hl : (TX gs ((gs.length : Nat) - 1 : Nat)).length ≤ 1048576) :
    (parseI (TX gs ((gs.length : Nat) - 1 : Nat)) n = (TR gs ((gs.length : Nat) - 1 : Nat) 0, 0, 0) ∧ checkI n (TR gs ((gs.length : Nat) - 1 : Nat) 0) = 0) ∨ ∃ p, parseI (TX gs ((gs.length : Nat) - 1 : Nat)) n = ([], p, 2) := by
  obtain ⟨h0, h1, _, _, hne, hok⟩ := check_ok hc
  have hpos := List.length_pos_iff.2 hne
  have hi : gs.length - 1 < gs.length := by omega
  rw [parseI_eq h0 h1 hl, lex_written hok hi]
  have hg := gate_ok hok n.toNat (by omega) (gs.length - 1) hi
  have h := form_ok hg.2 [some []] 0 [] (stop_of (fun _ => by decide) (fun _ => by decide) (fun ℓ _ _ _ => sign_no (by decide) ℓ))
  rw [show (TK gs ((gs.length - 1 : Nat) : Int)).map some ++ [some []] = tkT gs ((gs.length - 1 : Nat) : Int) ++ [some []] from rfl]
  rcases h with h | ⟨q, h⟩
  · rw [h]
    unfold finI
    simp only [List.headD_cons, ne_eq, not_true_eq_false, if_false, List.nil_append, List.length_nil]
    by_cases hk : checkI n (TR gs ((gs.length - 1 : Nat) : Int) 0) = 0
    · rw [if_pos hk]; exact .inl ⟨rfl, hk⟩
    · rw [if_neg hk]; exact .inr ⟨_, rfl⟩
  · rw [h]; exact .inr ⟨_, rfl⟩

/-! ### What the tree form has in common with the circuit -/
structure Corr (G G' : List Gt) (k k' : Int) : Prop where
  kd : (gI G' k').k = (gI G k).k
  lit : (gI G' k').lit = (gI G k).lit
  ins : (gI G' k').ins.length = (gI G k).ins.length
  tx : TX G' k' = TX G k
theorem Corr.level {G G' : List Gt} {k k' : Int} (h : Corr G G' k k') : levelI (gI G' k') = levelI (gI G k) := by
  unfold levelI; rw [h.kd, h.ins]
theorem Corr.notPar {G G' : List Gt} {k k' : Int} (h : Corr G G' k k') : notParI (gI G' k') = notParI (gI G k) := by
  unfold notParI; rw [h.level, h.kd, h.lit]
inductive All2 (R : Int → Int → Prop) : List Int → List Int → Prop
  | nil : All2 R [] []
  | cons {a b : Int} {l m : List Int} (h : R a b) (t : All2 R l m) : All2 R (a :: l) (b :: m)
theorem All2.length {R : Int → Int → Prop} : ∀ {l m : List Int}, All2 R l m → m.length = l.length
  | _, _, .nil => rfl
  | _, _, .cons _ t => by simp [t.length]
theorem corr_put {G G' : List Gt} {k k' : Int} (h : Corr G G' k k') (p : Bool) : ptx G' (putI k' p) = ptx G (putI k p) := by
  cases p <;> simp [putI, ptx, h.tx]
theorem corr_op {G G' : List Gt} {k k' : Int} (h : Corr G G' k k') (own : Nat) : ptx G' (opI G' own k') = ptx G (opI G own k) := by
  unfold opI; rw [h.level]; exact corr_put h _
theorem corr_more {G G' : List Gt} (sep : List UInt8) (w : List (List UInt8)) (own : Nat) : ∀ {l m : List Int}, All2 (Corr G G') l m → ptx G' (moreI G' sep w own m) = ptx G (moreI G sep w own l)
  | _, _, .nil => rfl
  | _, _, .cons h t => by rw [moreI, moreI, ptx_s, ptx_s, ptx_app, ptx_app, corr_op h, corr_more sep w own t]
theorem corr_between {G G' : List Gt} (sep : List UInt8) (w : List (List UInt8)) (own : Nat) {l m : List Int} (h : All2 (Corr G G') l m) : ptx G' (betweenI G' sep w own m) = ptx G (betweenI G sep w own l) := by
  cases h with
  | nil => rfl
  | cons h t => rw [betweenI, betweenI, ptx_app, ptx_app, corr_op h, corr_more sep w own t]
theorem corr_pcs {G G' : List Gt} {g g' : Gt} (hk : g'.k = g.k) (hl : g'.lit = g.lit) (h : All2 (Corr G G') g.ins g'.ins) (h3 : g.k = 3 → g.ins.length = 1) (h7 : g.k = 7 → g.ins.length = 2) : ptx G' (pcsI G' g') = ptx G (pcsI G g) := by
  have hlen := h.length
  have hlev : levelI g' = levelI g := by unfold levelI; rw [hk, hlen]
  unfold pcsI
  rw [hk, hl, hlev]
  split
  · rfl
  split
  · rfl
  split
  · split <;> rfl
  split
  · rename_i e
    have h1 := h3 e
    cases hi : g.ins with
    | nil => rw [hi] at h1; simp at h1
    | cons a l =>
      rw [hi] at h
      cases hi' : g'.ins with
      | nil => rw [hi'] at h; cases h
      | cons b m =>
        rw [hi'] at h
        cases h with
        | cons hab t =>
          rw [show headI (b :: m) = b from rfl, show headI (a :: l) = a from rfl, ptx_s, ptx_s, hab.notPar, corr_put hab]
  split
  · rename_i e
    have h1 := h7 e
    obtain ⟨a, c, hac⟩ := len_two h1
    obtain ⟨a', c', hac'⟩ := len_two (show g'.ins.length = 2 by rw [hlen]; exact h1)
    rw [hac, hac'] at h
    rw [hac, hac']
    cases h with
    | cons ha t =>
      cases t with
      | cons hc t =>
        rw [show headI [a', c'] = a' from rfl, show headI [a, c] = a from rfl, show headI [a', c'].tail = c' from rfl, show headI [a, c].tail = c from rfl, ptx_app, ptx_app, ptx_s, ptx_s, hc.level, corr_put ha, corr_put hc]
  split
  · rw [ptx_s, ptx_s, ptx_app, ptx_app, corr_between _ _ _ h]
    rfl
  · exact corr_between _ _ _ h
def Stand (G' : List Gt) (b : Nat) (t : List Gt) : Prop := ∀ j x, t[j]? = some x → G'[b + j]? = some x
theorem Stand.left {G' : List Gt} {b : Nat} {s t : List Gt} (h : Stand G' b (s ++ t)) : Stand G' b s := fun j x hj => h j x (by
  rw [List.getElem?_append_left (List.getElem?_eq_some_iff.1 hj).1]; exact hj)
theorem Stand.right {G' : List Gt} {b : Nat} {s t : List Gt} (h : Stand G' b (s ++ t)) : Stand G' (b + s.length) t := fun j x hj => by
  have := h (s.length + j) x (by rw [List.getElem?_append_right (by omega)]; simpa using hj)
  rwa [← Nat.add_assoc] at this
theorem TR_pos {n : Int} {G : List Gt} (hok : Ok n G) {i : Nat} (hi : i < G.length) (b : Nat) : 0 < (TR G i b).length := by
  rw [TR_eq hok (List.getElem?_eq_getElem hi)]; simp
theorem rootI_nat {b : Nat} {t : List Gt} (h : 0 < t.length) : rootI b t = ((b + t.length - 1 : Nat) : Int) := by unfold rootI; omega
theorem corr_tree {n n' : Int} {G G' : List Gt} (hok : Ok n G) (hok' : Ok n' G') : ∀ (i : Nat), i < G.length → ∀ (b : Nat), Stand G' b (TR G i b) → Corr G G' i (rootI b (TR G i b)) := by
  intro i
  induction i using Nat.strongRecOn with
  | _ i ih =>
    intro hi b hs
    have hx : G[i]? = some G[i] := List.getElem?_eq_getElem hi
    obtain ⟨g, hg⟩ : ∃ g, g = G[i] := ⟨_, rfl⟩
    rw [← hg] at hx
    have hG := hok i g hx
    have sub : ∀ k ∈ g.ins, ∀ (c : Nat), Stand G' c (TR G k c) → Corr G G' k (rootI c (TR G k c)) := fun k hk c hc => by
      obtain ⟨j, rfl, hj, _⟩ := hG.inp hi hk
      exact ih j hj (by omega) c hc
    have hT := TR_eq hok hx b
    rw [hT] at hs
    have all : ∀ (l : List Int), (∀ k ∈ l, k ∈ g.ins) → ∀ (c : Nat), Stand G' c (seqI (TR G) l c).1 → All2 (Corr G G') l (seqI (TR G) l c).2 := by
      intro l
      induction l with
      | nil => intro _ _ _; exact .nil
      | cons k r ihl =>
        intro hm c hc
        unfold seqI at hc ⊢
        exact .cons (sub k (hm k (by simp)) c hc.left) (ihl (fun k' hk' => hm k' (by simp [hk'])) _ hc.right)
    have hroot : rootI b (TR G i b) = ((b + (seqI (TR G) g.ins b).1.length : Nat) : Int) := by rw [hT]; unfold rootI; simp; omega
    have hx' : G'[b + (seqI (TR G) g.ins b).1.length]? = some ⟨g.k, g.lit, (seqI (TR G) g.ins b).2⟩ := hs.right 0 _ (by simp)
    have hA := all g.ins (fun _ h => h) b hs.left
    rw [hroot]
    have hgi := gI_of hx
    have hgi' := gI_of hx'
    refine ⟨by rw [hgi, hgi'], by rw [hgi, hgi'], by rw [hgi, hgi']; exact hA.length, ?_⟩
    rw [TX_eq hok hx, TX_eq hok' hx']
    exact corr_pcs (g' := ⟨g.k, g.lit, (seqI (TR G) g.ins b).2⟩) rfl rfl hA (fun e => many_one hG.many e) (fun e => many_two hG.many e)
theorem text_tree {n n' : Int} {G : List Gt} (hok : Ok n G) {i : Nat} (hi : i < G.length) (hok' : Ok n' (TR G i 0)) : TX (TR G i 0) (((TR G i 0).length - 1 : Nat)) = TX G i := by
  have h := corr_tree hok hok' i hi 0 (fun j x hj => by rw [Nat.zero_add]; exact hj)
  have e := rootI_nat (b := 0) (TR_pos hok hi 0)
  rw [Nat.zero_add] at e
  rw [e] at h
  exact h.tx
end Go.Proofs.YtallcgpiecopcaaDoor

/- What is written for a circuit, by both: lengths, pieces one by one. Plain. -/
namespace Go.Proofs.YtallcgpiecopcaaDoor
open Go

def printI (n : Int) (gs : List Gt) : List UInt8 × Int := if checkI n gs ≠ 0 then ([], checkI n gs) else if 1048576 < (TX gs ((gs.length : Nat) - 1 : Nat)).length then ([], 2) else (TX gs ((gs.length : Nat) - 1 : Nat), 0)
def KN (gs : List Gt) (k : Int) : List UInt8 := if 1048576 < (TX gs k).length then [0] else TX gs k
/-! ### One operand more -/
theorem more_snoc (gs : List Gt) (sep : List UInt8) (w : List (List UInt8)) (own : Nat) (k : Int) : ∀ l : List Int, moreI gs sep w own (l ++ [k]) = moreI gs sep w own l ++ (.s sep w :: opI gs own k)
  | [] => by simp [moreI]
  | j :: l => by rw [List.cons_append, moreI, moreI, more_snoc gs sep w own k l]; simp
theorem between_snoc (gs : List Gt) (sep : List UInt8) (w : List (List UInt8)) (own : Nat) (k : Int) (l : List Int) : betweenI gs sep w own (l ++ [k]) = betweenI gs sep w own l ++ ((if l = [] then [] else [.s sep w]) ++ opI gs own k) := by
  cases l with
  | nil => simp [betweenI, moreI]
  | cons j l => rw [List.cons_append, betweenI, betweenI, more_snoc]; simp
theorem take_snoc {l : List Int} {i : Nat} {k : Int} (h : l[i]? = some k) : l.take (i + 1) = l.take i ++ [k] := by
  obtain ⟨hi, rfl⟩ := List.getElem?_eq_some_iff.1 h
  rw [List.take_succ_eq_append_getElem hi]
theorem between_take (gs : List Gt) (sep : List UInt8) (w : List (List UInt8)) (own : Nat) {l : List Int} {i : Nat} {k : Int} (h : l[i]? = some k) : betweenI gs sep w own (l.take (i + 1)) = betweenI gs sep w own (l.take i) ++ ((if i = 0 then [] else [.s sep w]) ++ opI gs own k) := by
  rw [take_snoc h, between_snoc]
  have hi := (List.getElem?_eq_some_iff.1 h).1
  cases i with
  | zero => simp
  | succ i =>
    have hne : l.take (i + 1) ≠ [] := fun e => by
      have := congrArg List.length e
      rw [List.length_take, List.length_nil] at this
      omega
    rw [if_neg hne, if_neg (Nat.succ_ne_zero i)]
def capI (n : Nat) : Nat := min n 1048577
theorem capI_le (a : Nat) : capI a ≤ 1048577 := by unfold capI; omega
theorem capI_big (a : Nat) : (1048576 < capI a) = (1048576 < a) := by unfold capI; apply propext; omega
end Go.Proofs.YtallcgpiecopcaaDoor

/- More blanks do not change what is read. Plain. -/
namespace Go.Proofs.YtallcgpiecopcaaDoor
open Go

theorem tw_mem {p : UInt8 → Bool} : ∀ (l : List UInt8) {c : UInt8}, c ∈ l.takeWhile p → p c = true
  | [], _, h => by simp at h
  | a :: l, c, h => by
    rw [List.takeWhile_cons] at h
    split at h
    · rename_i ha
      rcases List.mem_cons.1 h with rfl | h
      · exact ha
      · exact tw_mem l h
    · simp at h
theorem sign_blank : ∀ s ∈ signsI, ∀ c ∈ s, c ≠ 32 := by decide
theorem tok_word {l : List UInt8} {t : List UInt8} (h : tokI l = some t) : (∀ c ∈ t, c ≠ 32) ∧ Lib.hasPrefix l t = true := by
  unfold tokI at h
  split at h
  · cases h; exact ⟨fun c hc => by simp at hc, by simp [Lib.hasPrefix]⟩
  · split at h
    · rename_i s hs
      cases h
      exact ⟨sign_blank _ (List.mem_of_find?_eq_some hs), by simpa using List.find?_some hs⟩
    · split at h
      · cases h
      · cases h
        refine ⟨fun c hc => ?_, ?_⟩
        · have := tw_mem _ hc
          exact (small_not_sign this).2.2.2.2.2.2.2.2.2
        · unfold Lib.hasPrefix
          rw [List.isPrefixOf_iff_prefix]
          exact List.takeWhile_prefix _
end Go.Proofs.YtallcgpiecopcaaDoor

/- A text in parentheses is read as the same circuit. Plain. -/
namespace Go.Proofs.YtallcgpiecopcaaDoor
open Go

def EndI : List Tk := [some []]
def ParI : List Tk := [some [41], some []]
def Full (ts : List Tk) : Prop := ∀ t ∈ ts, t ≠ some []
theorem Full.tail {t : Tk} {ts : List Tk} (h : Full (t :: ts)) : Full ts := fun x hx => h x (by simp [hx])
def Sim (r r' : PR) : Prop := ∀ l q g, r = .ok l q g → ∃ ts, q = ts ++ EndI ∧ Full ts ∧ Good r' (.ok l (ts ++ ParI) g)
theorem Sim.bind {r r' : PR} {f f' : List Int → List Tk → List Gt → PR} (h : Sim r r') (hf : ∀ l ts g, r = .ok l (ts ++ EndI) g → Full ts → Sim (f l (ts ++ EndI) g) (f' l (ts ++ ParI) g)) : Sim (r.bind f) (r'.bind f') := fun l q g e => by
  obtain ⟨l1, q1, g1, h1, h2⟩ := bind_ok e
  obtain ⟨ts, rfl, hF, hG⟩ := h l1 q1 g1 h1
  obtain ⟨us, rfl, hU, hG2⟩ := hf l1 ts g1 h1 hF l q g h2
  exact ⟨us, rfl, hU, Good.bind hG hG2⟩
theorem Sim.ok {l : List Int} {ts : List Tk} {g : List Gt} (h : Full ts) : Sim (.ok l (ts ++ EndI) g) (.ok l (ts ++ ParI) g) := fun l' q g' e => by
  cases e; exact ⟨ts, rfl, h, .refl _⟩
theorem Sim.err {r : Nat} {e : Int} {x : PR} : Sim (.err r e) x := fun _ _ _ h => by cases h
theorem Sim.next {ts : List Tk} (hF : Full ts) {f f' : List UInt8 → PR} (he : ts = [] → Sim (f []) (f' [41])) (hs : ∀ t r, ts = some t :: r → t ≠ [] → Sim (f t) (f' t)) : Sim (nextI (ts ++ EndI) f) (nextI (ts ++ ParI) f') := by
  cases ts with
  | nil => exact he rfl
  | cons t r =>
    cases t with
    | none => exact .err
    | some t =>
      rw [List.cons_append, List.cons_append, next_some, next_some]
      exact hs t r rfl (fun e => hF (some t) (by simp) (by rw [e]))
theorem Sim.need {s : List UInt8} (hs : s ≠ []) {ts : List Tk} (hF : Full ts) {f f' : List Tk → PR} (h : ∀ r, ts = some s :: r → Sim (f (r ++ EndI)) (f' (r ++ ParI))) : Sim (needI s (ts ++ EndI) f) (needI s (ts ++ ParI) f') := by
  unfold needI
  refine Sim.next hF (fun _ => ?_) (fun t r e ht => ?_)
  · rw [if_neg (Ne.symm hs)]; exact .err
  · subst e
    by_cases e : t = s
    · rw [if_pos e, if_pos e]
      exact h r (by rw [e])
    · rw [if_neg e]; exact .err
theorem Sim.open {s : List UInt8} (hs : s ≠ []) {ts : List Tk} (hF : Full ts) {o : Nat} {f f' : List Tk → PR} (h : ∀ r, ts = some s :: r → Sim (f (r ++ EndI)) (f' (r ++ ParI))) : Sim (openI s (ts ++ EndI) o f) (openI s (ts ++ ParI) (o + 1) f') := by
  unfold openI
  refine Sim.need hs hF fun r e => ?_
  by_cases h1 : 200 ≤ o
  · rw [if_pos h1]; exact .err
  · rw [if_neg h1]
    by_cases h2 : 200 ≤ o + 1
    · intro l q g hq
      obtain ⟨us, e1, e2, _⟩ := h r e l q g hq
      exact ⟨us, e1, e2, .inr ⟨_, by rw [if_pos h2]⟩⟩
    · rw [if_neg h2]; exact h r e
theorem sim (n : Nat) : ∀ (f : Nat) (m : Md) (ts : List Tk) (o : Nat) (gs : List Gt), Full ts → Sim (readI n f m (ts ++ EndI) o gs) (readI n f m (ts ++ ParI) (o + 1) gs) := by
  intro f
  induction f with
  | zero => intro m ts o gs _; rw [readI]; exact .err
  | succ f ih =>
    intro m ts o gs hF
    cases m with
    | form =>
      rw [readI, readI]
      exact Sim.bind (ih _ _ _ _ hF) fun l us g _ hU => ih _ _ _ _ hU
    | formL k =>
      rw [readI, readI]
      refine Sim.next hF (fun e => ?_) (fun t r e _ => ?_)
      · rw [if_neg (by decide), if_neg (by decide)]; exact Sim.ok hF
      · subst e
        by_cases e : t = [60, 45, 62]
        · rw [if_pos e, if_pos e]
          exact Sim.bind (ih _ r _ _ hF.tail) fun l us g _ hU => ih _ _ _ _ hU
        · rw [if_neg e, if_neg e]; exact Sim.ok hF
    | impl =>
      rw [readI, readI]
      exact Sim.bind (ih _ _ _ _ hF) fun l us g _ hU => ih _ _ _ _ hU
    | implL k =>
      rw [readI, readI]
      refine Sim.next hF (fun e => ?_) (fun t r e _ => ?_)
      · rw [if_neg (by decide), if_neg (by decide)]; exact Sim.ok hF
      · subst e
        by_cases e : t = [45, 62]
        · rw [if_pos e, if_pos e]
          exact Sim.bind (ih _ r _ _ hF.tail) fun l us g _ hU => ih _ _ _ _ hU
        · rw [if_neg e, if_neg e]; exact Sim.ok hF
    | chain lv =>
      rw [readI, readI]
      by_cases e : 7 ≤ lv
      · rw [if_pos e, if_pos e]; exact ih _ _ _ _ hF
      · rw [if_neg e, if_neg e]
        exact Sim.bind (ih _ _ _ _ hF) fun l us g _ hU => ih _ _ _ _ hU
    | chainL lv k =>
      rw [readI, readI]
      refine Sim.next hF (fun e => ?_) (fun t r e _ => ?_)
      · rw [if_neg (Ne.symm (signI_ne lv)), if_neg (sign_no (by decide) lv)]
        split <;> exact Sim.ok hF
      · subst e
        by_cases e : t = signI lv
        · rw [if_pos e, if_pos e]
          exact Sim.bind (ih _ r _ _ hF.tail) fun l us g _ hU => ih _ _ _ _ hU
        · rw [if_neg e, if_neg e]
          split <;> exact Sim.ok hF
    | atom =>
      rw [readI, readI]
      refine Sim.next hF (fun e => ?_) (fun t r e _ => ?_)
      · rw [if_neg (by rw [varI_nil]; simp), if_neg (by decide), if_neg (by decide), if_neg (by decide), if_neg (by decide), if_pos (by decide)]
        exact .err
      · by_cases e1 : varI n t ≠ 0
        · rw [if_pos e1, if_pos e1]; subst e; exact Sim.ok hF.tail
        rw [if_neg e1, if_neg e1]
        by_cases e2 : t = [33]
        · rw [if_pos e2, if_pos e2]
          refine Sim.open (by simp) hF fun u hu => ?_
          have hU : Full u := by rw [hu] at hF; exact hF.tail
          refine Sim.next hU (fun e => ?_) (fun w v e _ => ?_)
          · rw [if_neg (by rw [varI_nil]; simp)]
            intro l q g hq
            obtain ⟨a, b, c, h1, _⟩ := bind_ok hq
            subst e
            cases f with
            | zero => rw [readI] at h1; cases h1
            | succ f =>
              rw [readI, List.nil_append, show nextI EndI _ = _ from next_some, if_neg (by rw [varI_nil]; simp), if_neg (by decide), if_neg (by decide), if_neg (by decide), if_neg (by decide), if_pos (by decide)] at h1
              cases h1
          · by_cases e3 : varI n w ≠ 0
            · rw [if_pos e3, if_pos e3]; subst e; exact Sim.ok hU.tail
            · rw [if_neg e3, if_neg e3]
              exact Sim.bind (ih _ _ _ _ hU) fun l us g _ hU => Sim.ok hU
        rw [if_neg e2, if_neg e2]
        by_cases e3 : t = [40]
        · rw [if_pos e3, if_pos e3]
          refine Sim.open (by simp) hF fun u hu => ?_
          have hU : Full u := by rw [hu] at hF; exact hF.tail
          refine Sim.bind (ih _ _ _ _ hU) fun l us g _ hU => ?_
          refine Sim.need (by simp) hU fun v hv => ?_
          exact Sim.ok (by rw [hv] at hU; exact hU.tail)
        rw [if_neg e3, if_neg e3]
        by_cases e4 : t = [48]
        · rw [if_pos e4, if_pos e4]; subst e; exact Sim.ok hF.tail
        rw [if_neg e4, if_neg e4]
        by_cases e5 : t = [49]
        · rw [if_pos e5, if_pos e5]; subst e; exact Sim.ok hF.tail
        rw [if_neg e5, if_neg e5]
        by_cases e6 : wordI t = -1
        · rw [if_pos e6]; exact .err
        rw [if_neg e6, if_neg e6]
        subst e
        exact Sim.bind (ih _ r _ _ hF.tail) fun l us g _ hU => Sim.ok hU
    | args =>
      rw [readI, readI]
      refine Sim.open (by simp) hF fun u hu => ?_
      have hU : Full u := by rw [hu] at hF; exact hF.tail
      refine Sim.next hU (fun e => ?_) (fun w v e _ => ?_)
      · rw [if_neg (by decide)]
        intro l q g hq
        obtain ⟨a, b, c, h1, _⟩ := bind_ok hq
        subst e
        exfalso
        obtain ⟨ts, e1, _⟩ := ih .form [] (o + 1) gs hU a b c h1
        have h9 := readI_len n _ _ _ _ _ _ _ _ h1
        simp [loopM, EndI] at h9
        subst h9
        have := congrArg List.length e1
        simp [EndI] at this
      · by_cases e3 : w = [41]
        · rw [if_pos e3, if_pos e3]; subst e; exact Sim.ok hU.tail
        · rw [if_neg e3, if_neg e3]
          exact Sim.bind (ih _ _ _ _ hU) fun l us g _ hU => ih _ _ _ _ hU
    | argsL k =>
      rw [readI, readI]
      refine Sim.next hF (fun e => ?_) (fun t r e _ => ?_)
      · subst e
        rw [if_neg (by decide), show needI [41] ([] ++ EndI) (fun ts => PR.ok k ts gs) = .err ([] ++ EndI).length 5 from rfl]
        exact .err
      · subst e
        by_cases e : t = [44]
        · rw [if_pos e, if_pos e]
          exact Sim.bind (ih _ r _ _ hF.tail) fun l us g _ hU => ih _ _ _ _ hU
        · rw [if_neg e, if_neg e]
          refine Sim.need (by simp) hF fun v hv => ?_
          cases hv
          exact Sim.ok hF.tail
    | three =>
      rw [readI, readI]
      refine Sim.open (by simp) hF fun u hu => ?_
      have hU : Full u := by rw [hu] at hF; exact hF.tail
      refine Sim.bind (ih _ _ _ _ hU) fun l us g _ h1 => ?_
      refine Sim.need (by simp) h1 fun v hv => ?_
      have h2 : Full v := by rw [hv] at h1; exact h1.tail
      refine Sim.bind (ih _ _ _ _ h2) fun l us g _ h3 => ?_
      refine Sim.need (by simp) h3 fun v hv => ?_
      have h4 : Full v := by rw [hv] at h3; exact h3.tail
      refine Sim.bind (ih _ _ _ _ h4) fun l us g _ h5 => ?_
      refine Sim.need (by simp) h5 fun v hv => ?_
      exact Sim.ok (by rw [hv] at h5; exact h5.tail)
end Go.Proofs.YtallcgpiecopcaaDoor
