/- Texts of this claim, joined: BAsk, BLists, BAskW. -/
import Derived.Test.YtbacloneddnaeaaGreatS39
import Derived.Test.YtbacloneddnaeaaGreatS37
import Derived.Test.YtbacloneddnaeaaGreatS23

/- censusref40.ask and Ask. -/
namespace Go.Proofs.YtbacloneddnaeaaGreat
open Go.RowKit Go.Shelf Num

theorem sm_dec3 {p : Nat × Nat} (h : Sm 200000 p) : (dec p.1).size ≤ 600000 ∧ (dec p.2).size ≤ 600000 := ⟨dec_nl _ 200000 (by omega) h.1, dec_nl _ 200000 (by omega) h.2⟩
section
variable (p q : Nat × Nat) (hp : Sm 200000 p) (hq : Sm 200000 q)
include hp hq
theorem gOver3 : Gives 65 #[xratV p, xratV q] (.tuple #[.string (dec (p.1 * q.2)), .string (dec (q.1 * p.2)), .string (dec (p.2 * q.2))]) := by
  obtain ⟨h1, h2⟩ := sm_dec3 hp
  obtain ⟨h3, h4⟩ := sm_dec3 hq
  exact w_over _ _ _ _ _ _ _ (gXMul _ _ (by omega) (by omega)) (gXMul _ _ (by omega) (by omega)) (gXMul _ _ (by omega) (by omega))
theorem gXAdd3 (lp : Q.Low p) (lq : Q.Low q) : Gives 34 #[xratV p, xratV q] (xratV (Q.add p q)) := by
  have s1 := gOver3 p q hp hq
  obtain ⟨h1, h2⟩ := hp
  obtain ⟨h3, h4⟩ := hq
  have e1 := nl_mul p.1 q.2
  have e2 := nl_mul q.1 p.2
  have e3 := nl_mul p.2 q.2
  have e4 := nl_add (p.1 * q.2) (q.1 * p.2)
  have s2 := dec_nl (p.1 * q.2) 400000 (by omega) (by omega)
  have s3 := dec_nl (q.1 * p.2) 400000 (by omega) (by omega)
  exact w_xadd _ _ _ _ _ _ _ _ _ _ true s1 (gXAdd _ _ (by omega) (by omega)) (gXNew _ _ (by omega) (by omega) (Nat.mul_pos lp.1 lq.1))
end

theorem RefAt.mono {N M : Nat} {w : World} {a : Option Addr} {l : List RV} (h : RefAt N w a l) (hM : N ≤ M) : RefAt M w a l := fun i x hi => by
  obtain ⟨b, o, pa, pc, ta, tc, hb, ha, n0, n1, n2, hpa, hta⟩ := h i x hi
  exact ⟨b, o, pa, pc, ta, tc, by omega, ha, n0, n1, n2, hpa.mono hM, hta.mono hM⟩

theorem natsI_cells {w : World} {g : Nat} {vs : List Nat} {T : TypeId} (h : w.heap[g]? = some (.cells (natsI vs).toArray T (0, 0))) : AtN w.heap.size w (some ⟨g, 0, none⟩) (ints (vs.map Int.ofNat)) := by
  have := atN_cells h
  rwa [List.toList_toArray] at this

set_option maxHeartbeats 1000000 in
set_option maxRecDepth 100000 in
theorem xask_law (N : Nat) (l : List RV) (ev : List Int) (a ea : Option Addr) (c ec : Nat) (hl : Lit l) (hg : Good (gnet l)) (hev : ev.length = l.length) (hct : (allV (ksOf (gnet l))).length ≤ 300) (w : World) (hN : RefAt N w a l) (hE : AtN N w ea (ints ev)) (hw : N ≤ w.heap.size) :
    Calls Tryz.prog 25 #[.slice a l.length c, .slice ea ev.length ec] w fun e w' => e = .returned (.agg #[.string (dec (askV (gnet l) ev (allV (ksOf (gnet l)))).1), .string (dec (askV (gnet l) ev (allV (ksOf (gnet l)))).2)]) ∧ Below w.heap.size w w' := by
  obtain ⟨i0, hi, hz0, hz1, hz2⟩ := info_parts Tryz.infoInt
  have hlen : l.length ≤ 16 := by have := hg.len; simpa [gnet] using this
  have HL := Lib.hid hl
  have HG := Lib.hid hg
  have HN := Lib.hid (hN.mono hw)
  have HE := Lib.hid (hE.mono hw)
  have HEV := Lib.hid hev
  have HCT := Lib.hid hct
  have KO : Gives 33 #[] (.agg #[.string (dec 0), .string (dec 1)]) := gXZero
  have hhd : (allV (ksOf (gnet l))).head? = some (List.replicate l.length 0) := by
    rw [allV_head _ (ksOf_pos hg)]; simp [ksOf, gnet]
  obtain ⟨rest0, hal⟩ : ∃ rest0, allV (ksOf (gnet l)) = List.replicate l.length 0 :: rest0 := by
    cases hA : allV (ksOf (gnet l)) with
    | nil => rw [hA] at hhd; cases hhd
    | cons m M => rw [hA] at hhd; simp at hhd; subst hhd; exact ⟨M, rfl⟩
  have HAL := Lib.hid hal
  have HPATH := Lib.hid (allV_path _ (ksOf_pos hg))
  have HFIT := Lib.hid (fun vs (h : vs ∈ allV (ksOf (gnet l))) => allV_fit hg h)
  have HSM := Lib.hid (fun done (h : done.length ≤ 300) => askV_sm hg ev done)
  have HPR := Lib.hid (fun vs => prodV_low hg vs l.length)
  obtain ⟨A, hA⟩ : ∃ A, A = allV (ksOf (gnet l)) := ⟨_, rfl⟩
  have HRES := Lib.hid (congrArg (askV (gnet l) ev) hA)
  rw [← hA] at HPATH HCT HAL HFIT ⊢
  clear hl hg hN hE hw hhd hal hev hct hA
  go_enter Tryz.func25, Tryz.ntmps25
  go_wp2_with fail
  refine calls_gen fun u1 hu => ?_
  have m4 : ∃ s1 s2, u1.heap[w.heap.size]? = some (.cells #[s1, s2] 69 (0, 0)) := ⟨_, _, by rw [hu]; exact World.alloc_heap_new w _⟩
  have hb1 : Below w.heap.size w u1 := by rw [hu]; exact (Below.refl _ _).alloc (Nat.le_refl _) _
  clear hu
  refine (KO _).mono ?_
  rintro r3 w3 ⟨rfl, hB3⟩
  obtain ⟨s1, s2, m4⟩ := m4
  have m43 := (behind_of_below hB3).keep m4 (by simp)
  have HB3 := Lib.hid (hb1.trans (hB3.mono hb1.size))
  have hl4 := lt_of_heap m43
  have M43 := Lib.hid m43
  clear m4 hb1 hB3 m43
  go_wp2_with (at_make; refine wpList_make_full _ rfl (.tmp 10) (.tmp 10) 23 rfl (w3.heap.size + 1) 3 i0 (.int .i64 0) 1 Tryz.underlying23 hi hz0 hz1 .i64 .i64 _ _ l.length rfl rfl (by omega) (by omega) (by rw [hz2]; omega) (by unfold maxLen; omega) (by simp) ?_)
  intro w4 hown hgr
  have hR := Row.ofOwns hown
  rw [ints_zeros] at hR
  obtain ⟨u4, hu4⟩ : ∃ u4, u4 = w3.alloc (.cells #[.string (dec 0), .string (dec 1)] 69 (0, 0)) := ⟨_, rfl⟩
  rw [← hu4] at hgr
  have m5u : u4.heap[w3.heap.size]? = some (.cells #[.string (dec 0), .string (dec 1)] 69 (0, 0)) := by rw [hu4]; exact heap_alloc_new w3 _
  have hb4 : Below w3.heap.size w3 u4 := by rw [hu4]; exact (Below.refl _ _).alloc (Nat.le_refl _) _
  have hsz4 : u4.heap.size = w3.heap.size + 1 := by rw [hu4]; simp
  have hgb := grown_below hgr (Nat.le_refl _) (by rw [hsz4]; simp)
  have M5 := Lib.hid ((behind_of_below hgb).keep m5u (by simp))
  have M4 := Lib.hid ((behind_of_below hgb).keep ((behind_of_below hb4).keep M43.out (by simp)) (by simp))
  have HB4 := Lib.hid (HB3.out.trans ((hb4.trans (hgb.mono hb4.size)).mono HB3.out.size))
  have MV := Lib.hid (show w4.heap[w3.heap.size + 1]? = some (.cells (natsI (List.replicate l.length 0)).toArray 3 (0, 0)) by
    have := hR
    unfold natsI
    rw [List.map_replicate]
    exact this)
  obtain ⟨gV, hgV⟩ : ∃ gV, gV = w3.heap.size + 1 := ⟨_, rfl⟩
  obtain ⟨gS, hgS⟩ : ∃ gS, gS = w3.heap.size := ⟨_, rfl⟩
  rw [← hgV] at MV ⊢
  rw [← hgS] at M5 ⊢
  have hSV : gS ≠ gV := by omega
  have hS4 : w.heap.size ≠ gS := by omega
  have hV4 : w.heap.size ≠ gV := by omega
  have hlS : w.heap.size ≤ gS := by omega
  have hlV : w.heap.size ≤ gV := by omega
  clear hown hgr hR hu4 m5u hb4 hsz4 hgb M43 hl4 hgV hgS
  go_wp2_with fail
  go_loopg [7] A.length (fun k u wr => ∃ (done todo : List (List Nat)), Hid (A = done ++ todo) ∧ todo.length ≤ k ∧ ((∃ vs rest, Hid (todo = vs :: rest) ∧ u = .bool true ∧ Hid (wr.heap[gV]? = some (.cells (natsI vs).toArray 3 (0, 0)))) ∨ (Hid (todo = []) ∧ u = .bool false)) ∧ Hid (wr.heap[gS]? = some (.cells #[.string (dec (askV (gnet l) ev done).1), .string (dec (askV (gnet l) ev done).2)] 69 (0, 0))) ∧ Hid (wr.heap[w.heap.size]? = some (.cells #[s1, s2] 69 (0, 0))) ∧ Hid (Below w.heap.size w wr))
  case atStart => exact ⟨[], A, rfl, Nat.le_refl _, .inl ⟨_, _, HAL, rfl, MV⟩, by rw [askV_nil]; exact M5, M4, HB4⟩
  case round =>
    obtain ⟨done, todo, HD, hk, HU, H5, H4, HB⟩ := hrel
    clear MV M5 M4 HB4 HB3
    rcases HU with ⟨vs, rest, HTD, rfl, HV⟩ | ⟨HTD, rfl⟩
    · have hdl : done.length + 1 ≤ 300 := by
        have h1 := HCT.out
        rw [HD.out, HTD.out] at h1
        simp at h1; omega
      have hmem : vs ∈ A := by rw [HD.out, HTD.out]; simp
      have hfit := HFIT.out vs hmem
      have hnx := path_at done vs rest (by rw [← HTD.out, ← HD.out]; exact HPATH.out)
      have hvl : vs.length = l.length := by have := hfit.len; simpa [gnet] using this
      have HFT := Lib.hid hfit
      have HNX := Lib.hid hnx
      have HVL := Lib.hid hvl
      have hvl16 : vs.length ≤ 100 := by omega
      have HVK := Lib.hid (show ∀ (i : Nat) (x : RV) (v : Nat), l[i]? = some x → vs[i]? = some v → (v : Int) < x.k ∧ x.k ≤ 8 from fun i x v hx hv => ⟨hfit.lt i (gvar x) v (gnet_get hx) hv, (HG.out.kb i (gvar x) (gnet_get hx)).2⟩)
      have hA2 : A = (done ++ [vs]) ++ rest := by rw [HD.out, HTD.out]; simp
      have HA2 := Lib.hid hA2
      have hlv : l.length = vs.length := hvl.symm
      have HLV := Lib.hid hlv
      have hkr := hk
      rw [HTD.out, List.length_cons] at hkr
      clear hmem hfit hnx hvl hA2 hlv HD hk
      go_wp2_with fail
      rw [HLV.out]
      have h1 : ev.length = vs.length := by rw [HEV.out, HLV.out]
      have h2 : AtN wr.heap.size wr ea (ints ev) := ((HE.out.below HB.out (Nat.le_refl _)).mono HB.out.size)
      have h3 : AtN wr.heap.size wr (some ⟨gV, 0, none⟩) (natsI vs) := natsI_cells HV.out
      refine (xagrees_law wr.heap.size vs ev (some ⟨gV, 0, none⟩) ea vs.length ec hvl16 h1 wr h3 h2 (Nat.le_refl _)).mono ?_
      rintro r6 w6 ⟨rfl, hB6⟩
      have HV6 := Lib.hid ((behind_of_below hB6).keep HV.out (by simp))
      have H56 := Lib.hid ((behind_of_below hB6).keep H5.out (by simp))
      have H46 := Lib.hid ((behind_of_below hB6).keep H4.out (by simp))
      have HB6 := Lib.hid (HB.out.trans (hB6.mono HB.out.size))
      clear h1 h2 h3 hB6 HV H5 H4 HB
      cases hag : agreesB vs ev with
      | false =>
        have HAS := Lib.hid (askV_no (l := gnet l) (vss := done) hag)
        clear hag
        go_wp2_with fail
        rw [← HLV.out]
        have h1 : l.length ≤ 100 := by omega
        have KN := xnext_law w.heap.size l vs a c gV l.length h1 HVL.out HVK.out w6 (HN.out.below HB6.out (Nat.le_refl _)) HB6.out.size hlV HV6.out
        rw [HVL.out] at KN
        refine KN.mono ?_
        rintro r8 w8 ⟨rfl, hv8, hx8⟩
        have M58 := Lib.hid (hx8.keep H56.out (by simp; omega))
        have M48 := Lib.hid (hx8.keep H46.out (by simp; omega))
        have HB8 := Lib.hid (HB6.out.trans (hx8.below_of (b := w.heap.size) (by intro k hk; rw [List.mem_singleton.1 hk]; exact hlV) HB6.out.size))
        rw [ksR_of, HNX.out] at hv8 ⊢
        have HV8 := Lib.hid hv8
        clear h1 KN hx8 hv8 HV6 H56 H46 HB6
        cases rest with
        | nil =>
          go_wp2_with fail
          go_roundg 0
          case measure => omega
          case rel => exact ⟨done ++ [vs], [], HA2, by simp, .inr ⟨rfl, rfl⟩, by rw [HAS.out]; exact M58, M48, HB8⟩
        | cons u rest =>
          go_wp2_with fail
          go_roundg (rest.length + 1)
          case measure => rw [List.length_cons] at hkr; omega
          case rel => exact ⟨done ++ [vs], u :: rest, HA2, by simp, .inl ⟨u, rest, rfl, rfl, HV8⟩, by rw [HAS.out]; exact M58, M48, HB8⟩

      | true =>
        have HAS := Lib.hid (askV_yes (l := gnet l) (vss := done) hag)
        obtain ⟨hlow, hsm⟩ := HSM.out done (by omega)
        obtain ⟨hlow2, hsm2⟩ := HPR.out vs
        have KA : Gives 34 #[.agg #[.string (dec (askV (gnet l) ev done).1), .string (dec (askV (gnet l) ev done).2)], .agg #[.string (dec (prodV (gnet l) vs l.length).1), .string (dec (prodV (gnet l) vs l.length).2)]] (.agg #[.string (dec (Q.add (askV (gnet l) ev done) (prodV (gnet l) vs l.length)).1), .string (dec (Q.add (askV (gnet l) ev done) (prodV (gnet l) vs l.length)).2)]) := gXAdd3 _ _ (hsm.mono (by omega)) (hsm2.mono (by omega)) hlow hlow2
        have KP : ∀ z : World, Below w.heap.size w z → z.heap[gV]? = some (.cells (natsI vs).toArray 3 (0, 0)) → GivesFrom z 54 #[.slice a l.length c, .slice (some ⟨gV, 0, none⟩) vs.length vs.length] (.agg #[.string (dec (prodV (gnet l) vs l.length).1), .string (dec (prodV (gnet l) vs l.length).2)]) := fun z hz mz w' hb =>
          xproduct_law z.heap.size l vs a (some ⟨gV, 0, none⟩) c vs.length HL.out HG.out HFT.out w' (((HN.out.below hz (Nat.le_refl _)).mono hz.size).below hb (Nat.le_refl _)) ((natsI_cells mz).below hb (Nat.le_refl _)) hb.size
        have hgSl : gS < w6.heap.size := lt_of_heap H56.out
        rw [show (gnet l).length = l.length by simp [gnet]] at HAS
        generalize hP : prodV (gnet l) vs l.length = P at *
        generalize hSS : askV (gnet l) ev done = S at *
        generalize hS2 : Q.add S P = S2 at *
        clear hag hlow hsm hlow2 hsm2 hP hSS
        rw [HLV.out] at KP
        go_wp2_with fail
        refine wp_game [1, 0, 0, 0, 0, 2] [gS] _ (Fin.put fin_B0 _ _) (has_put (has_B0 _) H56.out) (by kernel_rfl) (by kernel_rfl) ?_
        refine lex_readE 1 w6 (Behind.refl _ _) (has_put (has_B0 _) H56.out) (by kernel_rfl) (by rfl) ?_
        apply Exists.intro
        refine ⟨fun z hz hB => ?_, ?_⟩
        · have g0 := blk_cellp (hB gS _ (Blocks.put_same _ _ _)) 0 rfl
          have g1 := blk_cellp (hB gS _ (Blocks.put_same _ _ _)) 1 rfl
          clear hz hB
          simp only [List.take_succ_cons, List.take_zero]
          unfold Cx
          repeat (go_big_quiet_step (fail))
          exact wpQuiet_nil rfl
        simp only [List.drop_succ_cons, List.drop_zero]
        refine lex_quietE 4 (by kernel_rfl) (by rfl) ?_
        apply Exists.intro
        refine ⟨fun z hz => ?_, ?_⟩
        · have hwz := HB6.out.trans (hz.below_of (b := w.heap.size) (by intro k hk; rw [List.mem_singleton.1 hk]; exact hlS) HB6.out.size)
          have hmz := hz.keep HV6.out (by simp; omega)
          have KPz := KP z hwz hmz
          clear hz
          simp only [List.take_succ_cons, List.take_zero]
          unfold Cx
          repeat (go_big_quiet_step (first | with_reducible exact KPz.at _ | with_reducible exact KA.at _ _))
          exact wpQuiet_nil rfl
        simp only [List.drop_succ_cons, List.drop_zero]
        refine lex_store_all gS #[.string (dec S2.1), .string (dec S2.2)] _ _ (by rfl) (by rfl) (by rfl) (Blocks.put_same _ _ _) (by rfl) (.inl (by simp)) (by kernel_rfl) (by simp [Value.oneCell']) ?_
        refine lex_nil ?_
        intro x7 hx7 hH7
        have m57 := hH7 gS _ (Blocks.put_same _ _ _)
        have M57 := Lib.hid m57
        have MV7 := Lib.hid (hx7.keep HV6.out (by simp; omega))
        have M47 := Lib.hid (hx7.keep H46.out (by simp; omega))
        have HB7 := Lib.hid (HB6.out.trans (hx7.below_of (b := w.heap.size) (by intro k hk; rw [List.mem_singleton.1 hk]; exact hlS) HB6.out.size))
        clear hx7 hH7 m57 H56 H46 HB6 HV6 KA KP
        go_wp2_with fail
        rw [← HLV.out]
        have h1 : l.length ≤ 100 := by omega
        have KN := xnext_law w.heap.size l vs a c gV l.length h1 HVL.out HVK.out x7 (HN.out.below HB7.out (Nat.le_refl _)) HB7.out.size hlV MV7.out
        rw [HVL.out] at KN
        refine KN.mono ?_
        rintro r8 w8 ⟨rfl, hv8, hx8⟩
        have M58 := Lib.hid (hx8.keep M57.out (by simp; omega))
        have M48 := Lib.hid (hx8.keep M47.out (by simp; omega))
        have HB8 := Lib.hid (HB7.out.trans (hx8.below_of (b := w.heap.size) (by intro k hk; rw [List.mem_singleton.1 hk]; exact hlV) HB7.out.size))
        rw [ksR_of, HNX.out] at hv8 ⊢
        have HV8 := Lib.hid hv8
        clear h1 KN hx8 hv8 MV7 M57 M47 HB7
        cases rest with
        | nil =>
          go_wp2_with fail
          go_roundg 0
          case measure => omega
          case rel => exact ⟨done ++ [vs], [], HA2, by simp, .inr ⟨rfl, rfl⟩, by rw [HAS.out]; exact M58, M48, HB8⟩
        | cons u rest =>
          go_wp2_with fail
          go_roundg (rest.length + 1)
          case measure => rw [List.length_cons] at hkr; omega
          case rel => exact ⟨done ++ [vs], u :: rest, HA2, by simp, .inl ⟨u, rest, rfl, rfl, HV8⟩, by rw [HAS.out]; exact M58, M48, HB8⟩

    · have hAd : done = A := by rw [HD.out, HTD.out]; simp
      subst hAd
      have c50 := blk_cell H5.out 0 rfl
      have c51 := blk_cell H5.out 1 rfl
      have c40 := blk_cell H4.out 0 rfl
      have c41 := blk_cell H4.out 1 rfl
      have f40 := blk_free H4.out 0
      have f41 := blk_free H4.out 1
      obtain ⟨S, hS⟩ : ∃ S, S = askV (gnet l) ev done := ⟨_, rfl⟩
      rw [← hS] at c50 c51
      have HS := Lib.hid hS
      clear hS
      have hw1 := wrote_cell (o := 0) (.string (dec S.1)) H4.out
      have hw2 := wrote_cell (o := 1) (.string (dec S.2)) hw1.here
      have HW2 := Lib.hid hw2
      have HW1 := Lib.hid hw1
      have hbx : w.heap.size ≤ wr.heap.size := HB.out.size
      clear hw1 hw2
      go_wp2_with fail
      have m9 := HW2.out.here
      have c90 := blk_cell m9 0 (v := .string (dec S.1)) (by simp)
      have c91 := blk_cell m9 1 (v := .string (dec S.2)) (by simp)
      have HB9 := HB.out.trans ((((Behind.refl wr [w.heap.size]).wrote HW1.out (.inl (by simp))).wrote HW2.out (.inl (by simp))).below_of (b := w.heap.size) (by intro k hk; rw [List.mem_singleton.1 hk]; exact Nat.le_refl _) hbx)
      exact bodyPost_ret (v := .agg #[.string (dec S.1), .string (dec S.2)]) (by simp [results, Tryz.results25, go_sem, c90, c91]) rfl ⟨by rw [HS.out], HB9⟩
end Go.Proofs.YtbacloneddnaeaaGreat

/- Lists of numbers: a copy by append; Same. -/
namespace Go.Proofs.YtbacloneddnaeaaGreat
open Go.RowKit Go.Shelf Num

theorem run_append_zero {P : Program} (w : World) (t ty e : TypeId) (i : TypeInfo) (ht : P.underlying t = some (.slice e)) (hi : P.info? e = some i) (g : Nat) (a : Option Addr) (c : Nat) :
    (Builtin.append_ #[t, t] ty #[.slice (some ⟨g, 0, none⟩) 0 0, .slice a 0 c]).run P w = .ok (.slice (some ⟨g, 0, none⟩) 0 0) w := by
  cases a with
  | none => simp [Builtin.append_, run_underlying ht, sizeOf, typeInfo, hi, Builtin.lenOf, Builtin.firstCells, storeCells]
  | some a => simp [Builtin.append_, run_underlying ht, sizeOf, typeInfo, hi, Builtin.lenOf, Builtin.firstCells, storeCells, loadCells, loadCellsFrom]

/-- Old memory, or none, is appended to a new empty slice, in a fixed region. -/
theorem wpList_append_any {P : Program} {ops : Array Oper} {rest : List Oper} {o : Oper} {a : Act} {Q : Exit → Act → World → Prop} (w : World) (hgd : o.guard = none) (s x : Operand) (t : TypeId) (ho : o.op = .call { callee := .builtin .append, args := #[s, x], argTypes := #[t, t] })
    (E : TypeId) (i : TypeInfo) (z : Value) (bytes : Nat) (ht : P.underlying t = some (.slice E)) (hi : P.info? E = some i) (hz : i.zero = some z) (hsize : i.size = 1) (hby : i.bytes = bytes) (hzs : z.cells.size = 1)
    (g : Nat) (hs : a.eval s = .slice (some ⟨g, 0, none⟩) 0 0) (N : Nat) (ad : Option Addr) (m c2 : Nat) (news : List Value) (hx : a.eval x = .slice ad m c2) (hnews : AtN N w ad news) (hl : news.length = m)
    (h63 : m ≤ maxLen) (hbytes : m * bytes ≤ 140737488355328)
    (h : ∀ a' cap' w', AtN w'.heap.size w' a' news → Below w.heap.size w w' → wpList P ops Q rest (a.put o.dst (.slice a' m cap')) w') : wpList P ops Q (o :: rest) a w := by
  subst hby
  refine wpList_plain hgd fun _ hK => ?_
  rcases Nat.eq_zero_or_pos m with rfl | h0
  · have hr := run_append_zero (P := P) w t o.type E i ht hi g ad c2
    unfold Oper.wp execOp
    simp only [ho, resolve, invoke, builtin, Sem.run_bind, Sem.run_pure, Result.andThen_ok, List.map_toArray, List.map_cons, List.map_nil, hs, hx, hr]
    refine hK _ _ (h _ _ _ ?_ (Below.refl _ _))
    intro j u hj
    rw [List.length_eq_zero_iff.1 hl] at hj
    simp at hj
  · obtain ⟨b, of, hb, rfl, hc⟩ := hnews.base (by omega)
    have hl1 : news.length = m * i.size := by rw [hsize]; omega
    have hr := run_append_grow (P := P) w t o.type E i z ht hi hz ⟨g, 0, none⟩ 0 0 [] (by simp) (fun j v hj => by simp at hj) ⟨b, of, none⟩ m c2 news hl1 (fun j u hj => by rw [Addr.add_lit]; exact hc j u hj) (by omega) (by simp only [maxLen] at h63; omega) (growslice_fits (by omega) (by rw [Nat.zero_add]; exact hbytes))
    simp only [Nat.zero_add, List.nil_append] at hr
    unfold Oper.wp execOp
    simp only [ho, resolve, invoke, builtin, Sem.run_bind, Sem.run_pure, Result.andThen_ok, List.map_toArray, List.map_cons, List.map_nil, hs, hx, hr]
    refine hK _ _ (h _ _ _ ?_ ((Below.refl _ w).drew.alloc (by simp) _))
    intro j u hj
    refine atN_cells (heap_alloc_new w.drew _) j u ?_
    simp only [Array.toList_append, List.toList_toArray, List.nil_append]
    rw [List.getElem?_append_left (List.getElem?_eq_some_iff.1 hj).1]
    exact hj

set_option maxHeartbeats 1600000 in
set_option maxRecDepth 100000 in
theorem xsame_law (N : Nat) (xs : List Int) (a b : Option Addr) (c d : Nat) (hl : xs.length ≤ 100000) (w : World) (hA : AtN N w a (ints xs)) (hB : AtN N w b (ints xs)) (hw : N ≤ w.heap.size) :
    Calls Tryz.prog 11 #[.slice a xs.length c, .slice b xs.length d] w fun e w' => e = .returned (.bool true) ∧ Below w.heap.size w w' := by
  have HA := Lib.hid hA
  have HB0 := Lib.hid hB
  clear hA hB
  go_enter Tryz.func11, Tryz.ntmps11
  go_wp2_with fail
  go_loopw [5] (fun i wr => ∃ j : Nat, j ≤ xs.length ∧ i = .int .i64 j ∧ Hid (Below w.heap.size w wr)) (fun i _ => xs.length - (intOf i).toNat)
  case atStart => exact ⟨0, Nat.zero_le _, rfl, Below.refl _ _⟩
  case round =>
    obtain ⟨j, hj, rfl, HB⟩ := hrel
    by_cases hlt : j < xs.length
    · have hd : decide (j < xs.length) = true := by simpa using hlt
      obtain ⟨e, he⟩ : ∃ e, xs[j]? = some e := ⟨_, List.getElem?_eq_getElem hlt⟩
      obtain ⟨b1, o1, hb1, rfl, k0⟩ := HA.out j _ (ints_get _ _ _ he)
      obtain ⟨b2, o2, hb2, rfl, k1⟩ := HB0.out j _ (ints_get _ _ _ he)
      have K0 := Lib.hid k0
      have K1 := Lib.hid k1
      have h1w : b1 < w.heap.size := by omega
      have h2w : b2 < w.heap.size := by omega
      have hne : (e != e) = false := by simp
      clear he k0 k1 hb1 hb2
      go_wp2_with fail
      refine wp_game [0, 0, 0, 0, 0, 0, 0, 0, 0] [] B0 fin_B0 (has_B0 _) (by kernel_rfl) (by kernel_rfl) ?_
      refine lex_quietE 9 (by kernel_rfl) (by rfl) ?_
      apply Exists.intro
      refine ⟨fun z hz => ?_, ?_⟩
      · have hwz := HB.out.trans (hz.below_of (b := w.heap.size) (by simp) HB.out.size)
        have g0 := below_cellp hwz K0.out h1w
        have g1 := below_cellp hwz K1.out h2w
        clear hz hwz
        simp only [List.take_succ_cons, List.take_zero]
        unfold Cx
        repeat (go_big_quiet_step (fail))
        exact wpQuiet_nil rfl
      simp only [List.drop_succ_cons, List.drop_zero]
      refine lex_nil ?_
      intro x7 hx7 _
      have HB7 := Lib.hid (HB.out.trans (hx7.below_of (b := w.heap.size) (by simp) HB.out.size))
      clear hx7 HB K0 K1
      go_wp2_with fail
      go_roundw
      case rel => exact ⟨j + 1, by omega, by go_num, HB7⟩
      case measure => simp [intOf]; omega
    · obtain rfl : j = xs.length := by omega
      go_wp2_with fail
      go_ret
      exact ⟨rfl, HB.out⟩
end Go.Proofs.YtbacloneddnaeaaGreat

/- censusref40.Ask; BayesAsks: the walk. -/
namespace Go.Proofs.YtbacloneddnaeaaGreat
open Go.RowKit Go.Shelf Num

set_option maxHeartbeats 3200000 in
set_option maxRecDepth 100000 in
theorem xAsk_law (N : Nat) (l : List RV) (vs : List Int) (a va : Option Addr) (c vc : Nat) (hl : Lit l) (hct : checkE (gnet l) = 0 → (allV (ksOf (gnet l))).length ≤ 300) (hvl : vs.length ≤ 100) (w : World) (hN : RefAt N w a l) (hV : AtN N w va (ints vs)) (hw : N ≤ w.heap.size) :
    Calls Tryz.prog 9 #[.slice a l.length c, .slice va vs.length vc] w fun e w' => e = .returned (.tuple #[.string (askX (gnet l) vs).1, .int .i64 (askX (gnet l) vs).2]) ∧ Below w.heap.size w w' := by
  have HL := Lib.hid hl
  have HN := Lib.hid hN
  have HV := Lib.hid hV
  have HW := Lib.hid hw
  have HCT := Lib.hid hct
  have hll := hl.len
  clear hl hN hV hw hct
  go_enter Tryz.func9, Tryz.ntmps9
  go_wp2_with fail
  refine (xcheck_law N l a c HL.out w HN.out HW.out).mono ?_
  rintro r1 w1 ⟨rfl, hB1⟩
  have HB1 := Lib.hid hB1
  clear hB1
  by_cases hc : checkE (gnet l) ≠ 0
  · have HE : Hid (askX (gnet l) vs = ({ data := #[48] }, checkE (gnet l))) := if_pos hc
    obtain ⟨E, hE⟩ : ∃ E, E = checkE (gnet l) := ⟨_, rfl⟩
    have HEE := Lib.hid hE
    rw [← hE] at hc ⊢
    have hc1 : (E == 0) = false := beq_no hc
    have hc2 : (E != 0) = true := by simp [bne, hc1]
    clear hE
    go_wp2_with fail
    refine bodyPost_ret (v := .tuple #[.string { data := #[48] }, .int .i64 E]) (by simp [results, Tryz.results9, go_sem]) rfl ?_
    exact ⟨by rw [HE.out, ← HEE.out], HB1.out⟩
  have hc0 : checkE (gnet l) = 0 := Classical.not_not.1 hc
  have HC0 := Lib.hid hc0
  rw [hc0]
  clear hc hc0
  go_wp2_with fail
  refine (xallowed_law N l vs a va c vc true (by omega) hvl w1 (HN.out.below HB1.out HW.out) (HV.out.below HB1.out HW.out) (Nat.le_trans HW.out HB1.out.size)).mono ?_
  rintro r2 w2 ⟨rfl, hB2⟩
  have HB2 := Lib.hid (HB1.out.trans (hB2.mono HB1.out.size))
  rw [show leastOf true = -1 from rfl]
  clear hB2 HB1
  cases ha : allowedB (gnet l) vs (-1) with
  | false =>
    have HE : Hid (askX (gnet l) vs = ({ data := #[48] }, 1)) := by
      unfold Hid askX
      rw [if_neg (by rw [HC0.out]; simp), if_pos ha]
    clear ha
    go_wp2_with fail
    refine bodyPost_ret (v := .tuple #[.string { data := #[48] }, .int .i64 1]) (by simp [results, Tryz.results9, go_sem]) rfl ?_
    exact ⟨by rw [HE.out], HB2.out⟩
  | true =>
    have HE : Hid (askX (gnet l) vs = (rtext (askV (gnet l) vs (allV (ksOf (gnet l)))), 0)) := by
      unfold Hid askX
      rw [if_neg (by rw [HC0.out]; simp), if_neg (by rw [ha]; simp)]
    have hg := check_ok (lit_in HL.out) HC0.out
    have hal := (allowedP_of (by rw [ha]; simp)).1
    have hgl : (gnet l).length = l.length := by simp [gnet]
    have hev : vs.length = l.length := by rw [hal, hgl]
    obtain ⟨hlow, hsm⟩ := askV_sm hg vs (allV (ksOf (gnet l)))
    have hct := HCT.out HC0.out
    have KT : Gives 24 #[.agg #[.string (dec (askV (gnet l) vs (allV (ksOf (gnet l)))).1), .string (dec (askV (gnet l) vs (allV (ksOf (gnet l)))).2)]] (.string (rtext (askV (gnet l) vs (allV (ksOf (gnet l)))))) := gXText _ (hsm.mono (by omega)) hlow.1
    have HG := Lib.hid hg
    have HEV := Lib.hid hev
    have HCT2 := Lib.hid hct
    clear ha hg hal hgl hev hlow hsm hct
    go_wp2_with fail
    refine (xask_law N l vs a va c vc HL.out HG.out HEV.out HCT2.out w2 (HN.out.below HB2.out HW.out) (HV.out.below HB2.out HW.out) (Nat.le_trans HW.out HB2.out.size)).mono ?_
    rintro r3 w3 ⟨rfl, hB3⟩
    have HB3 := Lib.hid (HB2.out.trans (hB3.mono HB2.out.size))
    clear hB3 HB2
    generalize askV (gnet l) vs (allV (ksOf (gnet l))) = P at *
    go_wp2_with fail
    refine (KT _).mono ?_
    rintro r4 w4 ⟨rfl, hB4⟩
    have HB4 := Lib.hid (HB3.out.trans (hB4.mono HB3.out.size))
    clear hB4 HB3
    go_wp2_with fail
    refine bodyPost_ret (v := .tuple #[.string (rtext P), .int .i64 0]) (by simp [results, Tryz.results9, go_sem]) rfl ?_
    exact ⟨by rw [HE.out], HB4.out⟩

theorem Kn.mk0 {w0 W : World} (h : Below w0.heap.size w0 W) : Kn w0 [] [] [] W := ⟨h, by simp, by simp, by simp⟩

theorem Kn.keepN {w0 : World} {ns : List (Option Addr × List BV)} {bs : List (Nat × Obj)} {ls : List (Option Addr × List Value)} {W : World} {a : Option Addr} {l : List RV} (h : Kn w0 ns bs ls W) (hN : RefAt w0.heap.size w0 a l) : RefAt W.heap.size W a l := (hN.below h.be (Nat.le_refl _)).mono h.be.size

set_option maxHeartbeats 3200000 in
set_option maxRecDepth 100000 in
theorem asks_law (l : List RV) (a : Option Addr) (c : Nat) (vs : List Int) (va : Option Addr) (vc : Nat) (hts : ∀ x ∈ l, x.ts.length ≤ 20000000000000 ∧ x.ps.length ≤ 20000000000000) (hll : l.length ≤ 20000000000000) (hvl : vs.length ≤ 20000000000000) (w : World) (hN : RefAt w.heap.size w a l) (hV : AtN w.heap.size w va (ints vs)) (hM : ∃ m, w.cell? ⟨0, 0, none⟩ = some (.int .i64 m)) :
    Calls Tryz.prog 3 #[.slice a l.length c, .slice va vs.length vc] w fun e w' => e = .returned (.bool true) ∧ Below w.heap.size w w' := by
  obtain ⟨M, hM⟩ := hM
  have HM := Lib.hid hM
  have HN := Lib.hid hN
  have HV := Lib.hid hV
  have HTS := Lib.hid hts
  clear hM hN hV hts
  go_enter Tryz.func3, Tryz.ntmps3
  go_wp2_with fail
  refine (few_law w.heap.size l a c HTS.out hll w HN.out (Nat.le_refl _)).mono ?_
  rintro r1 w1 ⟨b, rfl, hb, hB1⟩
  have K1 := Lib.hid (Kn.mk0 hB1)
  cases b with
  | false =>
    clear hb hB1
    go_wp2_with fail
    refine (works_law w1 ⟨M, below_cell K1.out.be (block_lt_of_cell HM.out) HM.out⟩).mono ?_
    rintro r90 w90 ⟨rfl, hB90⟩
    have K90 := Lib.hid (K1.out.go hB90)
    clear hB90
    go_wp2_with fail
    go_ret
    exact ⟨rfl, K90.out.be⟩
  | true =>
    by_cases h30 : 30 < vs.length
    · clear hb hB1
      go_wp2_with fail
      refine (works_law w1 ⟨M, below_cell K1.out.be (block_lt_of_cell HM.out) HM.out⟩).mono ?_
      rintro r90 w90 ⟨rfl, hB90⟩
      have K90 := Lib.hid (K1.out.go hB90)
      clear hB90
      go_wp2_with fail
      go_ret
      exact ⟨rfl, K90.out.be⟩
    have h30' : vs.length ≤ 30 := by omega
    have HFP := Lib.hid (hb rfl)
    have HL := Lib.hid (few_lit HFP.out)
    obtain ⟨i0, hi, hz0, hz1, hz2⟩ := info_parts Tryz.infoInt
    have K2 := Lib.hid (K1.out.addA (a := va) (xs := ints vs) ((HV.out.below hB1 (Nat.le_refl _)).mono hB1.size))
    clear hb hB1 h30 hvl K1
    go_wp2_with (at_builtin; refine wpList_append_any _ rfl _ _ 23 rfl 3 i0 (.int .i64 0) 8 Tryz.underlying23 hi hz0 hz1 hz2 rfl _ rfl _ _ _ _ (ints vs) rfl ((K2.out.at' (va, ints vs) (by simp)).below (below_one _ _) (Nat.le_refl _)) (by simp [ints]) (by unfold maxLen; omega) (by omega) ?_)
    intro sa sc w3 hsa hB3
    have K3 := Lib.hid ((K2.out.go (Below.trans (below_one w1 _) (hB3.mono (by simp)))).addA hsa)
    clear hsa hB3 K2 hi hz0 hz1 hz2
    go_wp2_with fail
    refine (given_law w3.heap.size l a c HL.out w3 (K3.out.keepN HN.out) (Nat.le_refl _) ⟨M, below_cell K3.out.be (block_lt_of_cell HM.out) HM.out⟩).mono ?_
    rintro r4 w4 ⟨v, cs, rfl, hG, hB4⟩
    obtain ⟨p, n, cp, rfl, hn⟩ : ∃ p n cp, v = .slice p n cp ∧ n = (gnet l).length := by
      obtain ⟨p, cp, h⟩ := hG.row.slice
      exact ⟨p, _, cp, h, rfl⟩
    have K4 := Lib.hid ((K3.out.go hB4).addN hG.net)
    have hnl : n ≤ 20 := by have := HL.out.len; rw [hn]; simpa [gnet] using this
    have HNN := Lib.hid hn
    clear hG hB4 hn K3
    go_wp2_with fail
    rw [HNN.out]
    have HIN := Lib.hid (lit_in HL.out)
    have hsz := few_sz HFP.out
    have HCT := Lib.hid (few_count HFP.out)
    refine (ask_law gBOne w4.heap.size (gnet l) vs p va cp vc HIN.out (by omega) hsz w4 (K4.out.net (p, gnet l) (by simp)) (K4.out.at' (va, ints vs) (by simp)) (Nat.le_refl _)).mono ?_
    rintro r5 w5 ⟨rfl, hB5⟩
    have K5 := Lib.hid (K4.out.go hB5)
    have hsm := ask_small HIN.out hsz vs (-1)
    obtain ⟨hag1, hag2⟩ := ask_agree HIN.out vs
    have HAG1 := Lib.hid hag1
    have HAG2 := Lib.hid hag2
    generalize askE (gnet l) vs (-1) = A at *
    obtain ⟨⟨q1, q2⟩, E⟩ := A
    have KT : Gives 10 #[.agg #[.string (nb q1), .string (nb q2)]] (.string (rtext (q1, q2))) := gRText (q1, q2) hsm
    rw [show ratV ((q1, q2), E).1 = .agg #[.string (nb q1), .string (nb q2)] from rfl, show ((q1, q2), E).2 = E from rfl]
    clear hB5 hsm hag1 hag2 hsz K4
    go_wp2_with fail
    refine calls_gen fun u1 hu => ?_
    have m5 : u1.heap[w5.heap.size]? = some (.cells #[.string (nb q1), .string (nb q2)] 29 (0, 0)) := by rw [hu]; exact new_one _ _
    have K6 := Lib.hid ((K5.out.go (by rw [hu]; exact below_one _ _ : Below w5.heap.size w5 u1)).addB m5)
    clear hu m5 K5
    refine (xAsk_law u1.heap.size l vs a va c vc HL.out HCT.out (by omega) u1 (K6.out.keepN HN.out) (K6.out.at' (va, ints vs) (by simp)) (Nat.le_refl _)).mono ?_
    rintro r6 w6 ⟨rfl, hB6⟩
    have K7 := Lib.hid (K6.out.go hB6)
    have m54 := K7.out.bl (w5.heap.size, .cells #[.string (nb q1), .string (nb q2)] 29 (0, 0)) (by simp)
    have c50 := blk_cell m54 0 rfl
    have c51 := blk_cell m54 1 rfl
    rw [← HAG1.out, ← HAG2.out]
    generalize rtext (q1, q2) = T at *
    clear hB6 m54 K6
    go_wp2_with fail
    refine (KT _).mono ?_
    rintro r7 w7 ⟨rfl, hB7⟩
    have K8 := Lib.hid (K7.out.go hB7)
    clear hB7 c50 c51 K7
    go_wp2_with fail
    refine (xsame_law w7.heap.size vs sa va sc vc (by omega) w7 (K8.out.at' (sa, ints vs) (by simp)) (K8.out.at' (va, ints vs) (by simp)) (Nat.le_refl _)).mono ?_
    rintro r8 w8 ⟨rfl, hB8⟩
    have K9 := Lib.hid (K8.out.go hB8)
    clear hB8 K8
    go_wp2_with fail
    refine (works_law w8 ⟨M, below_cell K9.out.be (block_lt_of_cell HM.out) HM.out⟩).mono ?_
    rintro r90 w90 ⟨rfl, hB90⟩
    have K90 := Lib.hid (K9.out.go hB90)
    clear hB90
    go_wp2_with fail
    go_ret
    exact ⟨rfl, K90.out.be⟩
end Go.Proofs.YtbacloneddnaeaaGreat
