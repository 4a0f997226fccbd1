/- Texts of this claim, joined: JO, JP, JQ, JR. -/
import Derived.Test.YtmaiofimmjedjaaDoorMW14
import Derived.Test.YtmaiofimmjedjaaDoorMW03

/- The reader: what is read while a token is open, all cases in one. -/
namespace Go.Proofs.YtmaiofimmjedjaaDoor
open Go.RowKit

structure Gu (c : Cf) (U : List Nat) (w : World) (v : Value) (w' : World) (v' : Value) : Prop where
  be : Behind w (c.br :: (U ++ rowBlk v)) w'
  new : ∀ g ∈ rowBlk v', g ∈ rowBlk v ∨ w.heap.size ≤ g
theorem Gw.wide {c : Cf} {U : List Nat} {w w' : World} {v v' : Value} (h : Gw c w v w' v') : Gu c U w v w' v' := ⟨h.be.mono (fun g hg => by
  rcases List.mem_cons.1 hg with rfl | hg
  · simp
  · simp [hg]), h.new⟩
theorem Gu.trans {c : Cf} {U : List Nat} {w w1 w2 : World} {v v1 v2 : Value} (h : Gu c U w v w1 v1) (k : Gu c U w1 v1 w2 v2) : Gu c U w v w2 v2 := by
  refine ⟨h.be.trans k.be (fun b hb => ?_), fun g hg => ?_⟩
  · rcases List.mem_cons.1 hb with rfl | hb
    · exact .inl (by simp)
    · rcases List.mem_append.1 hb with hb | hb
      · exact .inl (by simp [hb])
      · exact (h.new b hb).imp (fun e => by simp [e]) id
  · rcases k.new g hg with h1 | h1
    · exact h.new g h1
    · exact .inr (Nat.le_trans h.be.size h1)
theorem Gu.of {c : Cf} {U : List Nat} {w w' : World} {v : Value} (h : Behind w U w') : Gu c U w v w' v := ⟨h.mono (fun k hk => by simp [hk]), fun g hg => .inl hg⟩
theorem St.wrote {c : Cf} (hc : c.Ok) {E U : List Nat} {w w' : World} {nx o : Nat} {v : Value} {gs : List Gt} (h : St c E w nx o v gs) (hB : Behind w U w') (hU : ∀ g ∈ U, g ∈ E ∧ c.w0.heap.size ≤ g) : St c E w' nx o v gs :=
  ⟨hB.keep h.rd (fun hm => (h.ex c.br (hU _ hm).1).2 (by simp)), h.gr.keep hB (fun g hg => ⟨fun hm => (h.ex g (hU g hg).1).2 (by simp [hm]), .inr (.inr (hU g hg).1)⟩) (fun g hg => .inl hg), fun g hg => ⟨Nat.lt_of_lt_of_le (h.ex g hg).1 hB.size, (h.ex g hg).2⟩, h.pl, h.be.trans (hB.below_of (fun k hk => (hU k hk).2) h.be.size), h.cnt⟩
def OkIn (c : Cf) (E : List Nat) (w : World) (v : Value) (U : List Nat) (F : List Int → Value → World → Prop) (o : Nat) (r : PR) (e : Ending) (w' : World) : Prop := match r with
  | .ok lst ts gs => ∃ nx v', e = .returned (.tuple #[]) ∧ ts = TS c.l nx ∧ St c E w' nx o v' gs ∧ Gu c U w v w' v' ∧ F lst v' w'
  | .err q en => e = wrongE (posI c.l q) en ∧ Behind w (c.br :: (U ++ rowBlk v)) w'
theorem OkIn.err_after {c : Cf} {E U : List Nat} {F : List Int → Value → World → Prop} {w w1 w2 : World} {v v1 : Value} {o q : Nat} {en : Int} (hg : Gu c U w v w1 v1) (h : Behind w1 (c.br :: (U ++ rowBlk v1)) w2) : OkIn c E w v U F o (.err q en) (wrongE (posI c.l q) en) w2 := ⟨rfl, (hg.trans (v2 := v1) ⟨h, fun g hg => .inl hg⟩).be⟩
theorem open_TS {l : List UInt8} {p o : Nat} {sg : List UInt8} {f : List Tk → PR} : openI sg (TS l p) o f = match tokI (l.drop (nxtI l p)) with | none => .err (TS l p).length 5 | some t => if t = sg then (if 200 ≤ o then .err (TS l p).length 2 else f (TS l p).tail) else .err (TS l p).length 5 := by
  unfold openI needI
  rw [next_TS]
  cases tokI (l.drop (nxtI l p)) <;> rfl
theorem need_TS {l : List UInt8} {p : Nat} {sg : List UInt8} {f : List Tk → PR} : needI sg (TS l p) f = match tokI (l.drop (nxtI l p)) with | none => .err (TS l p).length 5 | some t => if t = sg then f (TS l p).tail else .err (TS l p).length 5 := by
  unfold needI
  rw [next_TS]
  cases tokI (l.drop (nxtI l p)) <;> rfl

theorem insideN (c : Cf) (hc : c.Ok) (E : List Nat) (nx o : Nat) (v : Value) (gs : List Gt) (w : World) (h : St c E w nx o v gs) (sg : List UInt8) (lb : Array Value) (hsg : sg ≠ []) (U : List Nat) (F : List Int → Value → World → Prop) (hF : ∀ lst v' x x', Behind x [c.br] x' → F lst v' x → F lst v' x') (f : List Tk → PR)
    (hread : ∀ w1, o < 200 → Behind w [c.br] w1 → tokI (c.l.drop (nxtI c.l nx)) = some sg → St c E w1 (nxtI c.l nx + sg.length) (o + 1) v gs → Calls Tryd.prog 86 lb w1 (OkIn c E w1 v U F (o + 1) (f (TS c.l (nxtI c.l nx + sg.length))))) :
    Calls Tryd.prog 75 #[.pointer (some ⟨c.br, 0, none⟩), .string ⟨sg.toArray⟩, .func (.func 86) #[] lb] w (OkIn c E w v U F o (openI sg (TS c.l nx) o f)) := by
  rw [open_TS]
  have hno : tokI (c.l.drop (nxtI c.l nx)) ≠ some sg → Calls Tryd.prog 75 #[.pointer (some ⟨c.br, 0, none⟩), .string ⟨sg.toArray⟩, .func (.func 86) #[] lb] w (OkIn c E w v U F o (.err (TS c.l nx).length 5)) := fun hn => by
    refine (gInsideN_no c hc E nx o v gs w h sg lb hn).mono ?_
    rintro e w' ⟨rfl, hB⟩
    exact ⟨by rw [h.pl.pos], (behind_of_below hB).mono (by simp)⟩
  cases ht : tokI (c.l.drop (nxtI c.l nx)) with
  | none => exact hno (by rw [ht]; simp)
  | some t =>
    simp only []
    by_cases e : t = sg
    · subst e
      rw [if_pos rfl]
      by_cases ho : 200 ≤ o
      · rw [if_pos ho]
        refine (gInsideN_long c hc E nx o v gs w h t lb hsg ht ho).mono ?_
        rintro e w' ⟨rfl, hB⟩
        exact ⟨by rw [h.pl.pos], hB.mono (by simp)⟩
      · rw [if_neg ho, TS_tail ht hsg]
        have K := gInsideN_ok c hc E nx o v gs w h t lb hsg ht (by omega)
          (fun w1 nx2 v2 gs2 w2 => ∃ lst, f (TS c.l (nxtI c.l nx + t.length)) = .ok lst (TS c.l nx2) gs2 ∧ St c E w2 nx2 (o + 1) v2 gs2 ∧ Gu c U w1 v w2 v2 ∧ F lst v2 w2)
          (fun w1 ps w2 => ∃ q en, f (TS c.l (nxtI c.l nx + t.length)) = .err q en ∧ Ending.panicked ps = wrongE (posI c.l q) en ∧ Behind w1 (c.br :: (U ++ rowBlk v)) w2)
          (fun w1 hB1 hS1 => by
            refine (hread w1 (by omega) hB1 ht hS1).mono ?_
            intro e w2 h2
            generalize hr : f (TS c.l (nxtI c.l nx + t.length)) = r at h2 ⊢
            cases r with
            | err q en =>
              obtain ⟨rfl, h2⟩ := h2
              exact .inr ⟨_, rfl, q, en, rfl, rfl, h2⟩
            | ok lst ts gs2 =>
              obtain ⟨nx2, v2, rfl, rfl, h3, h4, h5⟩ := h2
              exact .inl ⟨nx2, v2, gs2, rfl, h3.rd, lst, rfl, h3, h4, h5⟩)
        refine K.mono ?_
        rintro e w' ⟨w1, hB1, hS1, ⟨nx2, v2, gs2, w2, rfl, hR2, ⟨lst, e2, hS2, hG2, hF2⟩, rfl⟩ | ⟨ps, rfl, q, en, e2, e3, hB2⟩⟩
        · rw [e2]
          have hbs : Behind w2 [c.br] (w2.setCell ⟨c.br, 3, none⟩ (.int .i64 (o : Nat))) := behind_set1
          have hR3 : Rd c.br c.l c.n nx2 o v2 (w2.setCell ⟨c.br, 3, none⟩ (.int .i64 (o : Nat))) := heap_setCell_same _ c.br 3 _ _ _ hS2.rd
          have hG0 : Gu c U w v w1 v := (Gw.of_br hB1).wide
          exact ⟨nx2, v2, rfl, rfl, hS2.move hc hR3 hbs hS2.pl (Nat.le_refl _), (hG0.trans hG2).trans (Gw.of_br hbs).wide, hF _ _ _ _ hbs hF2⟩
        · rw [e2, e3]
          have hG0 : Gu c U w v w1 v := (Gw.of_br hB1).wide
          exact OkIn.err_after hG0 hB2
    · rw [if_neg e]
      exact hno (by rw [ht]; intro h; exact e (by simpa using h))

theorem insideL (c : Cf) (hc : c.Ok) (E : List Nat) (nx o : Nat) (v : Value) (gs : List Gt) (w : World) (h : St c E w nx o v gs) (sg : List UInt8) (lb : Array Value) (hsg : sg ≠ []) (U : List Nat) (F : List Int → Value → World → Prop) (hF : ∀ lst v' x x', Behind x [c.br] x' → F lst v' x → F lst v' x') (f : List Tk → PR)
    (hread : ∀ w1, o < 200 → Behind w [c.br] w1 → tokI (c.l.drop (nxtI c.l nx)) = some sg → St c E w1 (nxtI c.l nx + sg.length) (o + 1) v gs → Calls Tryd.prog 87 lb w1 (OkIn c E w1 v U F (o + 1) (f (TS c.l (nxtI c.l nx + sg.length))))) :
    Calls Tryd.prog 75 #[.pointer (some ⟨c.br, 0, none⟩), .string ⟨sg.toArray⟩, .func (.func 87) #[] lb] w (OkIn c E w v U F o (openI sg (TS c.l nx) o f)) := by
  rw [open_TS]
  have hno : tokI (c.l.drop (nxtI c.l nx)) ≠ some sg → Calls Tryd.prog 75 #[.pointer (some ⟨c.br, 0, none⟩), .string ⟨sg.toArray⟩, .func (.func 87) #[] lb] w (OkIn c E w v U F o (.err (TS c.l nx).length 5)) := fun hn => by
    refine (gInsideL_no c hc E nx o v gs w h sg lb hn).mono ?_
    rintro e w' ⟨rfl, hB⟩
    exact ⟨by rw [h.pl.pos], (behind_of_below hB).mono (by simp)⟩
  cases ht : tokI (c.l.drop (nxtI c.l nx)) with
  | none => exact hno (by rw [ht]; simp)
  | some t =>
    simp only []
    by_cases e : t = sg
    · subst e
      rw [if_pos rfl]
      by_cases ho : 200 ≤ o
      · rw [if_pos ho]
        refine (gInsideL_long c hc E nx o v gs w h t lb hsg ht ho).mono ?_
        rintro e w' ⟨rfl, hB⟩
        exact ⟨by rw [h.pl.pos], hB.mono (by simp)⟩
      · rw [if_neg ho, TS_tail ht hsg]
        have K := gInsideL_ok c hc E nx o v gs w h t lb hsg ht (by omega)
          (fun w1 nx2 v2 gs2 w2 => ∃ lst, f (TS c.l (nxtI c.l nx + t.length)) = .ok lst (TS c.l nx2) gs2 ∧ St c E w2 nx2 (o + 1) v2 gs2 ∧ Gu c U w1 v w2 v2 ∧ F lst v2 w2)
          (fun w1 ps w2 => ∃ q en, f (TS c.l (nxtI c.l nx + t.length)) = .err q en ∧ Ending.panicked ps = wrongE (posI c.l q) en ∧ Behind w1 (c.br :: (U ++ rowBlk v)) w2)
          (fun w1 hB1 hS1 => by
            refine (hread w1 (by omega) hB1 ht hS1).mono ?_
            intro e w2 h2
            generalize hr : f (TS c.l (nxtI c.l nx + t.length)) = r at h2 ⊢
            cases r with
            | err q en =>
              obtain ⟨rfl, h2⟩ := h2
              exact .inr ⟨_, rfl, q, en, rfl, rfl, h2⟩
            | ok lst ts gs2 =>
              obtain ⟨nx2, v2, rfl, rfl, h3, h4, h5⟩ := h2
              exact .inl ⟨nx2, v2, gs2, rfl, h3.rd, lst, rfl, h3, h4, h5⟩)
        refine K.mono ?_
        rintro e w' ⟨w1, hB1, hS1, ⟨nx2, v2, gs2, w2, rfl, hR2, ⟨lst, e2, hS2, hG2, hF2⟩, rfl⟩ | ⟨ps, rfl, q, en, e2, e3, hB2⟩⟩
        · rw [e2]
          have hbs : Behind w2 [c.br] (w2.setCell ⟨c.br, 3, none⟩ (.int .i64 (o : Nat))) := behind_set1
          have hR3 : Rd c.br c.l c.n nx2 o v2 (w2.setCell ⟨c.br, 3, none⟩ (.int .i64 (o : Nat))) := heap_setCell_same _ c.br 3 _ _ _ hS2.rd
          have hG0 : Gu c U w v w1 v := (Gw.of_br hB1).wide
          exact ⟨nx2, v2, rfl, rfl, hS2.move hc hR3 hbs hS2.pl (Nat.le_refl _), (hG0.trans hG2).trans (Gw.of_br hbs).wide, hF _ _ _ _ hbs hF2⟩
        · rw [e2, e3]
          have hG0 : Gu c U w v w1 v := (Gw.of_br hB1).wide
          exact OkIn.err_after hG0 hB2
    · rw [if_neg e]
      exact hno (by rw [ht]; intro h; exact e (by simpa using h))

theorem insideA (c : Cf) (hc : c.Ok) (E : List Nat) (nx o : Nat) (v : Value) (gs : List Gt) (w : World) (h : St c E w nx o v gs) (sg : List UInt8) (lb : Array Value) (hsg : sg ≠ []) (U : List Nat) (F : List Int → Value → World → Prop) (hF : ∀ lst v' x x', Behind x [c.br] x' → F lst v' x → F lst v' x') (f : List Tk → PR)
    (hread : ∀ w1, o < 200 → Behind w [c.br] w1 → tokI (c.l.drop (nxtI c.l nx)) = some sg → St c E w1 (nxtI c.l nx + sg.length) (o + 1) v gs → Calls Tryd.prog 76 lb w1 (OkIn c E w1 v U F (o + 1) (f (TS c.l (nxtI c.l nx + sg.length))))) :
    Calls Tryd.prog 75 #[.pointer (some ⟨c.br, 0, none⟩), .string ⟨sg.toArray⟩, .func (.func 76) #[] lb] w (OkIn c E w v U F o (openI sg (TS c.l nx) o f)) := by
  rw [open_TS]
  have hno : tokI (c.l.drop (nxtI c.l nx)) ≠ some sg → Calls Tryd.prog 75 #[.pointer (some ⟨c.br, 0, none⟩), .string ⟨sg.toArray⟩, .func (.func 76) #[] lb] w (OkIn c E w v U F o (.err (TS c.l nx).length 5)) := fun hn => by
    refine (gInsideA_no c hc E nx o v gs w h sg lb hn).mono ?_
    rintro e w' ⟨rfl, hB⟩
    exact ⟨by rw [h.pl.pos], (behind_of_below hB).mono (by simp)⟩
  cases ht : tokI (c.l.drop (nxtI c.l nx)) with
  | none => exact hno (by rw [ht]; simp)
  | some t =>
    simp only []
    by_cases e : t = sg
    · subst e
      rw [if_pos rfl]
      by_cases ho : 200 ≤ o
      · rw [if_pos ho]
        refine (gInsideA_long c hc E nx o v gs w h t lb hsg ht ho).mono ?_
        rintro e w' ⟨rfl, hB⟩
        exact ⟨by rw [h.pl.pos], hB.mono (by simp)⟩
      · rw [if_neg ho, TS_tail ht hsg]
        have K := gInsideA_ok c hc E nx o v gs w h t lb hsg ht (by omega)
          (fun w1 nx2 v2 gs2 w2 => ∃ lst, f (TS c.l (nxtI c.l nx + t.length)) = .ok lst (TS c.l nx2) gs2 ∧ St c E w2 nx2 (o + 1) v2 gs2 ∧ Gu c U w1 v w2 v2 ∧ F lst v2 w2)
          (fun w1 ps w2 => ∃ q en, f (TS c.l (nxtI c.l nx + t.length)) = .err q en ∧ Ending.panicked ps = wrongE (posI c.l q) en ∧ Behind w1 (c.br :: (U ++ rowBlk v)) w2)
          (fun w1 hB1 hS1 => by
            refine (hread w1 (by omega) hB1 ht hS1).mono ?_
            intro e w2 h2
            generalize hr : f (TS c.l (nxtI c.l nx + t.length)) = r at h2 ⊢
            cases r with
            | err q en =>
              obtain ⟨rfl, h2⟩ := h2
              exact .inr ⟨_, rfl, q, en, rfl, rfl, h2⟩
            | ok lst ts gs2 =>
              obtain ⟨nx2, v2, rfl, rfl, h3, h4, h5⟩ := h2
              exact .inl ⟨nx2, v2, gs2, rfl, h3.rd, lst, rfl, h3, h4, h5⟩)
        refine K.mono ?_
        rintro e w' ⟨w1, hB1, hS1, ⟨nx2, v2, gs2, w2, rfl, hR2, ⟨lst, e2, hS2, hG2, hF2⟩, rfl⟩ | ⟨ps, rfl, q, en, e2, e3, hB2⟩⟩
        · rw [e2]
          have hbs : Behind w2 [c.br] (w2.setCell ⟨c.br, 3, none⟩ (.int .i64 (o : Nat))) := behind_set1
          have hR3 : Rd c.br c.l c.n nx2 o v2 (w2.setCell ⟨c.br, 3, none⟩ (.int .i64 (o : Nat))) := heap_setCell_same _ c.br 3 _ _ _ hS2.rd
          have hG0 : Gu c U w v w1 v := (Gw.of_br hB1).wide
          exact ⟨nx2, v2, rfl, rfl, hS2.move hc hR3 hbs hS2.pl (Nat.le_refl _), (hG0.trans hG2).trans (Gw.of_br hbs).wide, hF _ _ _ _ hbs hF2⟩
        · rw [e2, e3]
          have hG0 : Gu c U w v w1 v := (Gw.of_br hB1).wide
          exact OkIn.err_after hG0 hB2
    · rw [if_neg e]
      exact hno (by rw [ht]; intro h; exact e (by simpa using h))
end Go.Proofs.YtmaiofimmjedjaaDoor

/- The reader: what follows a sign of negation. -/
namespace Go.Proofs.YtmaiofimmjedjaaDoor
open Go.RowKit

def F1 (cb : Nat) (lst : List Int) (_ : Value) (w : World) : Prop := ∃ k, lst = [k] ∧ w.heap[cb]? = some (.cells #[.int .i64 k] 3 (0, 0))
def negR (c : Cf) (o : Nat) (gs : List Gt) (ts : List Tk) : PR := nextI ts fun w => if varI c.n w ≠ 0 then .ok [(gs.length : Nat)] ts.tail (gs ++ [⟨2, -(varI c.n w : Int), []⟩]) else (RI c.n .atom ts o gs).bind fun l ts gs => .ok [(gs.length : Nat)] ts (gs ++ [⟨3, 0, l⟩])
theorem F1.put {c : Cf} (hc : c.Ok) {E : List Nat} {w w1 : World} {v v1 : Value} {cb nx o : Nat} {gs : List Gt} {x : Value} (k : Int) (hS : St c E w1 nx o v1 gs) (hG : Gw c w v w1 v1) (hcb : cb ∈ E) (hcw : c.w0.heap.size ≤ cb) (hx : w1.heap[cb]? = some (.cells #[x] 3 (0, 0))) : OkIn c E w v [cb] (F1 cb) o (.ok [k] (TS c.l nx) gs) (.returned (.tuple #[])) (w1.setCell ⟨cb, 0, none⟩ (.int .i64 k)) := by
  have hb : Behind w1 [cb] (w1.setCell ⟨cb, 0, none⟩ (.int .i64 k)) := behind_set1
  exact ⟨nx, v1, rfl, rfl, hS.wrote hc hb (fun g hg => by simp at hg; subst hg; exact ⟨hcb, hcw⟩), hG.wide.trans (Gu.of hb), k, rfl, heap_setCell_same _ cb 0 _ _ _ hx⟩

set_option maxHeartbeats 6400000 in
set_option maxRecDepth 100000 in
theorem neg1 (c : Cf) (hc : c.Ok) (E : List Nat) (kb cb nx o : Nat) (v : Value) (gs : List Gt) (w : World) (hS : St c E w nx o v gs) (ho : o ≤ 200) (hk : kb ∈ E) (hcb : cb ∈ E) (hne : kb ≠ cb) (hcw : c.w0.heap.size ≤ cb) (HK : w.heap[kb]? = some (.cells #[.pointer (some ⟨c.br, 0, none⟩)] 55 (0, 0))) (HCB : w.heap[cb]? = some (.cells #[.int .i64 0] 3 (0, 0))) (hA : Con c .atom (TS c.l nx)) :
    Calls Tryd.prog 86 #[.pointer (some ⟨kb, 0, none⟩), .pointer (some ⟨cb, 0, none⟩)] w (OkIn c E w v [cb] (F1 cb) o (negR c o gs (TS c.l nx))) := by
  obtain ⟨Post, hPost⟩ : ∃ P : Ending → World → Prop, P = OkIn c E w v [cb] (F1 cb) o (negR c o gs (TS c.l nx)) := ⟨_, rfl⟩
  rw [← hPost]
  unfold negR at hPost
  rw [next_TS] at hPost
  have hp := hS.pl.le
  have hl := hc.l
  have HC0 := Lib.hid (blk_cell hS.rd 0 rfl)
  have HC2 := Lib.hid (blk_cell hS.rd 2 rfl)
  have HK0 := Lib.hid (blk_cell HK 0 rfl)
  have HKW := Lib.hid HK
  have HCW := Lib.hid HCB
  have HS := Lib.hid hS
  have HA := Lib.hid hA
  have hkn : kb ∉ c.br :: rowBlk v := (hS.ex kb hk).2
  have hcn : cb ∉ c.br :: rowBlk v := (hS.ex cb hcb).2
  clear HK HCB hA
  cases h2 : tokI (c.l.drop (nxtI c.l nx)) with
  | none =>
    rw [h2] at hPost
    have HP := Lib.hid hPost
    have KT := Lib.hid (fun x => tok_dies hp hl h2 x)
    generalize (⟨c.l.toArray⟩ : ByteArray) = s at *
    clear h2 hPost hS
    go_enter Tryd.func86, Tryd.ntmps86
    go_wp2_with fail
    refine wp_dies (List.replicate 14 0) 8 (by kernel_rfl) (by kernel_rfl) ?_
    simp only [List.take_succ_cons, List.take_zero]
    refine lex_quietE 8 (by kernel_rfl) (by rfl) ?_
    apply Exists.intro
    refine ⟨fun z hz => ?_, ?_⟩
    · have g0 := behind_cellXp hz HC0.out (by simp)
      have g2 := behind_cellXp hz HC2.out (by simp)
      have gk := behind_cellXp hz HK0.out (by simp)
      clear hz
      simp only [List.take_succ_cons, List.take_zero]
      unfold Cx
      repeat (go_big_quiet_step (fail))
      exact wpQuiet_nil rfl
    simp only [List.drop_succ_cons, List.drop_zero]
    refine lex_nil ?_
    refine ⟨_, by rfl, by rfl, fun x hx => ⟨_, _, by go_simp, (KT.out x).mono ?_⟩⟩
    rintro e w2 ⟨rfl, hB⟩
    have HB := Lib.hid (hx.below.trans (hB.mono hx.size))
    refine ⟨_, rfl, fun a2 ha2 => ?_⟩
    refine ⟨ha2, ?_⟩
    rw [HP.out]
    exact ⟨by rw [HS.out.pl.pos]; rfl, (behind_of_below HB.out).mono (by simp)⟩
  | some t =>
    rw [h2] at hPost
    simp only [] at hPost
    have hqb : nxtI c.l nx ≤ 1048576 := Nat.le_trans (nxt_le hp) hl
    have htb := tok_le h2
    rw [List.length_drop] at htb
    have KV := Lib.hid (fun (x : World) (hx : Below w.heap.size w x) => gVariable t c.n hc.n (by omega) x ((HS.out.vars hc).below hx))
    have hvb := varI_le c.n t
    have hn := hc.n
    have HH2 := Lib.hid h2
    have HC1 := Lib.hid (blk_cell hS.rd 1 rfl)
    have KT := Lib.hid (fun x => tok_gives hp hl h2 x)
    obtain ⟨t1, ht1⟩ : ∃ t1 : ByteArray, t1 = ⟨t.toArray⟩ := ⟨_, rfl⟩
    have hz1 : t1.size = t.length := by rw [ht1]; exact ba_size t
    rw [← ht1] at KT KV
    have HT1 := Lib.hid ht1
    obtain ⟨s, hs⟩ : ∃ s : ByteArray, s = ⟨c.l.toArray⟩ := ⟨_, rfl⟩
    rw [← hs] at KT HC0
    obtain ⟨q, hq⟩ : ∃ q, q = nxtI c.l nx := ⟨_, rfl⟩
    rw [← hq] at KT
    have HQ := Lib.hid hq
    have KG := Lib.hid (show ∀ z, GivesFrom z 24 #[.string s, .int .i64 (nx : Int)] (.tuple #[.string t1, .int .i64 (q : Nat)]) from fun z w' hb => KT.out w')
    have HV0 := Lib.hid (fun (h : varI c.n t ≠ 0) => (show t ≠ [] from fun e => h (by rw [e]; exact varI_nil c.n)))
    obtain ⟨vi, hvi⟩ : ∃ vi, vi = varI c.n t := ⟨_, rfl⟩
    rw [← hvi] at KV hPost HV0 hvb
    have HP := Lib.hid hPost
    have hz2 : t1.size ≤ 1048576 := by omega
    have hq2 : q ≤ 1048576 := by rw [hq]; exact hqb
    clear h2 hs hq hPost hvi ht1 hqb htb hS KT
    go_enter Tryd.func86, Tryd.ntmps86
    go_wp2_with fail
    refine wp_game (List.replicate 14 0) [] B0 fin_B0 (has_B0 _) (by kernel_rfl) (by kernel_rfl) ?_
    refine lex_quietE 14 (by kernel_rfl) (by rfl) ?_
    apply Exists.intro
    refine ⟨fun z hz => ?_, ?_⟩
    · have g0 := behind_cellXp hz HC0.out (by simp)
      have g2 := behind_cellXp hz HC2.out (by simp)
      have gk := behind_cellXp hz HK0.out (by simp)
      have KTz := KG.out z
      clear hz
      simp only [List.take_succ_cons, List.take_zero]
      unfold Cx
      repeat (go_big_quiet_step (with_reducible exact KTz.at _))
      exact wpQuiet_nil rfl
    simp only [List.drop_succ_cons, List.drop_zero]
    refine lex_nil ?_
    intro x2 hx2 _
    have HX := Lib.hid hx2.below
    have HX2 := Lib.hid hx2
    have KV2 := KV.out x2 HX.out
    have gk := behind_cellX hx2 HK0.out (by simp)
    have g1 := behind_cellX hx2 HC1.out (by simp)
    clear hx2
    go_wp2_with fail
    refine KV2.mono ?_
    rintro e w3 ⟨rfl, hB3⟩
    have HB3 := Lib.hid (HX.out.trans (hB3.mono HX.out.size))
    have HS3 := Lib.hid (HS.out.later hc HB3.out)
    have HK3 := Lib.hid ((behind_of_below HB3.out).keep HKW.out (by simp))
    have gk3 := blk_cell HK3.out 0 rfl
    clear hB3 KV2 gk g1
    by_cases hv0 : vi = 0
    · subst hv0
      have hd : decide ((0 : Int) < ((0 : Nat) : Int)) = false := by decide
      have HF := Lib.hid (show Post = OkIn c E w v [cb] (F1 cb) o ((RI c.n .atom (TS c.l nx) o gs).bind fun l ts gs => .ok [(gs.length : Nat)] ts (gs ++ [⟨3, 0, l⟩])) by rw [HP.out]; rfl)
      have KA : Calls Tryd.prog 68 #[.pointer (some ⟨c.br, 0, none⟩)] w3 (OkP c E w3 v o (RI c.n .atom (TS c.l nx) o gs)) := HA.out E nx o v gs w3 rfl HS3.out ho
      clear HP
      have HKA := Lib.hid KA
      have hkbr : ¬ kb = c.br := fun e => hkn (by simp [e])
      clear KA
      go_wp2_with fail
      refine wp_seq 2 (fun y => y.heap[kb]? = some (.cells #[.pointer (some ⟨c.br, 0, none⟩)] 55 (0, 0))) (by kernel_rfl) (by kernel_rfl) (fun c d v a w h => by cases d <;> exact h) ?_
      intro x4 hx4
      have HX4 := Lib.hid hx4.below
      have HS4 := Lib.hid (HS3.out.later hc HX4.out)
      have HK4 := Lib.hid (hx4.keep HK3.out (by simp))
      have HB4 := Lib.hid (HB3.out.trans (HX4.out.mono HB3.out.size))
      clear hx4
      simp only [List.take_succ_cons, List.take_zero, List.drop_succ_cons, List.drop_zero]
      refine ⟨.pointer (some ⟨c.br, 0, none⟩), ⟨by rfl, fun y hy => by have := blk_cell hy 0 rfl; clear hy; go_simp⟩, ?_⟩
      refine ⟨.pointer (some ⟨c.br, 0, none⟩), ⟨by rfl, fun y hy => by have := blk_cell hy 0 rfl; clear hy; go_simp⟩, ?_⟩
      show SeqW Tryd.prog _ _ _ _ _ _ _
      refine SeqW.step (by rfl) HK4.out ?_
      have KA4 : Calls Tryd.prog 68 #[.pointer (some ⟨c.br, 0, none⟩)] x4 (OkP c E x4 v o (RI c.n .atom (TS c.l nx) o gs)) := HA.out E nx o v gs x4 rfl HS4.out ho
      have HLEN := Lib.hid (fun a b d (h : RI c.n .atom (TS c.l nx) o gs = .ok a b d) => ok_less h rfl)
      have HGS := Lib.hid (fun a b d (h : RI c.n .atom (TS c.l nx) o gs = .ok a b d) => (RI_gs (by trivial) h).1)
      obtain ⟨R1, hR1⟩ : ∃ R1, R1 = RI c.n .atom (TS c.l nx) o gs := ⟨_, rfl⟩
      rw [← hR1] at KA4 HF HLEN HGS
      clear hR1 HKA gk3
      go_wp2_with fail
      refine KA4.mono ?_
      intro e w5 h5
      cases R1 with
      | err q5 en =>
        obtain ⟨rfl, h5⟩ := h5
        refine ⟨rfl, ?_⟩
        rw [HF.out]
        exact OkIn.err_after (v1 := v) (Gw.of_below HB4.out).wide (h5.mono (fun g hg => (List.mem_cons.1 hg).elim (fun e => by simp [e]) (fun e => by simp [e])))
      | ok lst ts5 gs5 =>
        obtain ⟨k5, nx5, v5, rfl, rfl, rfl, hS5, hG5⟩ := h5
        have hgs5 := HGS.out _ _ _ rfl
        simp [loopM, moreM] at hgs5
        have hcnt := HS.out.cnt
        have hkn5 : kb ∉ c.br :: rowBlk v5 := (hS5.ex kb hk).2
        have HS5 := Lib.hid hS5
        have HG5 := Lib.hid ((Gw.of_below (c := c) (v := v) HB4.out).trans hG5)
        have HK5 := Lib.hid (hG5.be.keep HK4.out hkn)
        have HFP := Lib.hid (show Post = OkIn c E w v [cb] (F1 cb) o (.ok [(gs5.length : Nat)] (TS c.l nx5) (gs5 ++ [⟨3, 0, [k5]⟩])) from HF.out)
        have hBA := below_one w5 (.cells #[.int .i64 k5] 3 (0, 0))
        have hI : InsAt (w5.alloc (.cells #[.int .i64 k5] 3 (0, 0))) (c.br :: (rowBlk v5 ++ E)) (some ⟨w5.heap.size, 0, none⟩) [k5] := ints_new [k5] hS5.X
        have KA5 := kAdd c hc ⟨3, 0, [k5]⟩ (some ⟨w5.heap.size, 0, none⟩) 1 (hS5.later hc hBA) hI (by omega)
        simp only [List.length_cons, List.length_nil] at KA5
        have HG6 := Lib.hid (HG5.out.trans (Gw.of_below (v := v5) hBA))
        have HK6 := Lib.hid ((behind_of_below hBA).keep HK5.out (by simp))
        clear hS5 hG5 KA4 HLEN HGS HF hBA hI
        go_wp2_with fail
        show SeqW Tryd.prog _ _ _ _ _ _ _
        refine SeqW.step (by rfl) HK5.out ?_
        go_wp2_with fail
        show SeqW Tryd.prog _ _ _ _ _ _ _
        refine SeqW.step (by rfl) HK6.out ?_
        go_wp2_with fail
        refine KA5.mono ?_
        rintro e w7 ⟨v7, rfl, hS7, hG7⟩
        have HS7 := Lib.hid hS7
        have HK7 := Lib.hid (hG7.be.keep HK6.out hkn5)
        have HG7 := Lib.hid (HG6.out.trans hG7)
        have HC7 := Lib.hid (HG7.out.be.keep HCW.out hcn)
        have c7 := blk_cell HC7.out 0 rfl
        have f7 := blk_free HC7.out 0
        clear hS7 hG7 KA5
        go_wp2_with fail
        show SeqW Tryd.prog _ _ _ _ _ _ _
        refine SeqW.step (by rfl) HK7.out ?_
        go_wp2_with fail
        go_wp2_with fail
        first | go_ret | go_ret2 | go_end0
        rw [HFP.out]
        exact F1.put hc _ HS7.out HG7.out hcb hcw HC7.out
    · have hd : decide ((0 : Int) < (vi : Int)) = true := decide_eq_true (by omega)
      have HF := Lib.hid (show Post = OkIn c E w v [cb] (F1 cb) o (.ok [(gs.length : Nat)] (TS c.l nx).tail (gs ++ [⟨2, -(vi : Int), []⟩])) by rw [HP.out, if_pos hv0])
      have e2 := blk_cell HS3.out.rd 2 rfl
      have f2 := blk_free HS3.out.rd 2
      have hkbr : ¬ kb = c.br := fun e => hkn (by simp [e])
      obtain ⟨m, hm⟩ : ∃ m, m = t.length := ⟨_, rfl⟩
      rw [← hm] at hz1
      have HM := Lib.hid hm
      clear HP hm
      go_wp2_with fail
      have hnt := HV0.out hv0
      rw [show ((q : Int) + (m : Int)) = ((q + m : Nat) : Int) by omega]
      have hR4 : Rd c.br c.l c.n (q + m) o v (w3.setCell ⟨c.br, 2, none⟩ (.int .i64 ((q + m : Nat) : Int))) := heap_setCell_same _ c.br 2 _ _ _ HS3.out.rd
      have hPl := HS.out.pl.next HH2.out hnt
      have hless := TS_less HH2.out hnt
      have htl := TS_tail HH2.out hnt
      rw [← HQ.out, ← HM.out] at hPl hless htl
      have HS4 := Lib.hid (HS3.out.move hc hR4 behind_set1 hPl (by omega))
      have HG4 := Lib.hid ((Gw.of_below (c := c) (v := v) HB3.out).trans (Gw.of_br (v := v) (behind_set1 (b := c.br) (o := 2) (v := .int .i64 ((q + m : Nat) : Int)))))
      have hcnt := HS.out.cnt
      have KA := kAdd c hc ⟨2, -(vi : Int), []⟩ none 0 HS4.out (InsAt.nil _ _ _) (by omega)
      simp only [List.length_nil] at KA
      have HTL := Lib.hid htl
      clear hR4 hPl hless htl hcnt hnt e2 f2 gk3
      refine KA.mono ?_
      rintro e w5 ⟨v5, rfl, hS5, hG5⟩
      have HS5 := Lib.hid hS5
      have HG5 := Lib.hid (HG4.out.trans hG5)
      have HC5 := Lib.hid (HG5.out.be.keep HCW.out hcn)
      have c5 := blk_cell HC5.out 0 rfl
      have f5 := blk_free HC5.out 0
      clear hS5 hG5 KA
      go_wp2_with fail
      first | go_ret | go_ret2 | go_end0
      rw [HF.out, HTL.out]
      exact F1.put hc _ HS5.out HG5.out hcb hcw HC5.out
end Go.Proofs.YtmaiofimmjedjaaDoor

/- The reader: negated. -/
namespace Go.Proofs.YtmaiofimmjedjaaDoor
open Go.RowKit

theorem results_cell_one {P : Program} {fn : Func} {p : Tmp} {ty : TypeId} (h : fn.results = #[.cell p ty]) (tmps : Array Value) (w : World) (g : Nat) (v : Value) (d : TypeDesc)
    (hp : tmps.getD p undef = .pointer (some ⟨g, 0, none⟩)) (hg : w.cell? ⟨g, 0, none⟩ = some v) (hu : P.underlying ty = some d) (hd : (match d with | .struct _ | .array _ _ => true | _ => false) = false) :
    (results fn tmps).run P w = .ok v w := by
  have hp' : tmps[p]?.getD undef = .pointer (some ⟨g, 0, none⟩) := by simpa using hp
  have hagg : (isAgg ty).run P w = .ok false w := by
    unfold isAgg
    rw [Sem.run_bind, run_underlying hu w]
    cases d <;> simp_all
  simp [results, h, hp', asAddr, loadVar, Sem.run_bind, hagg, hg]

theorem St.two {c : Cf} (hc : c.Ok) {E : List Nat} {w : World} {nx o : Nat} {v : Value} {gs : List Gt} (h : St c E w nx o v gs) (b1 b2 : Obj) : St c (w.heap.size :: (w.heap.size + 1) :: E) ((w.alloc b1).alloc b2) nx o v gs :=
  h.apart hc ((below_one w b1).trans ((below_one _ b2).mono (by simp))) (fun g hg => by
    rcases List.mem_cons.1 hg with rfl | hg
    · exact .inr ⟨Nat.le_refl _, by simp; omega⟩
    · rcases List.mem_cons.1 hg with rfl | hg
      · exact .inr ⟨by omega, by simp⟩
      · exact .inl hg)
theorem F1.later {cb br : Nat} (hne : cb ≠ br) : ∀ lst v' x x', Behind x [br] x' → F1 cb lst v' x → F1 cb lst v' x' := fun lst v' x x' hB h => by
  obtain ⟨k, e, h2⟩ := h
  exact ⟨k, e, hB.keep h2 (by simpa using hne)⟩
theorem Gu.drop {c : Cf} {U : List Nat} {w w2 w' : World} {v v' : Value} (h : Gu c U w2 v w' v') (hB : Below w.heap.size w w2) (hU : ∀ g ∈ U, w.heap.size ≤ g) : Gw c w v w' v' :=
  ⟨((behind_of_below hB).mono (Wr := []) (Wr' := c.br :: rowBlk v) (by simp)).trans h.be (fun b hb => by
    rcases List.mem_cons.1 hb with rfl | hb
    · exact .inl (by simp)
    · rcases List.mem_append.1 hb with hb | hb
      · exact .inr (hU b hb)
      · exact .inl (by simp [hb])), fun g hg => (h.new g hg).imp id (fun e => Nat.le_trans hB.size e)⟩
theorem drop_err {c : Cf} {U : List Nat} {w w2 w' : World} {v : Value} (h : Behind w2 (c.br :: (U ++ rowBlk v)) w') (hB : Below w.heap.size w w2) (hU : ∀ g ∈ U, w.heap.size ≤ g) : Behind w (c.br :: rowBlk v) w' := (Gu.drop (c := c) (v' := v) ⟨h, fun g hg => .inl hg⟩ hB hU).be

set_option maxHeartbeats 6400000 in
set_option maxRecDepth 100000 in
theorem gNegated (c : Cf) (hc : c.Ok) (E : List Nat) (nx o : Nat) (v : Value) (gs : List Gt) (w : World) (hS : St c E w nx o v gs) (hA : o < 200 → tokI (c.l.drop (nxtI c.l nx)) = some [33] → Con c .atom (TS c.l (nxtI c.l nx + 1))) :
    Calls Tryd.prog 74 #[.pointer (some ⟨c.br, 0, none⟩)] w (OkP c E w v o (openI [33] (TS c.l nx) o (negR c (o + 1) gs))) := by
  obtain ⟨Post, hPost⟩ : ∃ P : Ending → World → Prop, P = OkP c E w v o (openI [33] (TS c.l nx) o (negR c (o + 1) gs)) := ⟨_, rfl⟩
  rw [← hPost]
  have HP := Lib.hid hPost
  have hbr : c.br < w.heap.size := hS.X c.br (by simp)
  have hw0 := hS.be.size
  have HS2 := Lib.hid (hS.two hc (.cells #[.pointer (some ⟨c.br, 0, none⟩)] 55 (0, 0)) (.cells #[.int .i64 0] 3 (0, 0)))
  have HB2 := Lib.hid (show Below w.heap.size w ((w.alloc (.cells #[.pointer (some ⟨c.br, 0, none⟩)] 55 (0, 0))).alloc (.cells #[.int .i64 0] 3 (0, 0))) from (below_one w _).trans ((below_one _ _).mono (by simp)))
  have hk2 : ((w.alloc (.cells #[.pointer (some ⟨c.br, 0, none⟩)] 55 (0, 0))).alloc (.cells #[.int .i64 0] 3 (0, 0))).heap[w.heap.size]? = some (.cells #[.pointer (some ⟨c.br, 0, none⟩)] 55 (0, 0)) := (behind_of_below (below_one _ _)).keep (heap_alloc_new w _) (by simp)
  have hc2 : ((w.alloc (.cells #[.pointer (some ⟨c.br, 0, none⟩)] 55 (0, 0))).alloc (.cells #[.int .i64 0] 3 (0, 0))).heap[w.heap.size + 1]? = some (.cells #[.int .i64 0] 3 (0, 0)) := by
    have := heap_alloc_new (w.alloc (.cells #[.pointer (some ⟨c.br, 0, none⟩)] 55 (0, 0))) (.cells #[.int .i64 0] 3 (0, 0))
    simpa using this
  have KN := insideN c hc _ nx o v gs _ HS2.out [33] #[.pointer (some ⟨w.heap.size, 0, none⟩), .pointer (some ⟨w.heap.size + 1, 0, none⟩)] (by simp) [w.heap.size + 1] (F1 (w.heap.size + 1)) (F1.later (by omega)) (negR c (o + 1) gs)
    (fun w1 ho hB1 ht hS1 => neg1 c hc _ w.heap.size (w.heap.size + 1) _ (o + 1) v gs w1 hS1 (by omega) (by simp) (by simp) (by omega) (by omega) (hB1.keep hk2 (by simp; omega)) (hB1.keep hc2 (by simp; omega)) (hA ho ht))
  obtain ⟨R, hR⟩ : ∃ R, R = openI [33] (TS c.l nx) o (negR c (o + 1) gs) := ⟨_, rfl⟩
  rw [← hR] at KN HP
  clear hPost hR hS hA hk2 hc2
  go_enter Tryd.func74, Tryd.ntmps74
  go_wp2_with fail
  refine KN.mono ?_
  intro e w3 h3
  cases R with
  | err q en =>
    obtain ⟨rfl, h3⟩ := h3
    refine ⟨rfl, ?_⟩
    rw [HP.out]
    exact ⟨rfl, drop_err h3 HB2.out (fun g hg => by simp at hg; omega)⟩
  | ok lst ts3 gs3 =>
    obtain ⟨nx3, v3, rfl, rfl, hS3, hG3, k3, rfl, hC3⟩ := h3
    have HS3 := Lib.hid hS3
    have HG3 := Lib.hid hG3
    have HC3 := Lib.hid hC3
    have c3 := blk_cell hC3 0 rfl
    have f3 := blk_free hC3 0
    clear hS3 hG3 hC3 KN
    go_wp2_with fail
    refine bodyPost_ret (results_cell_one (p := 2) rfl _ _ (w.heap.size + 1) _ _ rfl (blk_cell (heap_setCell_same _ (w.heap.size + 1) 0 _ _ _ HC3.out) 0 rfl) Tryd.underlying3 rfl) rfl ?_
    rw [HP.out]
    have hb : Behind w3 [w.heap.size + 1] (w3.setCell ⟨w.heap.size + 1, 0, none⟩ (.int .i64 k3)) := behind_set1
    exact ⟨k3, nx3, v3, rfl, rfl, rfl, (HS3.out.wrote hc hb (fun g hg => by simp at hg; subst hg; exact ⟨by simp, by omega⟩)).apart hc (Below.refl _ _) (fun g hg => .inl (by simp [hg])), (HG3.out.trans (Gu.of hb)).drop HB2.out (fun g hg => by simp at hg; omega)⟩
end Go.Proofs.YtmaiofimmjedjaaDoor

/- The reader: the closures of a formula in parentheses and of a list. -/
namespace Go.Proofs.YtmaiofimmjedjaaDoor
open Go.RowKit

def parR (c : Cf) (o : Nat) (gs : List Gt) (ts : List Tk) : PR := (RI c.n .form ts o gs).bind fun l ts gs => needI [41] ts fun ts => .ok l ts gs

set_option maxHeartbeats 6400000 in
set_option maxRecDepth 100000 in
theorem atom1 (c : Cf) (hc : c.Ok) (E : List Nat) (kb cb nx o : Nat) (v : Value) (gs : List Gt) (w : World) (hS : St c E w nx o v gs) (ho : o ≤ 200) (hk : kb ∈ E) (hcb : cb ∈ E) (hne : kb ≠ cb) (hcw : c.w0.heap.size ≤ cb) (HK : w.heap[kb]? = some (.cells #[.pointer (some ⟨c.br, 0, none⟩)] 55 (0, 0))) (HCB : w.heap[cb]? = some (.cells #[.int .i64 0] 3 (0, 0))) (hA : Con c .form (TS c.l nx)) :
    Calls Tryd.prog 76 #[.pointer (some ⟨kb, 0, none⟩), .pointer (some ⟨cb, 0, none⟩)] w (OkIn c E w v [cb] (F1 cb) o (parR c o gs (TS c.l nx))) := by
  obtain ⟨Post, hPost⟩ : ∃ P : Ending → World → Prop, P = OkIn c E w v [cb] (F1 cb) o (parR c o gs (TS c.l nx)) := ⟨_, rfl⟩
  rw [← hPost]
  unfold parR at hPost
  have HP := Lib.hid hPost
  have HS := Lib.hid hS
  have HKW := Lib.hid HK
  have HCW := Lib.hid HCB
  have gk := blk_cell HK 0 rfl
  have hkn : kb ∉ c.br :: rowBlk v := (hS.ex kb hk).2
  have hcn : cb ∉ c.br :: rowBlk v := (hS.ex cb hcb).2
  have KA : Calls Tryd.prog 23 #[.pointer (some ⟨c.br, 0, none⟩)] w (OkP c E w v o (RI c.n .form (TS c.l nx) o gs)) := hA E nx o v gs w rfl hS ho
  obtain ⟨R1, hR1⟩ : ∃ R1, R1 = RI c.n .form (TS c.l nx) o gs := ⟨_, rfl⟩
  rw [← hR1] at KA HP
  clear hPost hR1 hS HK HCB hA
  go_enter Tryd.func76, Tryd.ntmps76
  go_wp2_with fail
  refine KA.mono ?_
  intro e w1 h1
  cases R1 with
  | err q en =>
    obtain ⟨rfl, h1⟩ := h1
    refine ⟨rfl, ?_⟩
    rw [HP.out]
    exact ⟨rfl, h1.mono (fun g hg => (List.mem_cons.1 hg).elim (fun e => by simp [e]) (fun e => by simp [e]))⟩
  | ok lst ts1 gs1 =>
    obtain ⟨k1, nx1, v1, rfl, rfl, rfl, hS1, hG1⟩ := h1
    have hC1 := hG1.be.keep HCW.out hcn
    have c1 := blk_cell hC1 0 rfl
    have f1 := blk_free hC1 0
    have hb : Behind w1 [cb] (w1.setCell ⟨cb, 0, none⟩ (.int .i64 k1)) := behind_set1
    have hcn1 : cb ∉ c.br :: rowBlk v1 := (hS1.ex cb hcb).2
    have hK2 := hb.keep (hG1.be.keep HKW.out hkn) (by simpa using hne)
    have HC2 := Lib.hid (heap_setCell_same _ cb 0 _ _ (.int .i64 k1) hC1)
    have HS2 := Lib.hid (hS1.wrote hc hb (fun g hg => by simp at hg; subst hg; exact ⟨hcb, hcw⟩))
    have HG2 := Lib.hid (show Gu c [cb] w v _ v1 from hG1.wide.trans (Gu.of hb))
    have gk1 := blk_cell (hG1.be.keep HKW.out hkn) 0 rfl
    have hne2 : ¬ kb = cb := hne
    have hne3 : ¬ cb = kb := fun e => hne e.symm
    have HP2 := Lib.hid (show Post = OkIn c E w v [cb] (F1 cb) o (needI [41] (TS c.l nx1) fun ts => .ok [k1] ts gs1) from HP.out)
    have hfm := HP2.out
    rw [need_TS] at hfm
    have hp1 := HS2.out.pl.le
    clear hS1 hG1 hC1 hb hK2 HP HP2 KA gk
    by_cases ht : tokI (c.l.drop (nxtI c.l nx1)) = some [41]
    · rw [ht] at hfm
      have hfm2 : Post = OkIn c E w v [cb] (F1 cb) o (.ok [k1] (TS c.l nx1).tail gs1) := by rw [hfm]; simp
      rw [TS_tail ht (by simp)] at hfm2
      have HF := Lib.hid hfm2
      have hless := TS_less ht (by simp)
      have HPL := Lib.hid (HS2.out.pl.next ht (by simp))
      have KT := gNeed_yes c.br c.l c.n nx1 o v1 [41] _ HS2.out.rd hp1 hc.l ht
      obtain ⟨nx3, hnx3⟩ : ∃ nx3, nx3 = nxtI c.l nx1 + ([41] : List UInt8).length := ⟨_, rfl⟩
      rw [← hnx3] at KT HF HPL hless
      clear hfm hfm2 ht hp1 hnx3
      go_wp2_with fail
      refine KT.mono ?_
      rintro e w4 ⟨rfl, hR4, hB4⟩
      have HS4 := Lib.hid (HS2.out.move hc hR4 hB4 HPL.out (by omega))
      have HG4 := Lib.hid (HG2.out.trans (Gw.of_br (v := v1) hB4).wide)
      have HC4 := Lib.hid (hB4.keep HC2.out (fun h => hcn1 (by simp at h; simp [h])))
      clear hR4 hB4 KT
      go_wp2_with fail
      go_end0
      rw [HF.out]
      exact ⟨nx3, v1, rfl, rfl, HS4.out, HG4.out, k1, rfl, HC4.out⟩
    · have hfm2 : Post = OkIn c E w v [cb] (F1 cb) o (.err (TS c.l nx1).length 5) := by
        rw [hfm]
        cases h : tokI (c.l.drop (nxtI c.l nx1)) with
        | none => rfl
        | some t => simp only []; rw [if_neg (fun e => ht (by rw [h, e]))]
      have HF := Lib.hid hfm2
      have KT := gNeed_no c.br c.l c.n nx1 o v1 [41] _ HS2.out.rd hp1 hc.l ht
      clear hfm hfm2 ht hp1
      go_wp2_with fail
      refine KT.mono ?_
      rintro e w4 ⟨rfl, hB4⟩
      refine ⟨rfl, ?_⟩
      rw [HF.out, ← HS2.out.pl.pos]
      exact OkIn.err_after HG2.out ((behind_of_below hB4).mono (by simp))
end Go.Proofs.YtmaiofimmjedjaaDoor
