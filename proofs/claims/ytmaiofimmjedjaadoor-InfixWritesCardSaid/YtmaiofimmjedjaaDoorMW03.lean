/- Texts of this claim, joined: Game2, Game3, Game4, GD, GS, Game5. -/
import Derived.Test.YtmaiofimmjedjaaDoorMW02
import Derived.Deep.MidRow
import Derived.Laws.Append
import Derived.Laws.AppendOwn

/- The game's steps for boxes and whole stores; what is known of blocks. -/
namespace Go.Proofs.YtmaiofimmjedjaaDoor
open Go.RowKit

section
variable {P : Program} {ops : Array Oper} {w : World} {Wr : List Nat}

theorem wrote_cells {b : Nat} {T : TypeId} : ∀ (vs : List Value) (o : Nat) (x : World) (xs : Array Value), x.heap[b]? = some (.cells xs T (0, 0)) → o + vs.length ≤ xs.size →
    ∃ ys : Array Value, Wrote b (.cells ys T (0, 0)) x (x.setCells b o vs) ∧ ys.size = xs.size ∧ (∀ i, i < o → ys[i]? = xs[i]?) ∧ (∀ i, i < vs.length → ys[o + i]? = vs[i]?) ∧ (∀ i, o + vs.length ≤ i → ys[i]? = xs[i]?)
  | [], o, x, xs, h, _ => ⟨xs, ⟨rfl, rfl, rfl, Nat.le_refl _, h, fun _ _ _ => rfl⟩, rfl, fun _ _ => rfl, fun i hi => by simp at hi, fun _ _ => rfl⟩
  | v :: r, o, x, xs, h, hl => by
    simp only [List.length_cons] at hl
    have hw := wrote_cell (o := o) v h
    obtain ⟨ys, h1, h2, h3, h4, h5⟩ := wrote_cells r (o + 1) (x.setCell ⟨b, o, none⟩ v) _ hw.here (by simp; omega)
    refine ⟨ys, ⟨h1.os.trans hw.os, h1.tape.trans hw.tape, h1.output.trans hw.output, Nat.le_trans hw.size h1.size, h1.here, fun k hl hk => (h1.block k (Nat.lt_of_lt_of_le hl hw.size) hk).trans (hw.block k hl hk)⟩, by rw [h2]; simp, fun i hi => ?_, fun i hi => ?_, fun i hi => ?_⟩
    · rw [h3 i (by omega), Array.getElem?_setIfInBounds_ne (by omega)]
    · cases i with
      | zero => rw [Nat.add_zero, h3 o (by omega), Array.getElem?_setIfInBounds_self_of_lt (by omega)]; rfl
      | succ i => rw [show o + (i + 1) = o + 1 + i by omega, h4 i (by simp at hi; omega)]; rfl
    · simp only [List.length_cons] at hi
      rw [h5 i (by omega), Array.getElem?_setIfInBounds_ne (by omega)]

theorem there_of_block {x : World} {b : Nat} {xs : Array Value} {T : TypeId} (h : x.heap[b]? = some (.cells xs T (0, 0))) (o n : Nat) (hn : o + n ≤ xs.size) : x.there b o n := fun j hj => by
  refine ⟨?_, frozen_of_row x b (o + j) xs T h⟩
  rw [cell_of_row x b (o + j) xs T (0, 0) h, Array.getElem?_eq_getElem (by omega)]; rfl

theorem lex_store_all {kd : Nat → Nat} {Q : Act → Blocks → Prop} {B : Blocks} {rest : List Oper} {k : Nat} {T ty : TypeId} {p v : Operand} {pos : String} {after : Array Edge} {a : Act} (b : Nat) (cs : Array Value) (xs : Array Value) (E : TypeId) (hk : kd k = 2) (hp : a.eval p = .pointer (some ⟨b, 0, none⟩)) (hv : a.eval v = .agg cs)
    (hB : B b = some (.cells xs E (0, 0))) (hsz : xs.size = cs.size) (hW : b ∈ Wr ∨ w.heap.size ≤ b) (hi : (P.info? T).map (·.size) = some cs.size) (h1 : cs.all (·.oneCell') = true)
    (h : wpLex P ops w Wr kd Q rest (k + 1) a (B.put b (.cells cs E (0, 0)))) :
    wpLex P ops w Wr kd Q (⟨none, .store T p v, ty, pos, after, none⟩ :: rest) k a B := by
  refine lex_store b (.cells cs E (0, 0)) hk (by rw [hB]; rfl) hW (fun x hx => ?_) h
  have hb := hx b _ hB
  obtain ⟨ys, g1, g2, _, g4, _⟩ := wrote_cells cs.toList 0 x xs hb (by simp; omega)
  have e : ys = cs := by
    apply Array.ext_getElem?
    intro i
    by_cases hi : i < cs.size
    · have := g4 i (by simpa using hi)
      rw [Nat.zero_add] at this
      rw [this]; simp
    · rw [Array.getElem?_eq_none (by omega), Array.getElem?_eq_none (by omega)]
  subst e
  have hrun : (execOp a.eval ⟨none, .store T p v, ty, pos, after, none⟩).run P x = .ok .skip (x.setCells b 0 ys.toList) := by
    have := run_storeAt_mid (P := P) x b 0 T ys (there_of_block hb 0 _ (by omega)) hi h1
    simp only [execOp, hp, hv]
    simp [this]
  rw [hrun]
  exact ⟨rfl, g1⟩

/-! ### What is known of blocks -/

theorem blk_cell {x : World} {g : Nat} {cs : Array Value} {T : TypeId} (h : x.heap[g]? = some (.cells cs T (0, 0))) (i : Nat) {v : Value} (hv : cs[i]? = some v) : x.cell? ⟨g, i, none⟩ = some v := by
  rw [cell_of_row x g i cs T (0, 0) h, hv]
theorem blk_free {x : World} {g : Nat} {cs : Array Value} {T : TypeId} (h : x.heap[g]? = some (.cells cs T (0, 0))) (i : Nat) : x.frozen? ⟨g, i, none⟩ = false := frozen_of_row x g i cs T h
theorem blk_cellp {x : World} {g : Nat} {cs : Array Value} {T : TypeId} (h : x.heap[g]? = some (.cells cs T (0, 0))) (i : Nat) {v : Value} (hv : cs[i]? = some v) (p : Extra) : (plus x p).cell? ⟨g, i, none⟩ = some v :=
  plus_cell (blk_cell h i hv) (lt_of_heap h) p
theorem Behind.keep {x : World} (h : Behind w Wr x) {g : Nat} {o : Obj} (hg : w.heap[g]? = some o) (hn : g ∉ Wr) : x.heap[g]? = some o := by
  rw [h.block g (lt_of_heap hg) hn]; exact hg
theorem Behind.trans {x y : World} {W2 : List Nat} (h : Behind w Wr x) (h2 : Behind x W2 y) (hW : ∀ b ∈ W2, b ∈ Wr ∨ w.heap.size ≤ b) : Behind w Wr y :=
  ⟨h2.os.trans h.os, h2.tape.trans h.tape, h2.output.trans h.output, Nat.le_trans h.size h2.size, fun k hk hn => (h2.block k (Nat.lt_of_lt_of_le hk h.size) fun hm => by rcases hW k hm with h3 | h3; exact hn h3; omega).trans (h.block k hk hn)⟩
theorem Behind.below_of {x : World} (h : Behind w Wr x) {b : Nat} (hW : ∀ k ∈ Wr, b ≤ k) (hb : b ≤ w.heap.size) : Below b w x :=
  ⟨h.os, h.tape, h.output, h.size, fun k hk => h.block k (by omega) fun hm => by have := hW k hm; omega⟩
theorem Below.heap {b : Nat} {x y : World} (h : Below b x y) {g : Nat} {o : Obj} (hg : x.heap[g]? = some o) (hb : g < b) : y.heap[g]? = some o := by rw [h.block g hb]; exact hg
theorem lex_readE {kd : Nat → Nat} {Q : Act → Blocks → Prop} {B : Blocks} {l : List Oper} {k : Nat} {a : Act} (n : Nat) (x0 : World) (hx0 : Behind w Wr x0) (hB0 : Has B x0) (h1 : ssaB (l.take n) a.tmps.size = true) (h2 : ((List.range n).all fun j => kd (k + j) == 1) = true)
    (h : ∃ a1, (∀ x, Behind w Wr x → Has B x → wpQuiet P ops (Cx x) (fun a' => a' = a1) (l.take n) a) ∧ wpLex P ops w Wr kd Q (l.drop n) (k + n) a1 B) : wpLex P ops w Wr kd Q l k a B :=
  let ⟨a1, h3, h4⟩ := h
  lex_read a1 x0 hx0 hB0 n l k a h1 h2 h3 h4

theorem lex_quietE {kd : Nat → Nat} {Q : Act → Blocks → Prop} {B : Blocks} {l : List Oper} {k : Nat} {a : Act} (n : Nat) (h1 : ssaB (l.take n) a.tmps.size = true) (h2 : ((List.range n).all fun j => kd (k + j) == 0) = true)
    (h : ∃ a1, (∀ x, Behind w Wr x → wpQuiet P ops (Cx x) (fun a' => a' = a1) (l.take n) a) ∧ wpLex P ops w Wr kd Q (l.drop n) (k + n) a1 B) : wpLex P ops w Wr kd Q l k a B :=
  let ⟨a1, h3, h4⟩ := h
  lex_quiet a1 n l k a h1 h2 h3 h4

def B0 : Blocks := fun _ => none
theorem fin_B0 : Fin B0 := ⟨0, fun _ _ => rfl⟩
theorem has_B0 (x : World) : Has B0 x := fun _ _ h => by cases h
end
end Go.Proofs.YtmaiofimmjedjaaDoor

/- The game with a forced tail; slices; append. -/
namespace Go.Proofs.YtmaiofimmjedjaaDoor
open Go.RowKit

section
variable {P : Program} {ops : Array Oper} {md : Region.Mode} {w : World} {Wr : List Nat}

def HeadG (P : Program) (md : Region.Mode) (ops : Array Oper) (w : World) (Wr : List Nat) (kd : Nat → Nat) (n : Nat) (L : Array Bool → Act → Blocks → Prop) : Nat → Array Bool → Act → Blocks → Prop
  | 0, s, a, B => L s a B
  | f + 1, s, a, B => Region.ready md ops s ≠ [] ∧ ∀ i ∈ Region.ready md ops s, i < n ∧ gOp P ops w Wr kd i (HeadG P md ops w Wr kd n L f (s.setIfInBounds i true)) a B

theorem HeadG.any {kd : Nat → Nat} {n g : Nat} {L : Array Bool → Act → Blocks → Prop} {Q' : Exit → Act → World → Prop} (hL : ∀ s a B x, Behind w Wr x → Has B x → L s a B → wpAny P md ops Q' g s a x) :
    ∀ (f : Nat) (s : Array Bool) (a : Act) (B : Blocks) (x : World), Behind w Wr x → Has B x → HeadG P md ops w Wr kd n L f s a B → wpAny P md ops Q' (f + g) s a x
  | 0, s, a, B, x, hx, hB, h => by rw [Nat.zero_add]; exact hL _ _ _ _ hx hB h
  | f + 1, s, a, B, x, hx, hB, h => by
    rw [show f + 1 + g = (f + g) + 1 by omega]
    exact ⟨fun h0 => absurd h0 h.1, fun i hi => gOp_sound hx hB (fun a' B' x' hx' hB' h' => HeadG.any hL f _ a' B' x' hx' hB' h') (h.2 i hi).2⟩

theorem HeadG.first {kd : Nat → Nat} {n i : Nat} {oi : Oper} {D : Nat → Bool} {L : Array Bool → Act → Blocks → Prop} (hi : ops[i]? = some oi) (hsel : ∀ (j : Nat) (o : Oper) cs b, ops[j]? = some o → o.op ≠ .select cs b)
    (hs : Region.sinkB md ops n = true) (hc : Region.chainB md ops n = true) (hn : n < ops.size) (hin : i < n) (hdone : ∀ s a B, L s a B → ∀ j ∈ Region.ready md ops s, n ≤ j) (f : Nat) :
    ∀ (s : Array Bool) (a : Act) (B : Blocks) (Oi : Value → Blocks → Prop), HeadInv md ops n s → FreeD md ops kd i oi D s →
      i ∈ Region.ready md ops s → Fin B → GStep P ops w Wr oi a (kd i) B Oi → (∀ v B', Oi v B' → HeadG P md ops w Wr kd n L f (s.setIfInBounds i true) (a.put oi.dst v) B') → (∃ v B', Oi v B') → HeadG P md ops w Wr kd n L (f + 1) s a B := by
  induction f with
  | zero =>
    intro s a B Oi inv _ hr hf hg H hne
    refine ⟨List.ne_nil_of_mem hr, fun j hj => ?_⟩
    have hjn : j < n := Nat.lt_of_not_le fun h => tail_waits hs hc hn inv _ i rfl hin (mem_ready.1 hr).1 j h hj
    refine ⟨hjn, ?_⟩
    rcases Decidable.em (j = i) with rfl | hji
    · unfold gOp
      simp only [hi]
      exact ⟨Oi, hg, H⟩
    · obtain ⟨v, B', hO⟩ := hne
      exact absurd (hdone _ _ _ (H v B' hO) j (ready_mono hj hji)) (by omega)
  | succ f ih =>
    intro s a B Oi inv hfree hr hf hg H hne
    have hun := (mem_ready.1 hr).1
    refine ⟨List.ne_nil_of_mem hr, fun j hj => ?_⟩
    have hjn : j < n := Nat.lt_of_not_le fun h => tail_waits hs hc hn inv _ i rfl hin hun j h hj
    refine ⟨hjn, ?_⟩
    rcases Decidable.em (j = i) with rfl | hji
    · unfold gOp
      simp only [hi]
      exact ⟨Oi, hg, H⟩
    · obtain ⟨hjun, oj, hoj, hall⟩ := mem_ready.1 hj
      have hall' : ∀ e ∈ oj.after, Region.binds md e = true → s.getD e.on true = true := fun e he hb => getD_tt (hall e he hb)
      have hd := hfree.not hun hoj hall'
      obtain ⟨hap, hok⟩ := hfree.ok j oj hoj hji hjun hd
      have h2 := gOp_put hoj hap hok (fun cs b => hsel i oi cs b hi) (fun cs b => hsel j oj cs b hoj) hf hg (fun v B1 hO => ((H v B1 hO).2 j (ready_mono hj hji)).2)
      refine gOp_mono (fun a' B' h3 => ?_) h2
      obtain ⟨hf', Oi', hg', hK⟩ := h3
      refine ih (s.setIfInBounds j true) a' B' Oi' (inv.set hj hjn) (hfree.set hjun hd) (ready_mono hr (Ne.symm hji)) hf' hg' (fun v B2 hO => ?_) (hg'.inhab hf')
      rw [Array.setIfInBounds_comm _ _ hji]; exact hK v B2 hO

def lexGT (md : Region.Mode) (ops : Array Oper) (kd : Nat → Nat) (g : Nat) : Nat → Nat → Array Bool → Bool
  | 0, k, s => Region.seqB md ops g k s
  | fuel + 1, k, s => (Region.ready md ops s).contains k && freeG md ops kd s k && lexGT md ops kd g fuel (k + 1) (s.setIfInBounds k true)

theorem HeadG.lex {kd : Nat → Nat} {n g : Nat} {Q : Act → Blocks → Prop} (hsel : Region.noSelect ops = true) (hs : Region.sinkB md ops n = true) (hc : Region.chainB md ops n = true) (hn : n < ops.size) :
    ∀ (l : List Oper) (k : Nat) (s : Array Bool) (a : Act) (B : Blocks), (∀ j, j < l.length → l[j]? = ops[k + j]?) → k + l.length = n → HeadInv md ops n s → Fin B → lexGT md ops kd g l.length k s = true →
    wpLex P ops w Wr kd Q l k a B → HeadG P md ops w Wr kd n (fun s' a' B' => Region.seqB md ops g n s' = true ∧ Q a' B') l.length s a B
  | [], k, s, a, B, _, hk, _, _, hB, h => by
    obtain rfl : k = n := by simpa using hk
    exact ⟨by simpa [lexGT] using hB, h⟩
  | o :: l, k, s, a, B, hl, hk, inv, hf, hB, h => by
    have h0 : ops[k]? = some o := by simpa using (hl 0 (by simp)).symm
    simp only [List.length_cons, lexGT, Bool.and_eq_true] at hB
    have hkn : k < n := by simp only [List.length_cons] at hk; omega
    have hr' : k ∈ Region.ready md ops s := by simpa using hB.1.1
    obtain ⟨O, hg, hK⟩ := h
    exact HeadG.first h0 (Region.noSelect_spec hsel) hs hc hn hkn (fun _ _ _ hL => seqB_ready hL.1) l.length s a B O inv (freeG_spec h0 hB.1.2) hr' hf hg
      (fun v B' hO => HeadG.lex hsel hs hc hn l (k + 1) _ _ B' (fun j hj => by have := hl (j + 1) (by simp; omega); simpa [Nat.add_assoc, Nat.add_comm 1 j] using this) (by simp only [List.length_cons] at hk; omega) (inv.set hr' hkn) (hg.fin hf v B' hO) hB.2 (hK v B' hO)) (hg.inhab hf)

def gameTB (md : Region.Mode) (ops : Array Oper) (kinds : List Nat) (n : Nat) : Bool :=
  Region.noSelect ops && decide (n < ops.size) && Region.sinkB md ops n && Region.chainB md ops n && lexGT md ops (fun k => kinds.getD k 0) (ops.size - n) n 0 (Array.replicate ops.size false)

theorem wp_game_tail {id : Nat} {Q : Exit → Act → World → Prop} {a : Act} {l : List Oper} (n : Nat) (kinds : List Nat) (Wr : List Nat) (B : Blocks) (hf : Fin B) (hB : Has B w) (hm : P.follows .mixedOrders = true) (hb : gameTB .any l.toArray kinds n = true)
    (h : wpLex P l.toArray w Wr (fun k => kinds.getD k 0) (fun a' B' => ∀ x, Behind w Wr x → Has B' x → wpList P l.toArray Q (l.drop n) a' x) (l.take n) 0 a B) : (Code.region id l.toArray true).wp P Q a w := by
  simp only [gameTB, Bool.and_eq_true, decide_eq_true_eq] at hb
  obtain ⟨⟨⟨⟨hsel, hn⟩, hs⟩, hc⟩, hlex⟩ := hb
  have htl : (l.take n).length = n := by simp at hn; simp; omega
  have hdl : (l.drop n).length = l.toArray.size - n := by simp
  have inv0 : HeadInv .any l.toArray n (Array.replicate l.toArray.size false) :=
    ⟨by simp, fun j oj _ hl => (by rw [getD_replicate_false] at hl; cases hl), fun t _ ht => getD_in (by simpa using ht) (getD_replicate_false _ _)⟩
  have H := HeadG.lex (md := .any) (g := l.toArray.size - n) hsel hs hc hn (l.take n) 0 _ a B (fun j hj => by rw [htl] at hj; simp [hj]) (by simpa using htl) inv0 hf (by rw [htl]; exact hlex) h
  refine wp_region_any hm ?_
  have := HeadG.any (Q' := Q) (g := l.toArray.size - n) (fun s a' B' x hx hB' hL => by
    have := wpAny_of_seq (md := .any) (Q' := Q) (l.drop n) n s a' x (fun j => by simp [List.getElem?_drop]) (by rw [hdl]; exact hL.1) (hL.2 x hx hB')
    rwa [hdl] at this) _ _ _ _ _ (Behind.drew w Wr) hB H
  rw [htl, show n + (l.toArray.size - n) = l.toArray.size by omega] at this
  exact this

structure RowB (B : Blocks) (E : TypeId) (size g n cap : Nat) (xs : List Value) (cur : Array Value) : Prop where
  blk : B g = some (.cells cur E (0, 0))
  le : n ≤ cap
  mx : cap ≤ maxLen
  sz : cur.size = cap * size
  tk : cur.toList.take (n * size) = xs
  len : xs.length = n * size

inductive RowV (B : Blocks) (E : TypeId) (size : Nat) : Value → Nat → List Value → Prop
  | nil : RowV B E size (.slice none 0 0) 0 []
  | row {g n cap : Nat} {xs : List Value} {cur : Array Value} (h : RowB B E size g n cap xs cur) : RowV B E size (.slice (some ⟨g, 0, none⟩) n cap) n xs

def rowBlk : Value → List Nat
  | .slice (some a) _ _ => [a.block]
  | _ => []

end
end Go.Proofs.YtmaiofimmjedjaaDoor

/- The game: a store of what is there already. -/
namespace Go.Proofs.YtmaiofimmjedjaaDoor
open Go.RowKit

section
variable {P : Program} {ops : Array Oper} {w : World} {Wr : List Nat}
end
end Go.Proofs.YtmaiofimmjedjaaDoor

/- A region that draws its order and ends in a call that panics. -/
namespace Go.Proofs.YtmaiofimmjedjaaDoor
open Go.RowKit

section
variable {P : Program} {ops : Array Oper} {md : Region.Mode} {w : World}

def Dies (P : Program) (ops : Array Oper) (w : World) (i : Nat) (Q' : Exit → Act → World → Prop) (a : Act) : Prop :=
  ∃ o, ops[i]? = some o ∧ Region.wanted o (yielded ops a.tmps) = true ∧ ∀ x, Behind w [] x → ∃ f vs, (execOp a.eval o).run P x = .ok (.enter f vs) x ∧ Calls P f vs x fun e w' => ∃ ps, e = .panicked ps ∧ ∀ a', a'.defers = a.defers → Q' (.panic ps) a' w'
theorem Dies.unput {i : Nat} {o : Oper} (ho : ops[i]? = some o) (hs : ∀ cs b, o.op ≠ .select cs b) {a : Act} {d : Option Tmp} {u : Value} (hd : ∀ e, d = some e → e ∉ o.looksAt ops) {Q' : Exit → Act → World → Prop} (h : Dies P ops w i Q' (a.put d u)) : Dies P ops w i Q' a := by
  obtain ⟨o', h1, h2, h3⟩ := h
  rw [ho] at h1
  cases h1
  refine ⟨o, ho, by rw [← wanted_put (ops := ops) o a d u hd]; exact h2, fun x hx => ?_⟩
  rw [← execOp_put (ops := ops) o hs a d u hd]
  have e : (a.put d u).defers = a.defers := by cases d <;> rfl
  rw [e] at h3
  exact h3 x hx

def GameZ (P : Program) (md : Region.Mode) (ops : Array Oper) (w : World) (kd : Nat → Nat) (i : Nat) (Q' : Exit → Act → World → Prop) : Nat → Array Bool → Act → Blocks → Prop
  | 0, _, _, _ => False
  | f + 1, s, a, B => Region.ready md ops s ≠ [] ∧ ∀ j ∈ Region.ready md ops s, (j = i ∧ Dies P ops w i Q' a) ∨ (j ≠ i ∧ gOp P ops w [] kd j (GameZ P md ops w kd i Q' f (s.setIfInBounds j true)) a B)

theorem wpAny_of_gameZ {kd : Nat → Nat} {i : Nat} {Q' : Exit → Act → World → Prop} : ∀ (f : Nat) (s : Array Bool) (a : Act) (B : Blocks) (x : World), Behind w [] x → Has B x →
    GameZ P md ops w kd i Q' f s a B → wpAny P md ops Q' f s a x
  | 0, _, _, _, _, _, _, h => h.elim
  | f + 1, s, a, B, x, hx, hB, h => ⟨fun h0 => absurd h0 h.1, fun j hj => by
    rcases h.2 j hj with ⟨rfl, o, ho, hw, hd⟩ | ⟨_, hg⟩
    · unfold wpOp
      simp only [ho]
      rw [if_pos hw]
      obtain ⟨g, vs, hr, hc⟩ := hd x hx
      refine .inl ?_
      unfold Oper.wp
      rw [hr]
      simp only [Oper.upon]
      refine hc.mono ?_
      rintro e w' ⟨ps, rfl, hq⟩
      exact hq a rfl
    · exact gOp_sound hx hB (fun a' B' x' hx' hB' => wpAny_of_gameZ f _ a' B' x' hx' hB') hg⟩

theorem gameZ_first {kd : Nat → Nat} {Q' : Exit → Act → World → Prop} {i p : Nat} {op : Oper} {D : Nat → Bool} (hi : ops[p]? = some op) (hpi : p ≠ i) (hsel : ∀ (j : Nat) (o : Oper) cs b, ops[j]? = some o → o.op ≠ .select cs b) :
    ∀ (fuel : Nat) (s : Array Bool) (a : Act) (B : Blocks) (Oi : Value → Blocks → Prop),
      FreeD md ops kd p op D s →
      p ∈ Region.ready md ops s → Fin B → GStep P ops w [] op a (kd p) B Oi →
      (∀ v B', Oi v B' → GameZ P md ops w kd i Q' fuel (s.setIfInBounds p true) (a.put op.dst v) B') → (∃ v B', Oi v B') → GameZ P md ops w kd i Q' (fuel + 1) s a B := by
  intro fuel
  induction fuel with
  | zero =>
    intro s a B Oi _ _ _ _ H hne
    obtain ⟨v, B', hO⟩ := hne
    exact (H v B' hO).elim
  | succ fuel ih =>
    intro s a B Oi hfree hr hf hg H hne
    have h0 := (mem_ready.1 hr).1
    refine ⟨fun h => (by rw [h] at hr; cases hr), fun j hj => ?_⟩
    by_cases hjp : j = p
    · subst hjp
      refine .inr ⟨hpi, ?_⟩
      unfold gOp
      simp only [hi]
      exact ⟨Oi, hg, H⟩
    · obtain ⟨hjun, oj, hoj, hall⟩ := mem_ready.1 hj
      have hall' : ∀ e ∈ oj.after, Region.binds md e = true → s.getD e.on true = true := fun e he hb => getD_tt (hall e he hb)
      have hd := hfree.not h0 hoj hall'
      obtain ⟨hap, hok⟩ := hfree.ok j oj hoj hjp hjun hd
      by_cases hji : j = i
      · subst hji
        obtain ⟨v, B', hO⟩ := hne
        rcases (H v B' hO).2 j (ready_mono hj hjp) with ⟨_, hD⟩ | ⟨hn, _⟩
        · exact .inl ⟨rfl, hD.unput hoj (fun cs b => hsel j oj cs b hoj) (Oper.apart_spec hap).1⟩
        · exact absurd rfl hn
      · refine .inr ⟨hji, ?_⟩
        have h2 := gOp_put hoj hap hok (fun cs b => hsel p op cs b hi) (fun cs b => hsel j oj cs b hoj) hf hg (fun v B1 hO => by
          rcases (H v B1 hO).2 j (ready_mono hj hjp) with ⟨e, _⟩ | ⟨_, hg⟩
          · exact absurd e hji
          · exact hg)
        refine gOp_mono (fun a' B' h3 => ?_) h2
        obtain ⟨hf', Oi', hg', hK⟩ := h3
        refine ih (s.setIfInBounds j true) a' B' Oi' (hfree.set hjun hd) (ready_mono hr (Ne.symm hjp)) hf' hg' (fun v B2 hO => ?_) (hg'.inhab hf')
        rw [Array.setIfInBounds_comm _ _ hjp]; exact hK v B2 hO

def dieL (md : Region.Mode) (ops : Array Oper) (kd : Nat → Nat) : Nat → Nat → Array Bool → Bool
  | 0, k, s => Region.ready md ops s == [k]
  | f + 1, k, s => (Region.ready md ops s).contains k && freeG md ops kd s k && dieL md ops kd f (k + 1) (s.setIfInBounds k true)
def dieB (md : Region.Mode) (ops : Array Oper) (kinds : List Nat) (i : Nat) : Bool := Region.noSelect ops && decide (i < ops.size) && dieL md ops (fun k => kinds.getD k 0) i 0 (Array.replicate ops.size false)
theorem gameZ_lex {kd : Nat → Nat} {i : Nat} {Q' : Exit → Act → World → Prop} (hs : Region.noSelect ops = true) : ∀ (l : List Oper) (k : Nat) (s : Array Bool) (a : Act) (B : Blocks) (f : Nat), (∀ j, j < l.length → l[j]? = ops[k + j]?) → k + l.length = i → l.length < f → Fin B →
    dieL md ops kd l.length k s = true → wpLex P ops w [] kd (fun a' _ => Dies P ops w i Q' a') l k a B → GameZ P md ops w kd i Q' f s a B
  | [], k, s, a, B, f, _, hk, hlf, _, hB, h => by
    obtain ⟨g, rfl⟩ : ∃ g, f = g + 1 := ⟨f - 1, by simp at hlf; omega⟩
    have e : Region.ready md ops s = [k] := by simpa [dieL] using hB
    have hki : k = i := by simpa using hk
    subst hki
    refine ⟨by rw [e]; simp, fun j hj => ?_⟩
    rw [e, List.mem_singleton] at hj
    exact .inl ⟨hj, h⟩
  | o :: l, k, s, a, B, f, hl, hk, hlf, hf, hB, h => by
    obtain ⟨g, rfl⟩ : ∃ g, f = g + 1 := ⟨f - 1, by omega⟩
    have h0 : ops[k]? = some o := by simpa using (hl 0 (by simp)).symm
    simp only [List.length_cons, dieL, Bool.and_eq_true] at hB
    obtain ⟨O, hg, hK⟩ := h
    exact gameZ_first h0 (by simp at hk; omega) (Region.noSelect_spec hs) g s a B O (freeG_spec h0 hB.1.2) (by simpa using hB.1.1) hf hg
      (fun v B' hO => gameZ_lex hs l (k + 1) _ _ B' g (fun j hj => by have := hl (j + 1) (by simp; omega); simpa [Nat.add_assoc, Nat.add_comm 1 j] using this) (by simp at hk; omega) (by simp at hlf; omega) (hg.fin hf v B' hO) hB.2 (hK v B' hO)) (hg.inhab hf)
theorem wp_dies {id : Nat} {Q : Exit → Act → World → Prop} {a : Act} {l : List Oper} (kinds : List Nat) (i : Nat) (hm : P.follows .mixedOrders = true) (hc : dieB .any l.toArray kinds i = true)
    (h : wpLex P l.toArray w [] (fun k => kinds.getD k 0) (fun a' _ => Dies P l.toArray w i Q a') (l.take i) 0 a B0) : (Code.region id l.toArray true).wp P Q a w := by
  simp only [dieB, Bool.and_eq_true, decide_eq_true_eq] at hc
  have hil : i < l.length := by simpa using hc.1.2
  have hlen : (l.take i).length = i := by rw [List.length_take]; omega
  refine wp_region_any hm (wpAny_of_gameZ (w := w) (kd := fun k => kinds.getD k 0) (i := i) _ _ _ B0 _ (Behind.drew w []) (has_B0 _) ?_)
  refine gameZ_lex (md := .any) hc.1.1 (l.take i) 0 (Array.replicate l.toArray.size false) a B0 _ (fun j hj => ?_) (by omega) (by simp; omega) fin_B0 (by rw [hlen]; simpa using hc.2) h
  rw [List.getElem?_take, if_pos (by omega)]
  simp
end
end Go.Proofs.YtmaiofimmjedjaaDoor

/- A region that draws its order: some quiet operations, and others whose order is fixed. -/
namespace Go.Proofs.YtmaiofimmjedjaaDoor
open Go.RowKit

section
variable {P : Program} {ops : Array Oper} {md : Region.Mode} {C : World → Prop} {Q : Exit → Act → World → Prop}

def QuietC (P : Program) (ops : Array Oper) (C : World → Prop) (o : Oper) (v : Value) (a : Act) : Prop :=
  Region.wanted o (yielded ops a.tmps) = true ∧ ∀ x, C x → (execOp a.eval o).run P x = .ok (.value v) x
theorem QuietC.of_same {o : Oper} {v : Value} {a a' : Act} (hy : QuietC P ops C o v a) (he : execOp a'.eval o = execOp a.eval o)
    (hw : Region.wanted o (yielded ops a'.tmps) = Region.wanted o (yielded ops a.tmps)) : QuietC P ops C o v a' := by
  unfold QuietC at *
  rw [he, hw]
  exact hy
theorem wpOpC_put {j : Nat} {oi oj : Oper} {v : Value} (hj : ops[j]? = some oj) (hap : oi.apart ops oj = true)
    (hsi : ∀ cs b, oi.op ≠ .select cs b) (hsj : ∀ cs b, oj.op ≠ .select cs b)
    (hQ : ∀ c a w, Q (.panic c) (a.put oi.dst v) w → Q (.panic c) a w) {K : Act → World → Prop} {a : Act} {w : World}
    (hy : QuietC P ops C oi v a) (h : wpOp P ops Q j K (a.put oi.dst v) w) :
    wpOp P ops Q j (fun a' w' => QuietC P ops C oi v a' ∧ K (a'.put oi.dst v) w') a w := by
  obtain ⟨h1, h2, h3⟩ := Oper.apart_spec hap
  have keep : ∀ (a : Act), QuietC P ops C oi v a → ∀ u, QuietC P ops C oi v (a.put oj.dst u) := fun a hy u =>
    hy.of_same (execOp_put oi hsi a oj.dst u h3) (wanted_put oi a oj.dst u h3)
  have keepD : ∀ d, QuietC P ops C oi v { a with defers := d :: a.defers } := fun d => hy.of_same rfl rfl
  unfold wpOp at *
  simp only [hj] at *
  rw [wanted_put oj a oi.dst v h1] at h
  split
  · rename_i hw
    simp only [hw, if_true] at h
    rcases h with h | ⟨hasks, hlets⟩
    case inr => exact .inr ⟨by unfold Oper.asks at *; rw [execOp_put oj hsj a oi.dst v h1] at hasks; exact hasks, hlets⟩
    refine .inl ?_
    unfold Oper.wp at *
    rw [execOp_put oj hsj a oi.dst v h1] at h
    generalize (execOp a.eval oj).run P w = r at *
    cases r with
    | ok n w' =>
      cases n <;> simp only [Oper.upon] at h ⊢
      case value u => exact ⟨keep a hy u, by rw [← Act.put_comm a v u h2]; exact h⟩
      case skip => exact ⟨keep a hy _, by rw [← Act.put_comm a v undef h2]; exact h⟩
      case defer d =>
        refine ⟨keep _ (keepD d) _, ?_⟩
        rw [← Act.put_comm _ v undef h2, ← Act.put_defers]
        exact h
      case enter f args =>
        refine Calls.mono h fun e w'' he => ?_
        cases e with
        | returned u => exact ⟨keep a hy u, by rw [← Act.put_comm a v u h2]; exact he⟩
        | panicked c => exact hQ _ _ _ he
        | outgrown => exact he
      case row row args => exact Rows.mono h fun u w'' he => ⟨keep a hy u, by rw [← Act.put_comm a v u h2]; exact he⟩
    | halt x w' =>
      cases x <;> simp only [Oper.upon] at h ⊢
      case panic u => exact hQ _ _ _ h
  · rename_i hw
    simp only [hw] at h
    exact ⟨keep a hy _, by rw [← Act.put_comm a v undef h2]; exact h⟩

def wpAnyC (P : Program) (md : Region.Mode) (ops : Array Oper) (C : World → Prop) (Q : Exit → Act → World → Prop) : Nat → Array Bool → Act → World → Prop
  | 0, s, a, x => (s.getD (ops.size - 1) true = false → C x) ∧ Region.ready md ops s = [] ∧ Q .normal a x
  | f + 1, s, a, x => (s.getD (ops.size - 1) true = false → C x) ∧ (Region.ready md ops s = [] → Q .normal a x) ∧ ∀ i ∈ Region.ready md ops s, wpOp P ops Q i (wpAnyC P md ops C Q f (s.setIfInBounds i true)) a x
theorem wpAny_of_C : ∀ (f : Nat) (s : Array Bool) (a : Act) (x : World), wpAnyC P md ops C Q f s a x → wpAny P md ops Q f s a x
  | 0, _, _, _, h => h.2
  | f + 1, _, _, _, h => ⟨h.2.1, fun i hi => wpOp_mono (fun a' x' h' => wpAny_of_C f _ a' x' h') (h.2.2 i hi)⟩
theorem QuietC.wpOp {i : Nat} {o : Oper} {v : Value} {a : Act} (hi : ops[i]? = some o) (hy : QuietC P ops C o v a) {K : Act → World → Prop} {w : World} (hC : C w) (h : K (a.put o.dst v) w) : wpOp P ops Q i K a w := by
  unfold Go.wpOp
  simp only [hi]
  rw [if_pos hy.1]
  refine .inl ?_
  unfold Oper.wp
  rw [hy.2 w hC]
  exact h
theorem wpAnyC_first {i : Nat} {oi : Oper} {v : Value} (hi : ops[i]? = some oi) (hsel : ∀ (j : Nat) (o : Oper) cs b, ops[j]? = some o → o.op ≠ .select cs b)
    (hQ : ∀ c a w, Q (.panic c) (a.put oi.dst v) w → Q (.panic c) a w) (hil : i ≠ ops.size - 1) (hlast : ∃ o, ops[ops.size - 1]? = some o ∧ ∃ e ∈ o.after, Region.binds md e = true ∧ e.on = i) :
    ∀ (fuel : Nat) (listed : Array Bool) (a : Act) (w : World), listed.getD (ops.size - 1) true = false →
      (∀ j oj, ops[j]? = some oj → j ≠ i → listed.getD j true = false → (∀ e ∈ oj.after, Region.binds md e = true → e.on ≠ i) → oi.apart ops oj = true) →
      i ∈ Region.ready md ops listed → QuietC P ops C oi v a →
      wpAnyC P md ops C Q fuel (listed.setIfInBounds i true) (a.put oi.dst v) w → wpAnyC P md ops C Q (fuel + 1) listed a w := by
  intro fuel
  induction fuel with
  | zero =>
    intro listed a w hl _ hr hy H
    have hC : C w := H.1 (by rw [getD_set_ne true hil]; exact hl)
    refine ⟨fun _ => hC, fun h => (by rw [h] at hr; cases hr), fun j hj => ?_⟩
    by_cases hji : j = i
    · subst hji; exact hy.wpOp hi hC H
    · have := ready_mono hj hji
      rw [H.2.1] at this
      cases this
  | succ fuel ih =>
    intro listed a w hl hfree hr hy H
    have hC : C w := H.1 (by rw [getD_set_ne true hil]; exact hl)
    refine ⟨fun _ => hC, fun h => (by rw [h] at hr; cases hr), fun j hj => ?_⟩
    by_cases hji : j = i
    · subst hji; exact hy.wpOp hi hC H
    · have h1 := H.2.2 j (ready_mono hj hji)
      obtain ⟨hjun, oj, hoj, hall⟩ := mem_ready.1 hj
      have hnot : ∀ e ∈ oj.after, Region.binds md e = true → e.on ≠ i := fun e he hb heq => by
        have h1 := hall e he hb
        have h0 := (mem_ready.1 hr).1
        rw [heq] at h1
        rcases Nat.lt_or_ge i listed.size with h' | h'
        · simp [h'] at h0 h1; rw [h0] at h1; cases h1
        · simp [Array.getElem?_eq_none h'] at h1
      have h2 := wpOpC_put hoj (hfree j oj hoj hji hjun hnot) (fun cs b => hsel i oi cs b hi) (fun cs b => hsel j oj cs b hoj) hQ hy h1
      have hfree' : ∀ k ok, ops[k]? = some ok → k ≠ i → (listed.setIfInBounds j true).getD k true = false →
          (∀ e ∈ ok.after, Region.binds md e = true → e.on ≠ i) → oi.apart ops ok = true := fun k ok hk hki hun hno => by
        refine hfree k ok hk hki ?_ hno
        by_cases hjk : j = k
        · subst hjk; exact hjun
        · rw [getD_set_ne true hjk] at hun; exact hun
      have hjl : j ≠ ops.size - 1 := fun e => by
        obtain ⟨ol, hol, ed, he, hb, hon⟩ := hlast
        rw [e, hol] at hoj
        cases hoj
        exact hnot ed he hb hon
      refine wpOp_mono (fun a' w' h3 => ih (listed.setIfInBounds j true) a' w' (by rw [getD_set_ne true hjl]; exact hl) hfree' (ready_mono hr (Ne.symm hji)) h3.1 ?_) h2
      rw [Array.setIfInBounds_comm _ _ hji]
      exact h3.2

def SeqW (P : Program) (ops : Array Oper) (C : World → Prop) (Q : Exit → Act → World → Prop) : List Oper → Nat → Act → World → Prop
  | [], _, a, x => Q .normal a x
  | _ :: rest, k, a, x => C x ∧ wpOp P ops Q k (SeqW P ops C Q rest (k + 1)) a x
def QL (P : Program) (ops : Array Oper) (C : World → Prop) : List Oper → Act → (Act → Prop) → Prop
  | [], a, K => K a
  | o :: rest, a, K => ∃ v, QuietC P ops C o v a ∧ QL P ops C rest (a.put o.dst v) K
def sqB (md : Region.Mode) (ops : Array Oper) : Nat → Nat → Array Bool → Bool
  | 0, _, s => (Region.ready md ops s).isEmpty && s.getD (ops.size - 1) true
  | m + 1, k, s => Region.ready md ops s == [k] && sqB md ops m (k + 1) (s.setIfInBounds k true)
def tiedB (md : Region.Mode) (ops : Array Oper) (i : Nat) : Bool := match ops[ops.size - 1]? with
  | some o => o.after.toList.any fun e => Region.binds md e && e.on == i
  | none => false
theorem tiedB_spec {md : Region.Mode} {ops : Array Oper} {i : Nat} (h : tiedB md ops i = true) : ∃ o, ops[ops.size - 1]? = some o ∧ ∃ e ∈ o.after, Region.binds md e = true ∧ e.on = i := by
  unfold tiedB at h
  split at h
  · rename_i o ho
    simp only [List.any_eq_true, Bool.and_eq_true, beq_iff_eq] at h
    obtain ⟨e, he, h1, h2⟩ := h
    exact ⟨o, ho, e, by simpa using he, h1, h2⟩
  · cases h
def preB (md : Region.Mode) (ops : Array Oper) : Nat → Nat → Array Bool → Bool
  | 0, k, s => sqB md ops (ops.size - k) k s
  | n + 1, k, s => (Region.ready md ops s).contains k && Region.free md ops s k && decide (k ≠ ops.size - 1) && tiedB md ops k && preB md ops n (k + 1) (s.setIfInBounds k true)
def seqB (md : Region.Mode) (ops : Array Oper) (n : Nat) : Bool := Region.noSelect ops && decide (n ≤ ops.size) && preB md ops n 0 (Array.replicate ops.size false)
theorem anyC_seq : ∀ (m k : Nat) (l : List Oper) (s : Array Bool) (a : Act) (x : World), l.length = m → sqB md ops m k s = true → SeqW P ops C Q l k a x → wpAnyC P md ops C Q m s a x
  | 0, k, l, s, a, x, hl, hB, h => by
    cases l with
    | nil =>
      simp only [sqB, Bool.and_eq_true] at hB
      exact ⟨fun h0 => absurd (hB.2.symm.trans h0) (by simp), by simpa using hB.1, h⟩
    | cons => simp at hl
  | m + 1, k, l, s, a, x, hl, hB, h => by
    cases l with
    | nil => simp at hl
    | cons o l =>
      simp only [sqB, Bool.and_eq_true, beq_iff_eq] at hB
      show (s.getD (ops.size - 1) true = false → C x) ∧ (Region.ready md ops s = [] → Q .normal a x) ∧ ∀ i ∈ Region.ready md ops s, wpOp P ops Q i (wpAnyC P md ops C Q m (s.setIfInBounds i true)) a x
      refine ⟨fun _ => h.1, fun h0 => absurd (hB.1.symm.trans h0) (by simp), fun i hi => ?_⟩
      rw [hB.1, List.mem_singleton] at hi
      subst hi
      exact wpOp_mono (fun a' x' h' => anyC_seq m (i + 1) l _ a' x' (by simpa using hl) hB.2 h') h.2
theorem anyC_pre (hs : Region.noSelect ops = true) (hQ : ∀ c d v a w, Q (.panic c) (Act.put a d v) w → Q (.panic c) a w) : ∀ (n k : Nat) (l1 l2 : List Oper) (s : Array Bool) (a : Act) (x : World), l1.length = n → (∀ j, j < l1.length → l1[j]? = ops[k + j]?) → l2.length = ops.size - (k + n) → preB md ops n k s = true → (0 < n → s.getD (ops.size - 1) true = false) →
    QL P ops C l1 a (fun a' => SeqW P ops C Q l2 (k + n) a' x) → wpAnyC P md ops C Q (n + (ops.size - (k + n))) s a x
  | 0, k, l1, l2, s, a, x, h1, _, h2, hB, _, h => by
    cases l1 with
    | nil =>
      rw [Nat.zero_add]
      rw [Nat.add_zero] at h2 h ⊢
      exact anyC_seq _ k l2 s a x h2 hB h
    | cons => simp at h1
  | n + 1, k, l1, l2, s, a, x, h1, hl, h2, hB, hs0, h => by
    cases l1 with
    | nil => simp at h1
    | cons o l1 =>
      simp only [preB, Bool.and_eq_true, decide_eq_true_eq] at hB
      have h0 : ops[k]? = some o := by simpa using (hl 0 (by simp)).symm
      obtain ⟨v, hq, hr⟩ := h
      rw [show n + 1 + (ops.size - (k + (n + 1))) = (n + (ops.size - (k + 1 + n))) + 1 by omega]
      refine wpAnyC_first h0 (Region.noSelect_spec hs) (fun c a w => hQ c o.dst v a w) hB.1.1.2 (tiedB_spec hB.1.2) _ s a x (hs0 (by omega)) (Region.free_spec h0 hB.1.1.1.2) (by simpa using hB.1.1.1.1) hq ?_
      refine anyC_pre hs hQ n (k + 1) l1 l2 _ _ x (by simpa using h1) (fun j hj => ?_) (by omega) hB.2 (fun _ => by rw [getD_set_ne true hB.1.1.2]; exact hs0 (by omega)) (by rw [show k + 1 + n = k + (n + 1) by omega]; exact hr)
      have := hl (j + 1) (by simp; omega)
      simpa [Nat.add_assoc, Nat.add_comm 1 j] using this
theorem wp_seq {id : Nat} {a : Act} {l : List Oper} {w : World} (n : Nat) (C : World → Prop) (hm : P.follows .mixedOrders = true) (hc : seqB .any l.toArray n = true) (hQ : ∀ c d v a w, Q (.panic c) (Act.put a d v) w → Q (.panic c) a w)
    (h : ∀ x, Behind w [] x → QL P l.toArray C (l.take n) a (fun a' => SeqW P l.toArray C Q (l.drop n) n a' x)) : (Code.region id l.toArray true).wp P Q a w := by
  simp only [seqB, Bool.and_eq_true, decide_eq_true_eq] at hc
  have hn : n ≤ l.length := by simpa using hc.1.2
  refine wp_region_any hm (wpAny_of_C (C := C) _ _ _ _ ?_)
  have := anyC_pre (P := P) (C := C) (Q := Q) (md := .any) hc.1.1 hQ n 0 (l.take n) (l.drop n) (Array.replicate l.toArray.size false) a (World.drew w) (by rw [List.length_take]; omega) (fun j hj => by
    rw [List.length_take] at hj
    rw [List.getElem?_take, if_pos (by omega)]; simp) (by simp) hc.2 (fun h0 => by rw [Array.getD_eq_getD_getElem?, Array.getElem?_replicate, if_pos (by have := hc.1.2; simp at this ⊢; omega)]; rfl) (by rw [Nat.zero_add]; exact h _ (Behind.drew w []))
  rw [Nat.zero_add] at this
  have e : n + (l.toArray.size - n) = l.toArray.size := by simp; omega
  rw [e] at this
  exact this

def SQ (P : Program) (ops : Array Oper) (C : World → Prop) (Q : Exit → Act → World → Prop) (rest : List Oper) (k : Nat) : Exit → Act → World → Prop
  | .normal, a, x => SeqW P ops C Q rest k a x
  | e, a, x => Q e a x
theorem SQ.done {k : Nat} {a : Act} {x : World} (h : Q .normal a x) : SQ P ops C Q [] k .normal a x := h
theorem SeqW.step {o : Oper} {rest : List Oper} {k : Nat} {a : Act} {x : World} (hk : ops[k]? = some o) (hC : C x) (h : wpList P ops (SQ P ops C Q rest (k + 1)) [o] a x) : SeqW P ops C Q (o :: rest) k a x := by
  refine ⟨hC, ?_⟩
  unfold wpOp
  simp only [hk]
  simp only [wpList] at h
  split
  · rename_i hw
    rw [if_pos hw] at h
    rcases h with h | ⟨h1, h2⟩
    · refine .inl ?_
      unfold Oper.wp at *
      generalize (execOp a.eval o).run P x = r at *
      cases r with
      | ok n w' =>
        cases n <;> simp only [Oper.upon] at h ⊢
        case enter f args =>
          refine Calls.mono h fun e w'' he => ?_
          cases e with
          | returned u => exact he
          | panicked c => exact he
          | outgrown => exact he
        all_goals exact h
      | halt y w' =>
        cases y <;> simp only [Oper.upon] at h ⊢
        case panic u => exact h
    · exact .inr ⟨h1, h2⟩
  · rename_i hw
    rw [if_neg hw] at h
    exact h
end
end Go.Proofs.YtmaiofimmjedjaaDoor

/- The game with calls that write blocks of a list and hand back whatever. -/
namespace Go.Proofs.YtmaiofimmjedjaaDoor
open Go.RowKit

def Blocks.over (B Bn : Blocks) : Blocks := fun k => (Bn k).or (B k)
theorem Blocks.over_some {B Bn : Blocks} {k : Nat} {o : Obj} (h : Bn k = some o) : B.over Bn k = some o := by unfold Blocks.over; rw [h]; rfl
theorem Blocks.over_none {B Bn : Blocks} {k : Nat} (h : Bn k = none) : B.over Bn k = B k := by unfold Blocks.over; rw [h]; rfl
theorem Fin.over {B Bn : Blocks} (h : Fin B) (hn : Fin Bn) : Fin (B.over Bn) := by
  obtain ⟨N, hN⟩ := h
  obtain ⟨M, hM⟩ := hn
  exact ⟨max N M, fun b hb => by rw [Blocks.over_none (hM b (by omega))]; exact hN b (by omega)⟩
def manyUpon (P : Program) (R : Value → Blocks → Prop) (Wr : List Nat) (x : World) : Result Next → Prop
  | .ok (.enter f args) x' => x' = x ∧ Calls P f args x fun e w' => ∃ v Bn, e = .returned v ∧ R v Bn ∧ Fin Bn ∧ Has Bn w' ∧ Behind x Wr w' ∧ (∀ g o, Bn g = some o → g ∈ Wr ∨ x.heap.size ≤ g) ∧ (∀ g ∈ Wr, Bn g ≠ none)
  | _ => False

section
variable {P : Program} {ops : Array Oper} {md : Region.Mode} {w : World} {Wr : List Nat}

inductive MStep (P : Program) (ops : Array Oper) (w : World) (Wr : List Nat) (o : Oper) (a : Act) : Nat → Blocks → (Value → Blocks → Prop) → Prop
  | old (k : Nat) (B : Blocks) (O : Value → Blocks → Prop) : k ≠ 6 → GStep P ops w Wr o a k B O → MStep P ops w Wr o a k B O
  | many (B : Blocks) (R : Value → Blocks → Prop) : Region.wanted o (yielded ops a.tmps) = true → (∀ g ∈ Wr, g < w.heap.size) →
      (∀ x, Behind w Wr x → Has B x → manyUpon P R Wr x ((execOp a.eval o).run P x)) → (∀ N, ∃ v Bn, R v Bn ∧ Fin Bn ∧ ∀ g o, Bn g = some o → g ∈ Wr ∨ N ≤ g) →
      MStep P ops w Wr o a 6 B fun v B' => ∃ Bn, R v Bn ∧ Fin Bn ∧ (∀ g o, Bn g = some o → g ∈ Wr ∨ (w.heap.size ≤ g ∧ B g = none)) ∧ B' = B.over Bn

theorem MStep.sound {o : Oper} {a : Act} {k : Nat} {B : Blocks} {O : Value → Blocks → Prop} (hg : MStep P ops w Wr o a k B O) {K' : Act → World → Prop} {Q' : Exit → Act → World → Prop} {x : World} (hx : Behind w Wr x) (hB : Has B x)
    (h : ∀ v B' x', Behind w Wr x' → Has B' x' → O v B' → K' (a.put o.dst v) x') : if Region.wanted o (yielded ops a.tmps) then o.wp P a x K' Q' ∨ (o.asks P a x ∧ LetsOut Q') else K' (a.put o.dst undef) x := by
  cases hg with
  | old _ _ _ _ hg => exact hg.sound hx hB h
  | many _ R hw hWr hq _ =>
    rw [if_pos hw]
    refine .inl ?_
    have := hq _ hx hB
    unfold Oper.wp
    generalize (execOp a.eval o).run P x = r at *
    cases r with
    | ok n w2 =>
      cases n <;> simp only [manyUpon] at this
      simp only [Oper.upon]
      rw [this.1]
      refine this.2.mono fun e w3 ⟨v, Bn, h1, h2, h3, h4, h5, h6, h7⟩ => ?_
      subst h1
      refine h v (B.over Bn) w3 ⟨h5.os.trans hx.os, h5.tape.trans hx.tape, h5.output.trans hx.output, Nat.le_trans hx.size h5.size, fun k hk hn => (h5.block k (Nat.lt_of_lt_of_le hk hx.size) hn).trans (hx.block k hk hn)⟩ (fun k o hk => ?_) ⟨Bn, h2, h3, fun g o hg => ?_, rfl⟩
      · cases hb : Bn k with
        | some o' =>
          rw [Blocks.over_some hb] at hk
          cases hk
          exact h4 k _ hb
        | none =>
          rw [Blocks.over_none hb] at hk
          have h9 := hB k o hk
          rw [h5.block k (lt_of_heap h9) (fun hm => h7 k hm hb)]
          exact h9
      · refine (h6 g o hg).imp id fun h8 => ⟨Nat.le_trans hx.size h8, hB.none h8⟩
    | halt y w2 => simp only [manyUpon] at this

theorem MStep.put {o : Oper} (hs : ∀ cs b, o.op ≠ .select cs b) {a : Act} {d : Option Tmp} {u : Value} (hd : ∀ e, d = some e → e ∉ o.looksAt ops) {k : Nat} {B : Blocks} {O : Value → Blocks → Prop}
    (h : MStep P ops w Wr o a k B O) : MStep P ops w Wr o (a.put d u) k B O := by
  have hw := wanted_put (ops := ops) o a d u hd
  have he := execOp_put (ops := ops) o hs a d u hd
  cases h with
  | old _ _ _ hk h => exact .old _ _ _ hk (h.put hs hd)
  | many _ R h1 h2 h3 h4 => exact .many _ R (hw.trans h1) h2 (fun x hx hB => by rw [he]; exact h3 x hx hB) h4
theorem MStep.unput {o : Oper} (hs : ∀ cs b, o.op ≠ .select cs b) {a : Act} {d : Option Tmp} {u : Value} (hd : ∀ e, d = some e → e ∉ o.looksAt ops) {k : Nat} {B : Blocks} {O : Value → Blocks → Prop}
    (h : MStep P ops w Wr o (a.put d u) k B O) : MStep P ops w Wr o a k B O := by
  have hw := wanted_put (ops := ops) o a d u hd
  have he := execOp_put (ops := ops) o hs a d u hd
  cases h with
  | old _ _ _ hk h => exact .old _ _ _ hk (h.unput hs hd)
  | many _ R h1 h2 h3 h4 => exact .many _ R (hw.symm.trans h1) h2 (fun x hx hB => by rw [← he]; exact h3 x hx hB) h4
theorem MStep.fin {o : Oper} {a : Act} {k : Nat} {B : Blocks} {O : Value → Blocks → Prop} (h : MStep P ops w Wr o a k B O) (hf : Fin B) (v : Value) (B' : Blocks) (hO : O v B') : Fin B' := by
  cases h with
  | old _ _ _ _ h => exact h.fin hf v B' hO
  | many => obtain ⟨Bn, _, hn, _, rfl⟩ := hO; exact hf.over hn
theorem many_some {B : Blocks} {R : Value → Blocks → Prop} (hf : Fin B) (hne : ∀ N, ∃ v Bn, R v Bn ∧ Fin Bn ∧ ∀ g o, Bn g = some o → g ∈ Wr ∨ N ≤ g) (m : Nat) : ∃ v Bn, R v Bn ∧ Fin Bn ∧ ∀ g o, Bn g = some o → g ∈ Wr ∨ (m ≤ g ∧ B g = none) := by
  obtain ⟨N, hN⟩ := hf
  obtain ⟨v, Bn, h1, h2, h3⟩ := hne (max N m)
  exact ⟨v, Bn, h1, h2, fun g o hg => (h3 g o hg).imp id fun h => ⟨by omega, hN _ (by omega)⟩⟩
theorem MStep.inhab {o : Oper} {a : Act} {k : Nat} {B : Blocks} {O : Value → Blocks → Prop} (h : MStep P ops w Wr o a k B O) (hf : Fin B) : ∃ v B', O v B' := by
  cases h with
  | old _ _ _ _ h => exact h.inhab hf
  | many _ R _ _ _ hne =>
    obtain ⟨v, Bn, h1, h2, h3⟩ := many_some hf hne w.heap.size
    exact ⟨v, _, Bn, h1, h2, h3, rfl⟩
def okPairM (ki kj : Nat) (oj : Oper) : Bool :=
  if ki == 6 then kj == 3 || (kj == 0 && plainOp oj) else if kj == 6 then ki == 0 else okPair ki kj oj

structure FreeM (md : Region.Mode) (ops : Array Oper) (kd : Nat → Nat) (i : Nat) (oi : Oper) (D : Nat → Bool) (s : Array Bool) : Prop where
  dep : ∀ j oj, ops[j]? = some oj → D j = true → ∃ e ∈ oj.after, Region.binds md e = true ∧ (e.on = i ∨ D e.on = true)
  un : ∀ j, D j = true → s.getD j true = false
  ok : ∀ j oj, ops[j]? = some oj → j ≠ i → s.getD j true = false → D j = false → oi.apart ops oj = true ∧ okPairM (kd i) (kd j) oj = true

theorem FreeM.not {kd : Nat → Nat} {i j : Nat} {oi oj : Oper} {D : Nat → Bool} {s : Array Bool} (h : FreeM md ops kd i oi D s) (hun : s.getD i true = false) (hj : ops[j]? = some oj)
    (hall : ∀ e ∈ oj.after, Region.binds md e = true → s.getD e.on true = true) : D j = false := by
  rw [Bool.eq_false_iff]
  intro hd
  obtain ⟨e, he, hb, h1 | h1⟩ := h.dep j oj hj hd
  · have := hall e he hb
    rw [h1, hun] at this; cases this
  · have := hall e he hb
    rw [h.un _ h1] at this; cases this

theorem FreeM.set {kd : Nat → Nat} {i j : Nat} {oi : Oper} {D : Nat → Bool} {s : Array Bool} (h : FreeM md ops kd i oi D s) (hjun : s.getD j true = false) (hd : D j = false) : FreeM md ops kd i oi D (s.setIfInBounds j true) where
  dep := h.dep
  un := fun k hk => by
    have : j ≠ k := fun e => by subst e; rw [hd] at hk; cases hk
    rw [getD_set_ne true this]; exact h.un k hk
  ok := fun k ok hk hki hu hno => h.ok k ok hk hki (by
    by_cases hjk : j = k
    · subst hjk; exact hjun
    · rwa [getD_set_ne true hjk] at hu) hno

end
end Go.Proofs.YtmaiofimmjedjaaDoor
