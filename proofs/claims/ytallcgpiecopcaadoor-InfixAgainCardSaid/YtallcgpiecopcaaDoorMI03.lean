/- Texts of this claim, joined: Game2, Game3, Game4, GD. -/
import Derived.Test.YtallcgpiecopcaaDoorMI02
import Derived.Deep.MidRow
import Derived.Laws.Append
import Derived.Laws.AppendOwn

/- The game's steps for boxes and whole stores; what is known of blocks. -/
namespace Go.Proofs.YtallcgpiecopcaaDoor
open Go.RowKit

section
variable {P : Program} {ops : Array Oper} {w : World} {Wr : List Nat}

theorem wrote_cells {b : Nat} {T : TypeId} : ∀ (vs : List Value) (o : Nat) (x : World) (xs : Array Value), x.heap[b]? = some (.cells xs T (0, 0)) → o + vs.length ≤ xs.size →
    ∃ ys : Array Value, Wrote b (.cells ys T (0, 0)) x (x.setCells b o vs) ∧ ys.size = xs.size ∧ (∀ i, i < o → ys[i]? = xs[i]?) ∧ (∀ i, i < vs.length → ys[o + i]? = vs[i]?) ∧ (∀ i, o + vs.length ≤ i → ys[i]? = xs[i]?)
  | [], o, x, xs, h, _ => ⟨xs, ⟨rfl, rfl, rfl, Nat.le_refl _, h, fun _ _ _ => rfl⟩, rfl, fun _ _ => rfl, fun i hi => by simp at hi, fun _ _ => rfl⟩
  | v :: r, o, x, xs, h, hl => by
    simp only [List.length_cons] at hl
    have hw := wrote_cell (o := o) v h
    obtain ⟨ys, h1, h2, h3, h4, h5⟩ := wrote_cells r (o + 1) (x.setCell ⟨b, o, none⟩ v) _ hw.here (by simp; omega)
    refine ⟨ys, ⟨h1.os.trans hw.os, h1.tape.trans hw.tape, h1.output.trans hw.output, Nat.le_trans hw.size h1.size, h1.here, fun k hl hk => (h1.block k (Nat.lt_of_lt_of_le hl hw.size) hk).trans (hw.block k hl hk)⟩, by rw [h2]; simp, fun i hi => ?_, fun i hi => ?_, fun i hi => ?_⟩
    · rw [h3 i (by omega), Array.getElem?_setIfInBounds_ne (by omega)]
    · cases i with
      | zero => rw [Nat.add_zero, h3 o (by omega), Array.getElem?_setIfInBounds_self_of_lt (by omega)]; rfl
      | succ i => rw [show o + (i + 1) = o + 1 + i by omega, h4 i (by simp at hi; omega)]; rfl
    · simp only [List.length_cons] at hi
      rw [h5 i (by omega), Array.getElem?_setIfInBounds_ne (by omega)]

theorem there_of_block {x : World} {b : Nat} {xs : Array Value} {T : TypeId} (h : x.heap[b]? = some (.cells xs T (0, 0))) (o n : Nat) (hn : o + n ≤ xs.size) : x.there b o n := fun j hj => by
  refine ⟨?_, frozen_of_row x b (o + j) xs T h⟩
  rw [cell_of_row x b (o + j) xs T (0, 0) h, Array.getElem?_eq_getElem (by omega)]; rfl

theorem lex_store_all {kd : Nat → Nat} {Q : Act → Blocks → Prop} {B : Blocks} {rest : List Oper} {k : Nat} {T ty : TypeId} {p v : Operand} {pos : String} {after : Array Edge} {a : Act} (b : Nat) (cs : Array Value) (xs : Array Value) (E : TypeId) (hk : kd k = 2) (hp : a.eval p = .pointer (some ⟨b, 0, none⟩)) (hv : a.eval v = .agg cs)
    (hB : B b = some (.cells xs E (0, 0))) (hsz : xs.size = cs.size) (hW : b ∈ Wr ∨ w.heap.size ≤ b) (hi : (P.info? T).map (·.size) = some cs.size) (h1 : cs.all (·.oneCell') = true)
    (h : wpLex P ops w Wr kd Q rest (k + 1) a (B.put b (.cells cs E (0, 0)))) :
    wpLex P ops w Wr kd Q (⟨none, .store T p v, ty, pos, after, none⟩ :: rest) k a B := by
  refine lex_store b (.cells cs E (0, 0)) hk (by rw [hB]; rfl) hW (fun x hx => ?_) h
  have hb := hx b _ hB
  obtain ⟨ys, g1, g2, _, g4, _⟩ := wrote_cells cs.toList 0 x xs hb (by simp; omega)
  have e : ys = cs := by
    apply Array.ext_getElem?
    intro i
    by_cases hi : i < cs.size
    · have := g4 i (by simpa using hi)
      rw [Nat.zero_add] at this
      rw [this]; simp
    · rw [Array.getElem?_eq_none (by omega), Array.getElem?_eq_none (by omega)]
  subst e
  have hrun : (execOp a.eval ⟨none, .store T p v, ty, pos, after, none⟩).run P x = .ok .skip (x.setCells b 0 ys.toList) := by
    have := run_storeAt_mid (P := P) x b 0 T ys (there_of_block hb 0 _ (by omega)) hi h1
    simp only [execOp, hp, hv]
    simp [this]
  rw [hrun]
  exact ⟨rfl, g1⟩

/-! ### What is known of blocks -/

theorem blk_cell {x : World} {g : Nat} {cs : Array Value} {T : TypeId} (h : x.heap[g]? = some (.cells cs T (0, 0))) (i : Nat) {v : Value} (hv : cs[i]? = some v) : x.cell? ⟨g, i, none⟩ = some v := by
  rw [cell_of_row x g i cs T (0, 0) h, hv]
theorem blk_free {x : World} {g : Nat} {cs : Array Value} {T : TypeId} (h : x.heap[g]? = some (.cells cs T (0, 0))) (i : Nat) : x.frozen? ⟨g, i, none⟩ = false := frozen_of_row x g i cs T h
theorem blk_cellp {x : World} {g : Nat} {cs : Array Value} {T : TypeId} (h : x.heap[g]? = some (.cells cs T (0, 0))) (i : Nat) {v : Value} (hv : cs[i]? = some v) (p : Extra) : (plus x p).cell? ⟨g, i, none⟩ = some v :=
  plus_cell (blk_cell h i hv) (lt_of_heap h) p
theorem Behind.keep {x : World} (h : Behind w Wr x) {g : Nat} {o : Obj} (hg : w.heap[g]? = some o) (hn : g ∉ Wr) : x.heap[g]? = some o := by
  rw [h.block g (lt_of_heap hg) hn]; exact hg
theorem Behind.trans {x y : World} {W2 : List Nat} (h : Behind w Wr x) (h2 : Behind x W2 y) (hW : ∀ b ∈ W2, b ∈ Wr ∨ w.heap.size ≤ b) : Behind w Wr y :=
  ⟨h2.os.trans h.os, h2.tape.trans h.tape, h2.output.trans h.output, Nat.le_trans h.size h2.size, fun k hk hn => (h2.block k (Nat.lt_of_lt_of_le hk h.size) fun hm => by rcases hW k hm with h3 | h3; exact hn h3; omega).trans (h.block k hk hn)⟩
theorem Behind.below_of {x : World} (h : Behind w Wr x) {b : Nat} (hW : ∀ k ∈ Wr, b ≤ k) (hb : b ≤ w.heap.size) : Below b w x :=
  ⟨h.os, h.tape, h.output, h.size, fun k hk => h.block k (by omega) fun hm => by have := hW k hm; omega⟩
theorem Below.heap {b : Nat} {x y : World} (h : Below b x y) {g : Nat} {o : Obj} (hg : x.heap[g]? = some o) (hb : g < b) : y.heap[g]? = some o := by rw [h.block g hb]; exact hg
theorem has_put {B : Blocks} {x : World} (h : Has B x) {g : Nat} {o : Obj} (hg : x.heap[g]? = some o) : Has (B.put g o) x := fun k p hk => by
  by_cases e : k = g
  · subst e; rw [Blocks.put_same] at hk; cases hk; exact hg
  · rw [Blocks.put_other _ _ e] at hk; exact h k p hk
theorem lex_readE {kd : Nat → Nat} {Q : Act → Blocks → Prop} {B : Blocks} {l : List Oper} {k : Nat} {a : Act} (n : Nat) (x0 : World) (hx0 : Behind w Wr x0) (hB0 : Has B x0) (h1 : ssaB (l.take n) a.tmps.size = true) (h2 : ((List.range n).all fun j => kd (k + j) == 1) = true)
    (h : ∃ a1, (∀ x, Behind w Wr x → Has B x → wpQuiet P ops (Cx x) (fun a' => a' = a1) (l.take n) a) ∧ wpLex P ops w Wr kd Q (l.drop n) (k + n) a1 B) : wpLex P ops w Wr kd Q l k a B :=
  let ⟨a1, h3, h4⟩ := h
  lex_read a1 x0 hx0 hB0 n l k a h1 h2 h3 h4

theorem lex_quietE {kd : Nat → Nat} {Q : Act → Blocks → Prop} {B : Blocks} {l : List Oper} {k : Nat} {a : Act} (n : Nat) (h1 : ssaB (l.take n) a.tmps.size = true) (h2 : ((List.range n).all fun j => kd (k + j) == 0) = true)
    (h : ∃ a1, (∀ x, Behind w Wr x → wpQuiet P ops (Cx x) (fun a' => a' = a1) (l.take n) a) ∧ wpLex P ops w Wr kd Q (l.drop n) (k + n) a1 B) : wpLex P ops w Wr kd Q l k a B :=
  let ⟨a1, h3, h4⟩ := h
  lex_quiet a1 n l k a h1 h2 h3 h4

def B0 : Blocks := fun _ => none
theorem fin_B0 : Fin B0 := ⟨0, fun _ _ => rfl⟩
theorem has_B0 (x : World) : Has B0 x := fun _ _ h => by cases h
end
end Go.Proofs.YtallcgpiecopcaaDoor

/- The game with a forced tail; slices; append. -/
namespace Go.Proofs.YtallcgpiecopcaaDoor
open Go.RowKit

section
variable {P : Program} {ops : Array Oper} {md : Region.Mode} {w : World} {Wr : List Nat}

def HeadG (P : Program) (md : Region.Mode) (ops : Array Oper) (w : World) (Wr : List Nat) (kd : Nat → Nat) (n : Nat) (L : Array Bool → Act → Blocks → Prop) : Nat → Array Bool → Act → Blocks → Prop
  | 0, s, a, B => L s a B
  | f + 1, s, a, B => Region.ready md ops s ≠ [] ∧ ∀ i ∈ Region.ready md ops s, i < n ∧ gOp P ops w Wr kd i (HeadG P md ops w Wr kd n L f (s.setIfInBounds i true)) a B

theorem HeadG.any {kd : Nat → Nat} {n g : Nat} {L : Array Bool → Act → Blocks → Prop} {Q' : Exit → Act → World → Prop} (hL : ∀ s a B x, Behind w Wr x → Has B x → L s a B → wpAny P md ops Q' g s a x) :
    ∀ (f : Nat) (s : Array Bool) (a : Act) (B : Blocks) (x : World), Behind w Wr x → Has B x → HeadG P md ops w Wr kd n L f s a B → wpAny P md ops Q' (f + g) s a x
  | 0, s, a, B, x, hx, hB, h => by rw [Nat.zero_add]; exact hL _ _ _ _ hx hB h
  | f + 1, s, a, B, x, hx, hB, h => by
    rw [show f + 1 + g = (f + g) + 1 by omega]
    exact ⟨fun h0 => absurd h0 h.1, fun i hi => gOp_sound hx hB (fun a' B' x' hx' hB' h' => HeadG.any hL f _ a' B' x' hx' hB' h') (h.2 i hi).2⟩

theorem HeadG.first {kd : Nat → Nat} {n i : Nat} {oi : Oper} {D : Nat → Bool} {L : Array Bool → Act → Blocks → Prop} (hi : ops[i]? = some oi) (hsel : ∀ (j : Nat) (o : Oper) cs b, ops[j]? = some o → o.op ≠ .select cs b)
    (hs : Region.sinkB md ops n = true) (hc : Region.chainB md ops n = true) (hn : n < ops.size) (hin : i < n) (hdone : ∀ s a B, L s a B → ∀ j ∈ Region.ready md ops s, n ≤ j) (f : Nat) :
    ∀ (s : Array Bool) (a : Act) (B : Blocks) (Oi : Value → Blocks → Prop), HeadInv md ops n s → FreeD md ops kd i oi D s →
      i ∈ Region.ready md ops s → Fin B → GStep P ops w Wr oi a (kd i) B Oi → (∀ v B', Oi v B' → HeadG P md ops w Wr kd n L f (s.setIfInBounds i true) (a.put oi.dst v) B') → (∃ v B', Oi v B') → HeadG P md ops w Wr kd n L (f + 1) s a B := by
  induction f with
  | zero =>
    intro s a B Oi inv _ hr hf hg H hne
    refine ⟨List.ne_nil_of_mem hr, fun j hj => ?_⟩
    have hjn : j < n := Nat.lt_of_not_le fun h => tail_waits hs hc hn inv _ i rfl hin (mem_ready.1 hr).1 j h hj
    refine ⟨hjn, ?_⟩
    rcases Decidable.em (j = i) with rfl | hji
    · unfold gOp
      simp only [hi]
      exact ⟨Oi, hg, H⟩
    · obtain ⟨v, B', hO⟩ := hne
      exact absurd (hdone _ _ _ (H v B' hO) j (ready_mono hj hji)) (by omega)
  | succ f ih =>
    intro s a B Oi inv hfree hr hf hg H hne
    have hun := (mem_ready.1 hr).1
    refine ⟨List.ne_nil_of_mem hr, fun j hj => ?_⟩
    have hjn : j < n := Nat.lt_of_not_le fun h => tail_waits hs hc hn inv _ i rfl hin hun j h hj
    refine ⟨hjn, ?_⟩
    rcases Decidable.em (j = i) with rfl | hji
    · unfold gOp
      simp only [hi]
      exact ⟨Oi, hg, H⟩
    · obtain ⟨hjun, oj, hoj, hall⟩ := mem_ready.1 hj
      have hall' : ∀ e ∈ oj.after, Region.binds md e = true → s.getD e.on true = true := fun e he hb => getD_tt (hall e he hb)
      have hd := hfree.not hun hoj hall'
      obtain ⟨hap, hok⟩ := hfree.ok j oj hoj hji hjun hd
      have h2 := gOp_put hoj hap hok (fun cs b => hsel i oi cs b hi) (fun cs b => hsel j oj cs b hoj) hf hg (fun v B1 hO => ((H v B1 hO).2 j (ready_mono hj hji)).2)
      refine gOp_mono (fun a' B' h3 => ?_) h2
      obtain ⟨hf', Oi', hg', hK⟩ := h3
      refine ih (s.setIfInBounds j true) a' B' Oi' (inv.set hj hjn) (hfree.set hjun hd) (ready_mono hr (Ne.symm hji)) hf' hg' (fun v B2 hO => ?_) (hg'.inhab hf')
      rw [Array.setIfInBounds_comm _ _ hji]; exact hK v B2 hO

def lexGT (md : Region.Mode) (ops : Array Oper) (kd : Nat → Nat) (g : Nat) : Nat → Nat → Array Bool → Bool
  | 0, k, s => Region.seqB md ops g k s
  | fuel + 1, k, s => (Region.ready md ops s).contains k && freeG md ops kd s k && lexGT md ops kd g fuel (k + 1) (s.setIfInBounds k true)

theorem HeadG.lex {kd : Nat → Nat} {n g : Nat} {Q : Act → Blocks → Prop} (hsel : Region.noSelect ops = true) (hs : Region.sinkB md ops n = true) (hc : Region.chainB md ops n = true) (hn : n < ops.size) :
    ∀ (l : List Oper) (k : Nat) (s : Array Bool) (a : Act) (B : Blocks), (∀ j, j < l.length → l[j]? = ops[k + j]?) → k + l.length = n → HeadInv md ops n s → Fin B → lexGT md ops kd g l.length k s = true →
    wpLex P ops w Wr kd Q l k a B → HeadG P md ops w Wr kd n (fun s' a' B' => Region.seqB md ops g n s' = true ∧ Q a' B') l.length s a B
  | [], k, s, a, B, _, hk, _, _, hB, h => by
    obtain rfl : k = n := by simpa using hk
    exact ⟨by simpa [lexGT] using hB, h⟩
  | o :: l, k, s, a, B, hl, hk, inv, hf, hB, h => by
    have h0 : ops[k]? = some o := by simpa using (hl 0 (by simp)).symm
    simp only [List.length_cons, lexGT, Bool.and_eq_true] at hB
    have hkn : k < n := by simp only [List.length_cons] at hk; omega
    have hr' : k ∈ Region.ready md ops s := by simpa using hB.1.1
    obtain ⟨O, hg, hK⟩ := h
    exact HeadG.first h0 (Region.noSelect_spec hsel) hs hc hn hkn (fun _ _ _ hL => seqB_ready hL.1) l.length s a B O inv (freeG_spec h0 hB.1.2) hr' hf hg
      (fun v B' hO => HeadG.lex hsel hs hc hn l (k + 1) _ _ B' (fun j hj => by have := hl (j + 1) (by simp; omega); simpa [Nat.add_assoc, Nat.add_comm 1 j] using this) (by simp only [List.length_cons] at hk; omega) (inv.set hr' hkn) (hg.fin hf v B' hO) hB.2 (hK v B' hO)) (hg.inhab hf)

def gameTB (md : Region.Mode) (ops : Array Oper) (kinds : List Nat) (n : Nat) : Bool :=
  Region.noSelect ops && decide (n < ops.size) && Region.sinkB md ops n && Region.chainB md ops n && lexGT md ops (fun k => kinds.getD k 0) (ops.size - n) n 0 (Array.replicate ops.size false)

theorem wp_game_tail {id : Nat} {Q : Exit → Act → World → Prop} {a : Act} {l : List Oper} (n : Nat) (kinds : List Nat) (Wr : List Nat) (B : Blocks) (hf : Fin B) (hB : Has B w) (hm : P.follows .mixedOrders = true) (hb : gameTB .any l.toArray kinds n = true)
    (h : wpLex P l.toArray w Wr (fun k => kinds.getD k 0) (fun a' B' => ∀ x, Behind w Wr x → Has B' x → wpList P l.toArray Q (l.drop n) a' x) (l.take n) 0 a B) : (Code.region id l.toArray true).wp P Q a w := by
  simp only [gameTB, Bool.and_eq_true, decide_eq_true_eq] at hb
  obtain ⟨⟨⟨⟨hsel, hn⟩, hs⟩, hc⟩, hlex⟩ := hb
  have htl : (l.take n).length = n := by simp at hn; simp; omega
  have hdl : (l.drop n).length = l.toArray.size - n := by simp
  have inv0 : HeadInv .any l.toArray n (Array.replicate l.toArray.size false) :=
    ⟨by simp, fun j oj _ hl => (by rw [getD_replicate_false] at hl; cases hl), fun t _ ht => getD_in (by simpa using ht) (getD_replicate_false _ _)⟩
  have H := HeadG.lex (md := .any) (g := l.toArray.size - n) hsel hs hc hn (l.take n) 0 _ a B (fun j hj => by rw [htl] at hj; simp [hj]) (by simpa using htl) inv0 hf (by rw [htl]; exact hlex) h
  refine wp_region_any hm ?_
  have := HeadG.any (Q' := Q) (g := l.toArray.size - n) (fun s a' B' x hx hB' hL => by
    have := wpAny_of_seq (md := .any) (Q' := Q) (l.drop n) n s a' x (fun j => by simp [List.getElem?_drop]) (by rw [hdl]; exact hL.1) (hL.2 x hx hB')
    rwa [hdl] at this) _ _ _ _ _ (Behind.drew w Wr) hB H
  rw [htl, show n + (l.toArray.size - n) = l.toArray.size by omega] at this
  exact this

theorem lex_slice {kd : Nat → Nat} {Q : Act → Blocks → Prop} {B : Blocks} {rest : List Oper} {k d : Nat} {op : Op} {ty : TypeId} {pos : String} {after : Array Edge} {a : Act} (n : Nat) (ob : Obj) (hk : kd k = 3)
    (hrun : ∀ x, (execOp a.eval ⟨some d, op, ty, pos, after, none⟩).run P x = .ok (.value (.slice (some ⟨x.heap.size, 0, none⟩) n n)) (x.alloc ob))
    (h : ∀ g, w.heap.size ≤ g → B g = none → setSlot P ops d ty pos (.slice (some ⟨g, 0, none⟩) n n) (fun a' => wpLex P ops w Wr kd Q rest (k + 1) a' (B.put g ob)) a) :
    wpLex P ops w Wr kd Q (⟨some d, op, ty, pos, after, none⟩ :: rest) k a B := by
  have g : GStep P ops w Wr ⟨some d, op, ty, pos, after, none⟩ a (kd k) B (fun v' B' => ∃ g, w.heap.size ≤ g ∧ B g = none ∧ v' = valOf (some n) g ∧ B' = B.put g ob) := by rw [hk]; exact .alloc B (some n) ob rfl fun x _ => hrun x
  refine ⟨_, g, fun v' B' hO => ?_⟩
  obtain ⟨g, h1, h2, rfl, rfl⟩ := hO
  exact of_setSlot (h g h1 h2)

structure RowB (B : Blocks) (E : TypeId) (size g n cap : Nat) (xs : List Value) (cur : Array Value) : Prop where
  blk : B g = some (.cells cur E (0, 0))
  le : n ≤ cap
  mx : cap ≤ maxLen
  sz : cur.size = cap * size
  tk : cur.toList.take (n * size) = xs
  len : xs.length = n * size

theorem lex_append {kd : Nat → Nat} {Q : Act → Blocks → Prop} {B : Blocks} {rest : List Oper} {k d : Nat} {ty : TypeId} {pos : String} {after : Array Edge} {a : Act} (s y : Operand) (t E : TypeId) (i : TypeInfo) (z : Value) (size bytes : Nat)
    (ht : P.underlying t = some (.slice E)) (hi : P.info? E = some i) (hz : i.zero = some z) (hsize : i.size = size) (hby : i.bytes = bytes) (hzs : z.cells.size = size)
    (g n cap : Nat) (xs : List Value) (cur : Array Value) (hrow : RowB B E size g n cap xs cur) (hs : a.eval s = .slice (some ⟨g, 0, none⟩) n cap)
    (g2 m c2 : Nat) (news : List Value) (E2 : TypeId) (hy : a.eval y = .slice (some ⟨g2, 0, none⟩) m c2) (hn2 : B g2 = some (.cells news.toArray E2 (0, 0))) (hl : news.length = m * size) (h1 : ∀ u ∈ news, u.oneCell' = true)
    (h63 : n + m ≤ maxLen) (hbytes : (n + m) * bytes ≤ 140737488355328) (hW : g ∈ Wr ∨ w.heap.size ≤ g)
    (hk : kd k = if n + m ≤ cap then 2 else 5)
    (h : ∀ (g' cap' : Nat) (cur' : Array Value), RowB (B.put g' (.cells cur' E (0, 0))) E size g' (n + m) cap' (xs ++ news) cur' → (g' = g ∨ (w.heap.size ≤ g' ∧ B g' = none)) →
      setSlot P ops d ty pos (.slice (some ⟨g', 0, none⟩) (n + m) cap') (fun a' => wpLex P ops w Wr kd Q rest (k + 1) a' (B.put g' (.cells cur' E (0, 0)))) a) :
    wpLex P ops w Wr kd Q (⟨some d, .call { callee := .builtin .append, args := #[s, y], argTypes := #[t, t] }, ty, pos, after, none⟩ :: rest) k a B := by
  subst hsize hby
  have hnews : ∀ x, Has B x → ∀ j u, news[j]? = some u → x.cell? ((⟨g2, 0, none⟩ : Addr).add j) = some u := fun x hx j u hj => by
    rw [Addr.add_lit, Nat.zero_add]
    exact blk_cell (hx g2 _ hn2) j (v := u) (by simpa using hj)
  have holds : ∀ x, Has B x → ∀ j u, xs[j]? = some u → x.cell? ((⟨g, 0, none⟩ : Addr).add j) = some u := fun x hx j u hj => by
    have hj' : cur[j]? = some u := by
      rw [← hrow.tk, List.getElem?_take] at hj
      split at hj
      · simpa using hj
      · cases hj
    rw [Addr.add_lit, Nat.zero_add]
    exact blk_cell (hx g _ hrow.blk) j hj'
  have hexec : ∀ x r x', (Builtin.append_ #[t, t] ty #[.slice (some ⟨g, 0, none⟩) n cap, .slice (some ⟨g2, 0, none⟩) m c2]).run P x = .ok r x' →
      (execOp a.eval ⟨some d, .call { callee := .builtin .append, args := #[s, y], argTypes := #[t, t] }, ty, pos, after, none⟩).run P x = .ok (.value r) x' := fun x r x' hr => by
    unfold execOp
    simp only [resolve, invoke, builtin, Sem.run_bind, Sem.run_pure, Result.andThen_ok, List.map_toArray, List.map_cons, List.map_nil, hs, hy, hr]
  have hlen : (xs ++ news).length = (n + m) * i.size := by rw [List.length_append, hrow.len, hl, Nat.add_mul]
  by_cases hroom : n + m ≤ cap
  · rw [if_pos hroom] at hk
    have hfit : n * i.size + news.length ≤ cur.size := by rw [hl, hrow.sz, ← Nat.add_mul]; exact Nat.mul_le_mul_right _ hroom
    have gs : GStep P ops w Wr ⟨some d, .call { callee := .builtin .append, args := #[s, y], argTypes := #[t, t] }, ty, pos, after, none⟩ a (kd k) B
        (fun v' B' => v' = .slice (some ⟨g, 0, none⟩) (n + m) cap ∧ B' = B.put g (.cells (cur.toList.take (n * i.size) ++ news ++ cur.toList.drop (n * i.size + news.length)).toArray E (0, 0))) := by
      rw [hk]
      refine .write B g _ _ rfl (by rw [hrow.blk]; rfl) hW fun x hx hB => ?_
      have hr := run_append_room (P := P) x t ty E i ht hi g n cap cur (hB g _ hrow.blk) ⟨g2, 0, none⟩ m c2 news hl (hnews x hB) h1 hroom hfit
      rw [hexec x _ _ hr]
      exact ⟨rfl, rfl, rfl, rfl, by simp, setRow_heap x g cur _ E _ (hB g _ hrow.blk), fun k' _ hk' => setRow_other x g k' _ hk'⟩
    refine ⟨_, gs, fun v' B' hO => ?_⟩
    obtain ⟨rfl, rfl⟩ := hO
    refine of_setSlot (h g cap _ ⟨Blocks.put_same _ _ _, hroom, hrow.mx, ?_, ?_, hlen⟩ (.inl rfl))
    · simp only [List.size_toArray, List.length_append, List.length_take, List.length_drop, Array.length_toList]
      have := hrow.sz
      omega
    · rw [hrow.tk, ← hlen]
      exact List.take_left
  · rw [if_neg hroom] at hk
    have gs : GStep P ops w Wr ⟨some d, .call { callee := .builtin .append, args := #[s, y], argTypes := #[t, t] }, ty, pos, after, none⟩ a (kd k) B
        (fun v' B' => ∃ g' c, w.heap.size ≤ g' ∧ B g' = none ∧ (n + m ≤ c ∧ c ≤ maxLen) ∧ v' = .slice (some ⟨g', 0, none⟩) (n + m) c ∧ B' = B.put g' (.cells (xs.toArray ++ news.toArray ++ Builtin.zeroCells z.cells (c - (n + m))) E (0, 0))) := by
      rw [hk]
      refine .grow B (fun g' c => .slice (some ⟨g', 0, none⟩) (n + m) c) (fun c => .cells (xs.toArray ++ news.toArray ++ Builtin.zeroCells z.cells (c - (n + m))) E (0, 0)) _ ⟨n + m, Nat.le_refl _, h63⟩ rfl fun x hx hB => ?_
      have hr := run_append_grow (P := P) x t ty E i z ht hi hz ⟨g, 0, none⟩ n cap xs hrow.len (holds x hB) ⟨g2, 0, none⟩ m c2 news hl (hnews x hB) (by omega) (by simp only [maxLen] at h63; omega) (growslice_fits (by omega) hbytes)
      rw [hexec x _ _ hr]
      exact ⟨x.heap.size, _, Nat.le_refl _, ⟨grownCap_ge x (n + m) cap E, grownCap_le_maxLen x (n + m) cap E h63⟩, rfl, (Below.refl _ x).drew.alloc (by simp) _, heap_alloc_new x.drew _⟩
    refine ⟨_, gs, fun v' B' hO => ?_⟩
    obtain ⟨g', c, e1, e2, ⟨e3, e4⟩, rfl, rfl⟩ := hO
    refine of_setSlot (h g' c _ ⟨Blocks.put_same _ _ _, e3, e4, ?_, ?_, hlen⟩ (.inr ⟨e1, e2⟩))
    · simp only [Array.size_append, List.size_toArray, size_zeroCells, hzs, hrow.len, hl, ← Nat.add_mul]
      congr 1
      omega
    · simp only [Array.toList_append, List.append_assoc]
      rw [← List.append_assoc, ← hlen]
      exact List.take_left

theorem lex_append_nil {kd : Nat → Nat} {Q : Act → Blocks → Prop} {B : Blocks} {rest : List Oper} {k d : Nat} {ty : TypeId} {pos : String} {after : Array Edge} {a : Act} (s y : Operand) (t E : TypeId) (i : TypeInfo) (z : Value) (size bytes : Nat)
    (ht : P.underlying t = some (.slice E)) (hi : P.info? E = some i) (hz : i.zero = some z) (hsize : i.size = size) (hby : i.bytes = bytes) (hzs : z.cells.size = size)
    (hs : a.eval s = .slice none 0 0)
    (g2 m c2 : Nat) (news : List Value) (E2 : TypeId) (hy : a.eval y = .slice (some ⟨g2, 0, none⟩) m c2) (hn2 : B g2 = some (.cells news.toArray E2 (0, 0))) (hl : news.length = m * size) (h0 : 0 < m)
    (h63 : m ≤ maxLen) (hbytes : m * bytes ≤ 140737488355328) (hk : kd k = 5)
    (h : ∀ (g' cap' : Nat) (cur' : Array Value), RowB (B.put g' (.cells cur' E (0, 0))) E size g' m cap' news cur' → w.heap.size ≤ g' → B g' = none →
      setSlot P ops d ty pos (.slice (some ⟨g', 0, none⟩) m cap') (fun a' => wpLex P ops w Wr kd Q rest (k + 1) a' (B.put g' (.cells cur' E (0, 0)))) a) :
    wpLex P ops w Wr kd Q (⟨some d, .call { callee := .builtin .append, args := #[s, y], argTypes := #[t, t] }, ty, pos, after, none⟩ :: rest) k a B := by
  subst hsize hby
  have hnews : ∀ x, Has B x → ∀ j u, news[j]? = some u → x.cell? ((⟨g2, 0, none⟩ : Addr).add j) = some u := fun x hx j u hj => by
    rw [Addr.add_lit, Nat.zero_add]
    exact blk_cell (hx g2 _ hn2) j (v := u) (by simpa using hj)
  have hexec : ∀ x r x', (Builtin.append_ #[t, t] ty #[.slice none 0 0, .slice (some ⟨g2, 0, none⟩) m c2]).run P x = .ok r x' →
      (execOp a.eval ⟨some d, .call { callee := .builtin .append, args := #[s, y], argTypes := #[t, t] }, ty, pos, after, none⟩).run P x = .ok (.value r) x' := fun x r x' hr => by
    unfold execOp
    simp only [resolve, invoke, builtin, Sem.run_bind, Sem.run_pure, Result.andThen_ok, List.map_toArray, List.map_cons, List.map_nil, hs, hy, hr]
  have gs : GStep P ops w Wr ⟨some d, .call { callee := .builtin .append, args := #[s, y], argTypes := #[t, t] }, ty, pos, after, none⟩ a (kd k) B
      (fun v' B' => ∃ g' c, w.heap.size ≤ g' ∧ B g' = none ∧ (m ≤ c ∧ c ≤ maxLen) ∧ v' = .slice (some ⟨g', 0, none⟩) m c ∧ B' = B.put g' (.cells (news.toArray ++ Builtin.zeroCells z.cells (c - m)) E (0, 0))) := by
    rw [hk]
    refine .grow B (fun g' c => .slice (some ⟨g', 0, none⟩) m c) (fun c => .cells (news.toArray ++ Builtin.zeroCells z.cells (c - m)) E (0, 0)) _ ⟨m, Nat.le_refl _, h63⟩ rfl fun x hx hB => ?_
    have hr := run_append_nil (P := P) x t ty E i z ht hi hz ⟨g2, 0, none⟩ m c2 news hl (hnews x hB) h0 (by simp only [maxLen] at h63; omega) (by omega)
    rw [hexec x _ _ hr]
    exact ⟨x.heap.size, _, Nat.le_refl _, ⟨grownCap_ge x m 0 E, grownCap_le_maxLen x m 0 E h63⟩, rfl, (Below.refl _ x).drew.alloc (by simp) _, heap_alloc_new x.drew _⟩
  refine ⟨_, gs, fun v' B' hO => ?_⟩
  obtain ⟨g', c, e1, e2, ⟨e3, e4⟩, rfl, rfl⟩ := hO
  refine of_setSlot (h g' c _ ⟨Blocks.put_same _ _ _, e3, e4, ?_, ?_, hl⟩ e1 e2)
  · simp only [Array.size_append, List.size_toArray, size_zeroCells, hzs, hl, ← Nat.add_mul]
    congr 1
    omega
  · simp only [Array.toList_append]
    rw [← hl]
    exact List.take_left

inductive RowV (B : Blocks) (E : TypeId) (size : Nat) : Value → Nat → List Value → Prop
  | nil : RowV B E size (.slice none 0 0) 0 []
  | row {g n cap : Nat} {xs : List Value} {cur : Array Value} (h : RowB B E size g n cap xs cur) : RowV B E size (.slice (some ⟨g, 0, none⟩) n cap) n xs

def rowBlk : Value → List Nat
  | .slice (some a) _ _ => [a.block]
  | _ => []

end
end Go.Proofs.YtallcgpiecopcaaDoor

/- The game: a store of what is there already. -/
namespace Go.Proofs.YtallcgpiecopcaaDoor
open Go.RowKit

section
variable {P : Program} {ops : Array Oper} {w : World} {Wr : List Nat}
end
end Go.Proofs.YtallcgpiecopcaaDoor

/- A region that draws its order and ends in a call that panics. -/
namespace Go.Proofs.YtallcgpiecopcaaDoor
open Go.RowKit

section
variable {P : Program} {ops : Array Oper} {md : Region.Mode} {w : World}

def Dies (P : Program) (ops : Array Oper) (w : World) (i : Nat) (Q' : Exit → Act → World → Prop) (a : Act) : Prop :=
  ∃ o, ops[i]? = some o ∧ Region.wanted o (yielded ops a.tmps) = true ∧ ∀ x, Behind w [] x → ∃ f vs, (execOp a.eval o).run P x = .ok (.enter f vs) x ∧ Calls P f vs x fun e w' => ∃ ps, e = .panicked ps ∧ ∀ a', a'.defers = a.defers → Q' (.panic ps) a' w'
theorem Dies.unput {i : Nat} {o : Oper} (ho : ops[i]? = some o) (hs : ∀ cs b, o.op ≠ .select cs b) {a : Act} {d : Option Tmp} {u : Value} (hd : ∀ e, d = some e → e ∉ o.looksAt ops) {Q' : Exit → Act → World → Prop} (h : Dies P ops w i Q' (a.put d u)) : Dies P ops w i Q' a := by
  obtain ⟨o', h1, h2, h3⟩ := h
  rw [ho] at h1
  cases h1
  refine ⟨o, ho, by rw [← wanted_put (ops := ops) o a d u hd]; exact h2, fun x hx => ?_⟩
  rw [← execOp_put (ops := ops) o hs a d u hd]
  have e : (a.put d u).defers = a.defers := by cases d <;> rfl
  rw [e] at h3
  exact h3 x hx

def GameZ (P : Program) (md : Region.Mode) (ops : Array Oper) (w : World) (kd : Nat → Nat) (i : Nat) (Q' : Exit → Act → World → Prop) : Nat → Array Bool → Act → Blocks → Prop
  | 0, _, _, _ => False
  | f + 1, s, a, B => Region.ready md ops s ≠ [] ∧ ∀ j ∈ Region.ready md ops s, (j = i ∧ Dies P ops w i Q' a) ∨ (j ≠ i ∧ gOp P ops w [] kd j (GameZ P md ops w kd i Q' f (s.setIfInBounds j true)) a B)

theorem wpAny_of_gameZ {kd : Nat → Nat} {i : Nat} {Q' : Exit → Act → World → Prop} : ∀ (f : Nat) (s : Array Bool) (a : Act) (B : Blocks) (x : World), Behind w [] x → Has B x →
    GameZ P md ops w kd i Q' f s a B → wpAny P md ops Q' f s a x
  | 0, _, _, _, _, _, _, h => h.elim
  | f + 1, s, a, B, x, hx, hB, h => ⟨fun h0 => absurd h0 h.1, fun j hj => by
    rcases h.2 j hj with ⟨rfl, o, ho, hw, hd⟩ | ⟨_, hg⟩
    · unfold wpOp
      simp only [ho]
      rw [if_pos hw]
      obtain ⟨g, vs, hr, hc⟩ := hd x hx
      refine .inl ?_
      unfold Oper.wp
      rw [hr]
      simp only [Oper.upon]
      refine hc.mono ?_
      rintro e w' ⟨ps, rfl, hq⟩
      exact hq a rfl
    · exact gOp_sound hx hB (fun a' B' x' hx' hB' => wpAny_of_gameZ f _ a' B' x' hx' hB') hg⟩

theorem gameZ_first {kd : Nat → Nat} {Q' : Exit → Act → World → Prop} {i p : Nat} {op : Oper} {D : Nat → Bool} (hi : ops[p]? = some op) (hpi : p ≠ i) (hsel : ∀ (j : Nat) (o : Oper) cs b, ops[j]? = some o → o.op ≠ .select cs b) :
    ∀ (fuel : Nat) (s : Array Bool) (a : Act) (B : Blocks) (Oi : Value → Blocks → Prop),
      FreeD md ops kd p op D s →
      p ∈ Region.ready md ops s → Fin B → GStep P ops w [] op a (kd p) B Oi →
      (∀ v B', Oi v B' → GameZ P md ops w kd i Q' fuel (s.setIfInBounds p true) (a.put op.dst v) B') → (∃ v B', Oi v B') → GameZ P md ops w kd i Q' (fuel + 1) s a B := by
  intro fuel
  induction fuel with
  | zero =>
    intro s a B Oi _ _ _ _ H hne
    obtain ⟨v, B', hO⟩ := hne
    exact (H v B' hO).elim
  | succ fuel ih =>
    intro s a B Oi hfree hr hf hg H hne
    have h0 := (mem_ready.1 hr).1
    refine ⟨fun h => (by rw [h] at hr; cases hr), fun j hj => ?_⟩
    by_cases hjp : j = p
    · subst hjp
      refine .inr ⟨hpi, ?_⟩
      unfold gOp
      simp only [hi]
      exact ⟨Oi, hg, H⟩
    · obtain ⟨hjun, oj, hoj, hall⟩ := mem_ready.1 hj
      have hall' : ∀ e ∈ oj.after, Region.binds md e = true → s.getD e.on true = true := fun e he hb => getD_tt (hall e he hb)
      have hd := hfree.not h0 hoj hall'
      obtain ⟨hap, hok⟩ := hfree.ok j oj hoj hjp hjun hd
      by_cases hji : j = i
      · subst hji
        obtain ⟨v, B', hO⟩ := hne
        rcases (H v B' hO).2 j (ready_mono hj hjp) with ⟨_, hD⟩ | ⟨hn, _⟩
        · exact .inl ⟨rfl, hD.unput hoj (fun cs b => hsel j oj cs b hoj) (Oper.apart_spec hap).1⟩
        · exact absurd rfl hn
      · refine .inr ⟨hji, ?_⟩
        have h2 := gOp_put hoj hap hok (fun cs b => hsel p op cs b hi) (fun cs b => hsel j oj cs b hoj) hf hg (fun v B1 hO => by
          rcases (H v B1 hO).2 j (ready_mono hj hjp) with ⟨e, _⟩ | ⟨_, hg⟩
          · exact absurd e hji
          · exact hg)
        refine gOp_mono (fun a' B' h3 => ?_) h2
        obtain ⟨hf', Oi', hg', hK⟩ := h3
        refine ih (s.setIfInBounds j true) a' B' Oi' (hfree.set hjun hd) (ready_mono hr (Ne.symm hjp)) hf' hg' (fun v B2 hO => ?_) (hg'.inhab hf')
        rw [Array.setIfInBounds_comm _ _ hjp]; exact hK v B2 hO

def dieL (md : Region.Mode) (ops : Array Oper) (kd : Nat → Nat) : Nat → Nat → Array Bool → Bool
  | 0, k, s => Region.ready md ops s == [k]
  | f + 1, k, s => (Region.ready md ops s).contains k && freeG md ops kd s k && dieL md ops kd f (k + 1) (s.setIfInBounds k true)
def dieB (md : Region.Mode) (ops : Array Oper) (kinds : List Nat) (i : Nat) : Bool := Region.noSelect ops && decide (i < ops.size) && dieL md ops (fun k => kinds.getD k 0) i 0 (Array.replicate ops.size false)
theorem gameZ_lex {kd : Nat → Nat} {i : Nat} {Q' : Exit → Act → World → Prop} (hs : Region.noSelect ops = true) : ∀ (l : List Oper) (k : Nat) (s : Array Bool) (a : Act) (B : Blocks) (f : Nat), (∀ j, j < l.length → l[j]? = ops[k + j]?) → k + l.length = i → l.length < f → Fin B →
    dieL md ops kd l.length k s = true → wpLex P ops w [] kd (fun a' _ => Dies P ops w i Q' a') l k a B → GameZ P md ops w kd i Q' f s a B
  | [], k, s, a, B, f, _, hk, hlf, _, hB, h => by
    obtain ⟨g, rfl⟩ : ∃ g, f = g + 1 := ⟨f - 1, by simp at hlf; omega⟩
    have e : Region.ready md ops s = [k] := by simpa [dieL] using hB
    have hki : k = i := by simpa using hk
    subst hki
    refine ⟨by rw [e]; simp, fun j hj => ?_⟩
    rw [e, List.mem_singleton] at hj
    exact .inl ⟨hj, h⟩
  | o :: l, k, s, a, B, f, hl, hk, hlf, hf, hB, h => by
    obtain ⟨g, rfl⟩ : ∃ g, f = g + 1 := ⟨f - 1, by omega⟩
    have h0 : ops[k]? = some o := by simpa using (hl 0 (by simp)).symm
    simp only [List.length_cons, dieL, Bool.and_eq_true] at hB
    obtain ⟨O, hg, hK⟩ := h
    exact gameZ_first h0 (by simp at hk; omega) (Region.noSelect_spec hs) g s a B O (freeG_spec h0 hB.1.2) (by simpa using hB.1.1) hf hg
      (fun v B' hO => gameZ_lex hs l (k + 1) _ _ B' g (fun j hj => by have := hl (j + 1) (by simp; omega); simpa [Nat.add_assoc, Nat.add_comm 1 j] using this) (by simp at hk; omega) (by simp at hlf; omega) (hg.fin hf v B' hO) hB.2 (hK v B' hO)) (hg.inhab hf)
theorem wp_dies {id : Nat} {Q : Exit → Act → World → Prop} {a : Act} {l : List Oper} (kinds : List Nat) (i : Nat) (hm : P.follows .mixedOrders = true) (hc : dieB .any l.toArray kinds i = true)
    (h : wpLex P l.toArray w [] (fun k => kinds.getD k 0) (fun a' _ => Dies P l.toArray w i Q a') (l.take i) 0 a B0) : (Code.region id l.toArray true).wp P Q a w := by
  simp only [dieB, Bool.and_eq_true, decide_eq_true_eq] at hc
  have hil : i < l.length := by simpa using hc.1.2
  have hlen : (l.take i).length = i := by rw [List.length_take]; omega
  refine wp_region_any hm (wpAny_of_gameZ (w := w) (kd := fun k => kinds.getD k 0) (i := i) _ _ _ B0 _ (Behind.drew w []) (has_B0 _) ?_)
  refine gameZ_lex (md := .any) hc.1.1 (l.take i) 0 (Array.replicate l.toArray.size false) a B0 _ (fun j hj => ?_) (by omega) (by simp; omega) fin_B0 (by rw [hlen]; simpa using hc.2) h
  rw [List.getElem?_take, if_pos (by omega)]
  simp
end
end Go.Proofs.YtallcgpiecopcaaDoor
