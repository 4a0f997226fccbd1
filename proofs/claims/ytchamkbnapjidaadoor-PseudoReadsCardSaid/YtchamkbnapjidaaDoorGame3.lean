/- The game with a forced tail; slices; append. -/
import Derived.Test.YtchamkbnapjidaaDoorGame2
import Derived.Laws.Append
import Derived.Laws.AppendOwn
namespace Go.Proofs.YtchamkbnapjidaaDoor
open Go.RowKit

section
variable {P : Program} {ops : Array Oper} {md : Region.Mode} {w : World} {Wr : List Nat}

/-- Whatever the first f draws pick, every one of them is below n; L is what stands behind them. -/
def HeadG (P : Program) (md : Region.Mode) (ops : Array Oper) (w : World) (Wr : List Nat) (kd : Nat → Nat) (n : Nat) (L : Array Bool → Act → Blocks → Prop) : Nat → Array Bool → Act → Blocks → Prop
  | 0, s, a, B => L s a B
  | f + 1, s, a, B => Region.ready md ops s ≠ [] ∧ ∀ i ∈ Region.ready md ops s, i < n ∧ gOp P ops w Wr kd i (HeadG P md ops w Wr kd n L f (s.setIfInBounds i true)) a B

theorem HeadG.any {kd : Nat → Nat} {n g : Nat} {L : Array Bool → Act → Blocks → Prop} {Q' : Exit → Act → World → Prop} (hL : ∀ s a B x, Behind w Wr x → Has B x → L s a B → wpAny P md ops Q' g s a x) :
    ∀ (f : Nat) (s : Array Bool) (a : Act) (B : Blocks) (x : World), Behind w Wr x → Has B x → HeadG P md ops w Wr kd n L f s a B → wpAny P md ops Q' (f + g) s a x
  | 0, s, a, B, x, hx, hB, h => by rw [Nat.zero_add]; exact hL _ _ _ _ hx hB h
  | f + 1, s, a, B, x, hx, hB, h => by
    rw [show f + 1 + g = (f + g) + 1 by omega]
    exact ⟨fun h0 => absurd h0 h.1, fun i hi => gOp_sound hx hB (fun a' B' x' hx' hB' h' => HeadG.any hL f _ a' B' x' hx' hB' h') (h.2 i hi).2⟩

theorem HeadG.first {kd : Nat → Nat} {n i : Nat} {oi : Oper} {D : Nat → Bool} {L : Array Bool → Act → Blocks → Prop} (hi : ops[i]? = some oi) (hsel : ∀ (j : Nat) (o : Oper) cs b, ops[j]? = some o → o.op ≠ .select cs b)
    (hs : Region.sinkB md ops n = true) (hc : Region.chainB md ops n = true) (hn : n < ops.size) (hin : i < n) (hdone : ∀ s a B, L s a B → ∀ j ∈ Region.ready md ops s, n ≤ j) (f : Nat) :
    ∀ (s : Array Bool) (a : Act) (B : Blocks) (Oi : Value → Blocks → Prop), HeadInv md ops n s → FreeD md ops kd i oi D s →
      i ∈ Region.ready md ops s → Fin B → GStep P ops w Wr oi a (kd i) B Oi → (∀ v B', Oi v B' → HeadG P md ops w Wr kd n L f (s.setIfInBounds i true) (a.put oi.dst v) B') → (∃ v B', Oi v B') → HeadG P md ops w Wr kd n L (f + 1) s a B := by
  induction f with
  | zero =>
    intro s a B Oi inv _ hr hf hg H hne
    refine ⟨List.ne_nil_of_mem hr, fun j hj => ?_⟩
    have hjn : j < n := Nat.lt_of_not_le fun h => tail_waits hs hc hn inv _ i rfl hin (mem_ready.1 hr).1 j h hj
    refine ⟨hjn, ?_⟩
    rcases Decidable.em (j = i) with rfl | hji
    · unfold gOp
      simp only [hi]
      exact ⟨Oi, hg, H⟩
    · obtain ⟨v, B', hO⟩ := hne
      exact absurd (hdone _ _ _ (H v B' hO) j (ready_mono hj hji)) (by omega)
  | succ f ih =>
    intro s a B Oi inv hfree hr hf hg H hne
    have hun := (mem_ready.1 hr).1
    refine ⟨List.ne_nil_of_mem hr, fun j hj => ?_⟩
    have hjn : j < n := Nat.lt_of_not_le fun h => tail_waits hs hc hn inv _ i rfl hin hun j h hj
    refine ⟨hjn, ?_⟩
    rcases Decidable.em (j = i) with rfl | hji
    · unfold gOp
      simp only [hi]
      exact ⟨Oi, hg, H⟩
    · obtain ⟨hjun, oj, hoj, hall⟩ := mem_ready.1 hj
      have hall' : ∀ e ∈ oj.after, Region.binds md e = true → s.getD e.on true = true := fun e he hb => getD_tt (hall e he hb)
      have hd := hfree.not hun hoj hall'
      obtain ⟨hap, hok⟩ := hfree.ok j oj hoj hji hjun hd
      have h2 := gOp_put hoj hap hok (fun cs b => hsel i oi cs b hi) (fun cs b => hsel j oj cs b hoj) hf hg (fun v B1 hO => ((H v B1 hO).2 j (ready_mono hj hji)).2)
      refine gOp_mono (fun a' B' h3 => ?_) h2
      obtain ⟨hf', Oi', hg', hK⟩ := h3
      refine ih (s.setIfInBounds j true) a' B' Oi' (inv.set hj hjn) (hfree.set hjun hd) (ready_mono hr (Ne.symm hji)) hf' hg' (fun v B2 hO => ?_) (hg'.inhab hf')
      rw [Array.setIfInBounds_comm _ _ hji]; exact hK v B2 hO

def lexGT (md : Region.Mode) (ops : Array Oper) (kd : Nat → Nat) (g : Nat) : Nat → Nat → Array Bool → Bool
  | 0, k, s => Region.seqB md ops g k s
  | fuel + 1, k, s => (Region.ready md ops s).contains k && freeG md ops kd s k && lexGT md ops kd g fuel (k + 1) (s.setIfInBounds k true)

theorem HeadG.lex {kd : Nat → Nat} {n g : Nat} {Q : Act → Blocks → Prop} (hsel : Region.noSelect ops = true) (hs : Region.sinkB md ops n = true) (hc : Region.chainB md ops n = true) (hn : n < ops.size) :
    ∀ (l : List Oper) (k : Nat) (s : Array Bool) (a : Act) (B : Blocks), (∀ j, j < l.length → l[j]? = ops[k + j]?) → k + l.length = n → HeadInv md ops n s → Fin B → lexGT md ops kd g l.length k s = true →
    wpLex P ops w Wr kd Q l k a B → HeadG P md ops w Wr kd n (fun s' a' B' => Region.seqB md ops g n s' = true ∧ Q a' B') l.length s a B
  | [], k, s, a, B, _, hk, _, _, hB, h => by
    obtain rfl : k = n := by simpa using hk
    exact ⟨by simpa [lexGT] using hB, h⟩
  | o :: l, k, s, a, B, hl, hk, inv, hf, hB, h => by
    have h0 : ops[k]? = some o := by simpa using (hl 0 (by simp)).symm
    simp only [List.length_cons, lexGT, Bool.and_eq_true] at hB
    have hkn : k < n := by simp only [List.length_cons] at hk; omega
    have hr' : k ∈ Region.ready md ops s := by simpa using hB.1.1
    obtain ⟨O, hg, hK⟩ := h
    exact HeadG.first h0 (Region.noSelect_spec hsel) hs hc hn hkn (fun _ _ _ hL => seqB_ready hL.1) l.length s a B O inv (freeG_spec h0 hB.1.2) hr' hf hg
      (fun v B' hO => HeadG.lex hsel hs hc hn l (k + 1) _ _ B' (fun j hj => by have := hl (j + 1) (by simp; omega); simpa [Nat.add_assoc, Nat.add_comm 1 j] using this) (by simp only [List.length_cons] at hk; omega) (inv.set hr' hkn) (hg.fin hf v B' hO) hB.2 (hK v B' hO)) (hg.inhab hf)

def gameTB (md : Region.Mode) (ops : Array Oper) (kinds : List Nat) (n : Nat) : Bool :=
  Region.noSelect ops && decide (n < ops.size) && Region.sinkB md ops n && Region.chainB md ops n && lexGT md ops (fun k => kinds.getD k 0) (ops.size - n) n 0 (Array.replicate ops.size false)

/-- n operations by the game, then a forced tail. -/
theorem wp_game_tail {id : Nat} {Q : Exit → Act → World → Prop} {a : Act} {l : List Oper} (n : Nat) (kinds : List Nat) (Wr : List Nat) (B : Blocks) (hf : Fin B) (hB : Has B w) (hm : P.follows .mixedOrders = true) (hb : gameTB .any l.toArray kinds n = true)
    (h : wpLex P l.toArray w Wr (fun k => kinds.getD k 0) (fun a' B' => ∀ x, Behind w Wr x → Has B' x → wpList P l.toArray Q (l.drop n) a' x) (l.take n) 0 a B) : (Code.region id l.toArray true).wp P Q a w := by
  simp only [gameTB, Bool.and_eq_true, decide_eq_true_eq] at hb
  obtain ⟨⟨⟨⟨hsel, hn⟩, hs⟩, hc⟩, hlex⟩ := hb
  have htl : (l.take n).length = n := by simp at hn; simp; omega
  have hdl : (l.drop n).length = l.toArray.size - n := by simp
  have inv0 : HeadInv .any l.toArray n (Array.replicate l.toArray.size false) :=
    ⟨by simp, fun j oj _ hl => (by rw [getD_replicate_false] at hl; cases hl), fun t _ ht => getD_in (by simpa using ht) (getD_replicate_false _ _)⟩
  have H := HeadG.lex (md := .any) (g := l.toArray.size - n) hsel hs hc hn (l.take n) 0 _ a B (fun j hj => by rw [htl] at hj; simp [hj]) (by simpa using htl) inv0 hf (by rw [htl]; exact hlex) h
  refine wp_region_any hm ?_
  have := HeadG.any (Q' := Q) (g := l.toArray.size - n) (fun s a' B' x hx hB' hL => by
    have := wpAny_of_seq (md := .any) (Q' := Q) (l.drop n) n s a' x (fun j => by simp [List.getElem?_drop]) (by rw [hdl]; exact hL.1) (hL.2 x hx hB')
    rwa [hdl] at this) _ _ _ _ _ (Behind.drew w Wr) hB H
  rw [htl, show n + (l.toArray.size - n) = l.toArray.size by omega] at this
  exact this

/-- A new slice, all of a new block. -/
theorem lex_slice {kd : Nat → Nat} {Q : Act → Blocks → Prop} {B : Blocks} {rest : List Oper} {k d : Nat} {op : Op} {ty : TypeId} {pos : String} {after : Array Edge} {a : Act} (n : Nat) (ob : Obj) (hk : kd k = 3)
    (hrun : ∀ x, (execOp a.eval ⟨some d, op, ty, pos, after, none⟩).run P x = .ok (.value (.slice (some ⟨x.heap.size, 0, none⟩) n n)) (x.alloc ob))
    (h : ∀ g, w.heap.size ≤ g → B g = none → setSlot P ops d ty pos (.slice (some ⟨g, 0, none⟩) n n) (fun a' => wpLex P ops w Wr kd Q rest (k + 1) a' (B.put g ob)) a) :
    wpLex P ops w Wr kd Q (⟨some d, op, ty, pos, after, none⟩ :: rest) k a B := by
  have g : GStep P ops w Wr ⟨some d, op, ty, pos, after, none⟩ a (kd k) B (fun v' B' => ∃ g, w.heap.size ≤ g ∧ B g = none ∧ v' = valOf (some n) g ∧ B' = B.put g ob) := by rw [hk]; exact .alloc B (some n) ob rfl fun x _ => hrun x
  refine ⟨_, g, fun v' B' hO => ?_⟩
  obtain ⟨g, h1, h2, rfl, rfl⟩ := hO
  exact of_setSlot (h g h1 h2)

/-- What has been appended to: a row of n elements in block g. -/
structure RowB (B : Blocks) (E : TypeId) (size g n cap : Nat) (xs : List Value) (cur : Array Value) : Prop where
  blk : B g = some (.cells cur E (0, 0))
  le : n ≤ cap
  mx : cap ≤ maxLen
  sz : cur.size = cap * size
  tk : cur.toList.take (n * size) = xs
  len : xs.length = n * size

theorem lex_append {kd : Nat → Nat} {Q : Act → Blocks → Prop} {B : Blocks} {rest : List Oper} {k d : Nat} {ty : TypeId} {pos : String} {after : Array Edge} {a : Act} (s y : Operand) (t E : TypeId) (i : TypeInfo) (z : Value) (size bytes : Nat)
    (ht : P.underlying t = some (.slice E)) (hi : P.info? E = some i) (hz : i.zero = some z) (hsize : i.size = size) (hby : i.bytes = bytes) (hzs : z.cells.size = size)
    (g n cap : Nat) (xs : List Value) (cur : Array Value) (hrow : RowB B E size g n cap xs cur) (hs : a.eval s = .slice (some ⟨g, 0, none⟩) n cap)
    (g2 m c2 : Nat) (news : List Value) (E2 : TypeId) (hy : a.eval y = .slice (some ⟨g2, 0, none⟩) m c2) (hn2 : B g2 = some (.cells news.toArray E2 (0, 0))) (hl : news.length = m * size) (h1 : ∀ u ∈ news, u.oneCell' = true)
    (h63 : n + m ≤ maxLen) (hbytes : (n + m) * bytes ≤ 140737488355328) (hW : g ∈ Wr ∨ w.heap.size ≤ g)
    (hk : kd k = if n + m ≤ cap then 2 else 5)
    (h : ∀ (g' cap' : Nat) (cur' : Array Value), RowB (B.put g' (.cells cur' E (0, 0))) E size g' (n + m) cap' (xs ++ news) cur' → (g' = g ∨ (w.heap.size ≤ g' ∧ B g' = none)) →
      setSlot P ops d ty pos (.slice (some ⟨g', 0, none⟩) (n + m) cap') (fun a' => wpLex P ops w Wr kd Q rest (k + 1) a' (B.put g' (.cells cur' E (0, 0)))) a) :
    wpLex P ops w Wr kd Q (⟨some d, .call { callee := .builtin .append, args := #[s, y], argTypes := #[t, t] }, ty, pos, after, none⟩ :: rest) k a B := by
  subst hsize hby
  have hnews : ∀ x, Has B x → ∀ j u, news[j]? = some u → x.cell? ((⟨g2, 0, none⟩ : Addr).add j) = some u := fun x hx j u hj => by
    rw [Addr.add_lit, Nat.zero_add]
    exact blk_cell (hx g2 _ hn2) j (v := u) (by simpa using hj)
  have holds : ∀ x, Has B x → ∀ j u, xs[j]? = some u → x.cell? ((⟨g, 0, none⟩ : Addr).add j) = some u := fun x hx j u hj => by
    have hj' : cur[j]? = some u := by
      rw [← hrow.tk, List.getElem?_take] at hj
      split at hj
      · simpa using hj
      · cases hj
    rw [Addr.add_lit, Nat.zero_add]
    exact blk_cell (hx g _ hrow.blk) j hj'
  have hexec : ∀ x r x', (Builtin.append_ #[t, t] ty #[.slice (some ⟨g, 0, none⟩) n cap, .slice (some ⟨g2, 0, none⟩) m c2]).run P x = .ok r x' →
      (execOp a.eval ⟨some d, .call { callee := .builtin .append, args := #[s, y], argTypes := #[t, t] }, ty, pos, after, none⟩).run P x = .ok (.value r) x' := fun x r x' hr => by
    unfold execOp
    simp only [resolve, invoke, builtin, Sem.run_bind, Sem.run_pure, Result.andThen_ok, List.map_toArray, List.map_cons, List.map_nil, hs, hy, hr]
  have hlen : (xs ++ news).length = (n + m) * i.size := by rw [List.length_append, hrow.len, hl, Nat.add_mul]
  by_cases hroom : n + m ≤ cap
  · rw [if_pos hroom] at hk
    have hfit : n * i.size + news.length ≤ cur.size := by rw [hl, hrow.sz, ← Nat.add_mul]; exact Nat.mul_le_mul_right _ hroom
    have gs : GStep P ops w Wr ⟨some d, .call { callee := .builtin .append, args := #[s, y], argTypes := #[t, t] }, ty, pos, after, none⟩ a (kd k) B
        (fun v' B' => v' = .slice (some ⟨g, 0, none⟩) (n + m) cap ∧ B' = B.put g (.cells (cur.toList.take (n * i.size) ++ news ++ cur.toList.drop (n * i.size + news.length)).toArray E (0, 0))) := by
      rw [hk]
      refine .write B g _ _ rfl (by rw [hrow.blk]; rfl) hW fun x hx hB => ?_
      have hr := run_append_room (P := P) x t ty E i ht hi g n cap cur (hB g _ hrow.blk) ⟨g2, 0, none⟩ m c2 news hl (hnews x hB) h1 hroom hfit
      rw [hexec x _ _ hr]
      exact ⟨rfl, rfl, rfl, rfl, by simp, setRow_heap x g cur _ E _ (hB g _ hrow.blk), fun k' _ hk' => setRow_other x g k' _ hk'⟩
    refine ⟨_, gs, fun v' B' hO => ?_⟩
    obtain ⟨rfl, rfl⟩ := hO
    refine of_setSlot (h g cap _ ⟨Blocks.put_same _ _ _, hroom, hrow.mx, ?_, ?_, hlen⟩ (.inl rfl))
    · simp only [List.size_toArray, List.length_append, List.length_take, List.length_drop, Array.length_toList]
      have := hrow.sz
      omega
    · rw [hrow.tk, ← hlen]
      exact List.take_left
  · rw [if_neg hroom] at hk
    have gs : GStep P ops w Wr ⟨some d, .call { callee := .builtin .append, args := #[s, y], argTypes := #[t, t] }, ty, pos, after, none⟩ a (kd k) B
        (fun v' B' => ∃ g' c, w.heap.size ≤ g' ∧ B g' = none ∧ (n + m ≤ c ∧ c ≤ maxLen) ∧ v' = .slice (some ⟨g', 0, none⟩) (n + m) c ∧ B' = B.put g' (.cells (xs.toArray ++ news.toArray ++ Builtin.zeroCells z.cells (c - (n + m))) E (0, 0))) := by
      rw [hk]
      refine .grow B (fun g' c => .slice (some ⟨g', 0, none⟩) (n + m) c) (fun c => .cells (xs.toArray ++ news.toArray ++ Builtin.zeroCells z.cells (c - (n + m))) E (0, 0)) _ ⟨n + m, Nat.le_refl _, h63⟩ rfl fun x hx hB => ?_
      have hr := run_append_grow (P := P) x t ty E i z ht hi hz ⟨g, 0, none⟩ n cap xs hrow.len (holds x hB) ⟨g2, 0, none⟩ m c2 news hl (hnews x hB) (by omega) (by simp only [maxLen] at h63; omega) (growslice_fits (by omega) hbytes)
      rw [hexec x _ _ hr]
      exact ⟨x.heap.size, _, Nat.le_refl _, ⟨grownCap_ge x (n + m) cap E, grownCap_le_maxLen x (n + m) cap E h63⟩, rfl, (Below.refl _ x).drew.alloc (by simp) _, heap_alloc_new x.drew _⟩
    refine ⟨_, gs, fun v' B' hO => ?_⟩
    obtain ⟨g', c, e1, e2, ⟨e3, e4⟩, rfl, rfl⟩ := hO
    refine of_setSlot (h g' c _ ⟨Blocks.put_same _ _ _, e3, e4, ?_, ?_, hlen⟩ (.inr ⟨e1, e2⟩))
    · simp only [Array.size_append, List.size_toArray, size_zeroCells, hzs, hrow.len, hl, ← Nat.add_mul]
      congr 1
      omega
    · simp only [Array.toList_append, List.append_assoc]
      rw [← List.append_assoc, ← hlen]
      exact List.take_left

theorem lex_append_nil {kd : Nat → Nat} {Q : Act → Blocks → Prop} {B : Blocks} {rest : List Oper} {k d : Nat} {ty : TypeId} {pos : String} {after : Array Edge} {a : Act} (s y : Operand) (t E : TypeId) (i : TypeInfo) (z : Value) (size bytes : Nat)
    (ht : P.underlying t = some (.slice E)) (hi : P.info? E = some i) (hz : i.zero = some z) (hsize : i.size = size) (hby : i.bytes = bytes) (hzs : z.cells.size = size)
    (hs : a.eval s = .slice none 0 0)
    (g2 m c2 : Nat) (news : List Value) (E2 : TypeId) (hy : a.eval y = .slice (some ⟨g2, 0, none⟩) m c2) (hn2 : B g2 = some (.cells news.toArray E2 (0, 0))) (hl : news.length = m * size) (h0 : 0 < m)
    (h63 : m ≤ maxLen) (hbytes : m * bytes ≤ 140737488355328) (hk : kd k = 5)
    (h : ∀ (g' cap' : Nat) (cur' : Array Value), RowB (B.put g' (.cells cur' E (0, 0))) E size g' m cap' news cur' → w.heap.size ≤ g' → B g' = none →
      setSlot P ops d ty pos (.slice (some ⟨g', 0, none⟩) m cap') (fun a' => wpLex P ops w Wr kd Q rest (k + 1) a' (B.put g' (.cells cur' E (0, 0)))) a) :
    wpLex P ops w Wr kd Q (⟨some d, .call { callee := .builtin .append, args := #[s, y], argTypes := #[t, t] }, ty, pos, after, none⟩ :: rest) k a B := by
  subst hsize hby
  have hnews : ∀ x, Has B x → ∀ j u, news[j]? = some u → x.cell? ((⟨g2, 0, none⟩ : Addr).add j) = some u := fun x hx j u hj => by
    rw [Addr.add_lit, Nat.zero_add]
    exact blk_cell (hx g2 _ hn2) j (v := u) (by simpa using hj)
  have hexec : ∀ x r x', (Builtin.append_ #[t, t] ty #[.slice none 0 0, .slice (some ⟨g2, 0, none⟩) m c2]).run P x = .ok r x' →
      (execOp a.eval ⟨some d, .call { callee := .builtin .append, args := #[s, y], argTypes := #[t, t] }, ty, pos, after, none⟩).run P x = .ok (.value r) x' := fun x r x' hr => by
    unfold execOp
    simp only [resolve, invoke, builtin, Sem.run_bind, Sem.run_pure, Result.andThen_ok, List.map_toArray, List.map_cons, List.map_nil, hs, hy, hr]
  have gs : GStep P ops w Wr ⟨some d, .call { callee := .builtin .append, args := #[s, y], argTypes := #[t, t] }, ty, pos, after, none⟩ a (kd k) B
      (fun v' B' => ∃ g' c, w.heap.size ≤ g' ∧ B g' = none ∧ (m ≤ c ∧ c ≤ maxLen) ∧ v' = .slice (some ⟨g', 0, none⟩) m c ∧ B' = B.put g' (.cells (news.toArray ++ Builtin.zeroCells z.cells (c - m)) E (0, 0))) := by
    rw [hk]
    refine .grow B (fun g' c => .slice (some ⟨g', 0, none⟩) m c) (fun c => .cells (news.toArray ++ Builtin.zeroCells z.cells (c - m)) E (0, 0)) _ ⟨m, Nat.le_refl _, h63⟩ rfl fun x hx hB => ?_
    have hr := run_append_nil (P := P) x t ty E i z ht hi hz ⟨g2, 0, none⟩ m c2 news hl (hnews x hB) h0 (by simp only [maxLen] at h63; omega) (by omega)
    rw [hexec x _ _ hr]
    exact ⟨x.heap.size, _, Nat.le_refl _, ⟨grownCap_ge x m 0 E, grownCap_le_maxLen x m 0 E h63⟩, rfl, (Below.refl _ x).drew.alloc (by simp) _, heap_alloc_new x.drew _⟩
  refine ⟨_, gs, fun v' B' hO => ?_⟩
  obtain ⟨g', c, e1, e2, ⟨e3, e4⟩, rfl, rfl⟩ := hO
  refine of_setSlot (h g' c _ ⟨Blocks.put_same _ _ _, e3, e4, ?_, ?_, hl⟩ e1 e2)
  · simp only [Array.size_append, List.size_toArray, size_zeroCells, hzs, hl, ← Nat.add_mul]
    congr 1
    omega
  · simp only [Array.toList_append]
    rw [← hl]
    exact List.take_left

/-- A row, or nothing yet. -/
inductive RowV (B : Blocks) (E : TypeId) (size : Nat) : Value → Nat → List Value → Prop
  | nil : RowV B E size (.slice none 0 0) 0 []
  | row {g n cap : Nat} {xs : List Value} {cur : Array Value} (h : RowB B E size g n cap xs cur) : RowV B E size (.slice (some ⟨g, 0, none⟩) n cap) n xs

/-- The block of a row. -/
def rowBlk : Value → List Nat
  | .slice (some a) _ _ => [a.block]
  | _ => []

end
end Go.Proofs.YtchamkbnapjidaaDoor
