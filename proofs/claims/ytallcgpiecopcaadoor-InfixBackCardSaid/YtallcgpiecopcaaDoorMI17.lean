/- Texts of this claim, joined: GS, Game5, Game6. -/
import Derived.Test.YtallcgpiecopcaaDoorMI03

/- A region that draws its order: some quiet operations, and others whose order is fixed. -/
namespace Go.Proofs.YtallcgpiecopcaaDoor
open Go.RowKit

section
variable {P : Program} {ops : Array Oper} {md : Region.Mode} {C : World → Prop} {Q : Exit → Act → World → Prop}

def QuietC (P : Program) (ops : Array Oper) (C : World → Prop) (o : Oper) (v : Value) (a : Act) : Prop :=
  Region.wanted o (yielded ops a.tmps) = true ∧ ∀ x, C x → (execOp a.eval o).run P x = .ok (.value v) x
theorem QuietC.of_same {o : Oper} {v : Value} {a a' : Act} (hy : QuietC P ops C o v a) (he : execOp a'.eval o = execOp a.eval o)
    (hw : Region.wanted o (yielded ops a'.tmps) = Region.wanted o (yielded ops a.tmps)) : QuietC P ops C o v a' := by
  unfold QuietC at *
  rw [he, hw]
  exact hy
theorem wpOpC_put {j : Nat} {oi oj : Oper} {v : Value} (hj : ops[j]? = some oj) (hap : oi.apart ops oj = true)
    (hsi : ∀ cs b, oi.op ≠ .select cs b) (hsj : ∀ cs b, oj.op ≠ .select cs b)
    (hQ : ∀ c a w, Q (.panic c) (a.put oi.dst v) w → Q (.panic c) a w) {K : Act → World → Prop} {a : Act} {w : World}
    (hy : QuietC P ops C oi v a) (h : wpOp P ops Q j K (a.put oi.dst v) w) :
    wpOp P ops Q j (fun a' w' => QuietC P ops C oi v a' ∧ K (a'.put oi.dst v) w') a w := by
  obtain ⟨h1, h2, h3⟩ := Oper.apart_spec hap
  have keep : ∀ (a : Act), QuietC P ops C oi v a → ∀ u, QuietC P ops C oi v (a.put oj.dst u) := fun a hy u =>
    hy.of_same (execOp_put oi hsi a oj.dst u h3) (wanted_put oi a oj.dst u h3)
  have keepD : ∀ d, QuietC P ops C oi v { a with defers := d :: a.defers } := fun d => hy.of_same rfl rfl
  unfold wpOp at *
  simp only [hj] at *
  rw [wanted_put oj a oi.dst v h1] at h
  split
  · rename_i hw
    simp only [hw, if_true] at h
    rcases h with h | ⟨hasks, hlets⟩
    case inr => exact .inr ⟨by unfold Oper.asks at *; rw [execOp_put oj hsj a oi.dst v h1] at hasks; exact hasks, hlets⟩
    refine .inl ?_
    unfold Oper.wp at *
    rw [execOp_put oj hsj a oi.dst v h1] at h
    generalize (execOp a.eval oj).run P w = r at *
    cases r with
    | ok n w' =>
      cases n <;> simp only [Oper.upon] at h ⊢
      case value u => exact ⟨keep a hy u, by rw [← Act.put_comm a v u h2]; exact h⟩
      case skip => exact ⟨keep a hy _, by rw [← Act.put_comm a v undef h2]; exact h⟩
      case defer d =>
        refine ⟨keep _ (keepD d) _, ?_⟩
        rw [← Act.put_comm _ v undef h2, ← Act.put_defers]
        exact h
      case enter f args =>
        refine Calls.mono h fun e w'' he => ?_
        cases e with
        | returned u => exact ⟨keep a hy u, by rw [← Act.put_comm a v u h2]; exact he⟩
        | panicked c => exact hQ _ _ _ he
        | outgrown => exact he
      case row row args => exact Rows.mono h fun u w'' he => ⟨keep a hy u, by rw [← Act.put_comm a v u h2]; exact he⟩
    | halt x w' =>
      cases x <;> simp only [Oper.upon] at h ⊢
      case panic u => exact hQ _ _ _ h
  · rename_i hw
    simp only [hw] at h
    exact ⟨keep a hy _, by rw [← Act.put_comm a v undef h2]; exact h⟩

def wpAnyC (P : Program) (md : Region.Mode) (ops : Array Oper) (C : World → Prop) (Q : Exit → Act → World → Prop) : Nat → Array Bool → Act → World → Prop
  | 0, s, a, x => (s.getD (ops.size - 1) true = false → C x) ∧ Region.ready md ops s = [] ∧ Q .normal a x
  | f + 1, s, a, x => (s.getD (ops.size - 1) true = false → C x) ∧ (Region.ready md ops s = [] → Q .normal a x) ∧ ∀ i ∈ Region.ready md ops s, wpOp P ops Q i (wpAnyC P md ops C Q f (s.setIfInBounds i true)) a x
theorem wpAny_of_C : ∀ (f : Nat) (s : Array Bool) (a : Act) (x : World), wpAnyC P md ops C Q f s a x → wpAny P md ops Q f s a x
  | 0, _, _, _, h => h.2
  | f + 1, _, _, _, h => ⟨h.2.1, fun i hi => wpOp_mono (fun a' x' h' => wpAny_of_C f _ a' x' h') (h.2.2 i hi)⟩
theorem QuietC.wpOp {i : Nat} {o : Oper} {v : Value} {a : Act} (hi : ops[i]? = some o) (hy : QuietC P ops C o v a) {K : Act → World → Prop} {w : World} (hC : C w) (h : K (a.put o.dst v) w) : wpOp P ops Q i K a w := by
  unfold Go.wpOp
  simp only [hi]
  rw [if_pos hy.1]
  refine .inl ?_
  unfold Oper.wp
  rw [hy.2 w hC]
  exact h
theorem wpAnyC_first {i : Nat} {oi : Oper} {v : Value} (hi : ops[i]? = some oi) (hsel : ∀ (j : Nat) (o : Oper) cs b, ops[j]? = some o → o.op ≠ .select cs b)
    (hQ : ∀ c a w, Q (.panic c) (a.put oi.dst v) w → Q (.panic c) a w) (hil : i ≠ ops.size - 1) (hlast : ∃ o, ops[ops.size - 1]? = some o ∧ ∃ e ∈ o.after, Region.binds md e = true ∧ e.on = i) :
    ∀ (fuel : Nat) (listed : Array Bool) (a : Act) (w : World), listed.getD (ops.size - 1) true = false →
      (∀ j oj, ops[j]? = some oj → j ≠ i → listed.getD j true = false → (∀ e ∈ oj.after, Region.binds md e = true → e.on ≠ i) → oi.apart ops oj = true) →
      i ∈ Region.ready md ops listed → QuietC P ops C oi v a →
      wpAnyC P md ops C Q fuel (listed.setIfInBounds i true) (a.put oi.dst v) w → wpAnyC P md ops C Q (fuel + 1) listed a w := by
  intro fuel
  induction fuel with
  | zero =>
    intro listed a w hl _ hr hy H
    have hC : C w := H.1 (by rw [getD_set_ne true hil]; exact hl)
    refine ⟨fun _ => hC, fun h => (by rw [h] at hr; cases hr), fun j hj => ?_⟩
    by_cases hji : j = i
    · subst hji; exact hy.wpOp hi hC H
    · have := ready_mono hj hji
      rw [H.2.1] at this
      cases this
  | succ fuel ih =>
    intro listed a w hl hfree hr hy H
    have hC : C w := H.1 (by rw [getD_set_ne true hil]; exact hl)
    refine ⟨fun _ => hC, fun h => (by rw [h] at hr; cases hr), fun j hj => ?_⟩
    by_cases hji : j = i
    · subst hji; exact hy.wpOp hi hC H
    · have h1 := H.2.2 j (ready_mono hj hji)
      obtain ⟨hjun, oj, hoj, hall⟩ := mem_ready.1 hj
      have hnot : ∀ e ∈ oj.after, Region.binds md e = true → e.on ≠ i := fun e he hb heq => by
        have h1 := hall e he hb
        have h0 := (mem_ready.1 hr).1
        rw [heq] at h1
        rcases Nat.lt_or_ge i listed.size with h' | h'
        · simp [h'] at h0 h1; rw [h0] at h1; cases h1
        · simp [Array.getElem?_eq_none h'] at h1
      have h2 := wpOpC_put hoj (hfree j oj hoj hji hjun hnot) (fun cs b => hsel i oi cs b hi) (fun cs b => hsel j oj cs b hoj) hQ hy h1
      have hfree' : ∀ k ok, ops[k]? = some ok → k ≠ i → (listed.setIfInBounds j true).getD k true = false →
          (∀ e ∈ ok.after, Region.binds md e = true → e.on ≠ i) → oi.apart ops ok = true := fun k ok hk hki hun hno => by
        refine hfree k ok hk hki ?_ hno
        by_cases hjk : j = k
        · subst hjk; exact hjun
        · rw [getD_set_ne true hjk] at hun; exact hun
      have hjl : j ≠ ops.size - 1 := fun e => by
        obtain ⟨ol, hol, ed, he, hb, hon⟩ := hlast
        rw [e, hol] at hoj
        cases hoj
        exact hnot ed he hb hon
      refine wpOp_mono (fun a' w' h3 => ih (listed.setIfInBounds j true) a' w' (by rw [getD_set_ne true hjl]; exact hl) hfree' (ready_mono hr (Ne.symm hji)) h3.1 ?_) h2
      rw [Array.setIfInBounds_comm _ _ hji]
      exact h3.2

def SeqW (P : Program) (ops : Array Oper) (C : World → Prop) (Q : Exit → Act → World → Prop) : List Oper → Nat → Act → World → Prop
  | [], _, a, x => Q .normal a x
  | _ :: rest, k, a, x => C x ∧ wpOp P ops Q k (SeqW P ops C Q rest (k + 1)) a x
def QL (P : Program) (ops : Array Oper) (C : World → Prop) : List Oper → Act → (Act → Prop) → Prop
  | [], a, K => K a
  | o :: rest, a, K => ∃ v, QuietC P ops C o v a ∧ QL P ops C rest (a.put o.dst v) K
def sqB (md : Region.Mode) (ops : Array Oper) : Nat → Nat → Array Bool → Bool
  | 0, _, s => (Region.ready md ops s).isEmpty && s.getD (ops.size - 1) true
  | m + 1, k, s => Region.ready md ops s == [k] && sqB md ops m (k + 1) (s.setIfInBounds k true)
def tiedB (md : Region.Mode) (ops : Array Oper) (i : Nat) : Bool := match ops[ops.size - 1]? with
  | some o => o.after.toList.any fun e => Region.binds md e && e.on == i
  | none => false
theorem tiedB_spec {md : Region.Mode} {ops : Array Oper} {i : Nat} (h : tiedB md ops i = true) : ∃ o, ops[ops.size - 1]? = some o ∧ ∃ e ∈ o.after, Region.binds md e = true ∧ e.on = i := by
  unfold tiedB at h
  split at h
  · rename_i o ho
    simp only [List.any_eq_true, Bool.and_eq_true, beq_iff_eq] at h
    obtain ⟨e, he, h1, h2⟩ := h
    exact ⟨o, ho, e, by simpa using he, h1, h2⟩
  · cases h
def preB (md : Region.Mode) (ops : Array Oper) : Nat → Nat → Array Bool → Bool
  | 0, k, s => sqB md ops (ops.size - k) k s
  | n + 1, k, s => (Region.ready md ops s).contains k && Region.free md ops s k && decide (k ≠ ops.size - 1) && tiedB md ops k && preB md ops n (k + 1) (s.setIfInBounds k true)
def seqB (md : Region.Mode) (ops : Array Oper) (n : Nat) : Bool := Region.noSelect ops && decide (n ≤ ops.size) && preB md ops n 0 (Array.replicate ops.size false)
theorem anyC_seq : ∀ (m k : Nat) (l : List Oper) (s : Array Bool) (a : Act) (x : World), l.length = m → sqB md ops m k s = true → SeqW P ops C Q l k a x → wpAnyC P md ops C Q m s a x
  | 0, k, l, s, a, x, hl, hB, h => by
    cases l with
    | nil =>
      simp only [sqB, Bool.and_eq_true] at hB
      exact ⟨fun h0 => absurd (hB.2.symm.trans h0) (by simp), by simpa using hB.1, h⟩
    | cons => simp at hl
  | m + 1, k, l, s, a, x, hl, hB, h => by
    cases l with
    | nil => simp at hl
    | cons o l =>
      simp only [sqB, Bool.and_eq_true, beq_iff_eq] at hB
      show (s.getD (ops.size - 1) true = false → C x) ∧ (Region.ready md ops s = [] → Q .normal a x) ∧ ∀ i ∈ Region.ready md ops s, wpOp P ops Q i (wpAnyC P md ops C Q m (s.setIfInBounds i true)) a x
      refine ⟨fun _ => h.1, fun h0 => absurd (hB.1.symm.trans h0) (by simp), fun i hi => ?_⟩
      rw [hB.1, List.mem_singleton] at hi
      subst hi
      exact wpOp_mono (fun a' x' h' => anyC_seq m (i + 1) l _ a' x' (by simpa using hl) hB.2 h') h.2
theorem anyC_pre (hs : Region.noSelect ops = true) (hQ : ∀ c d v a w, Q (.panic c) (Act.put a d v) w → Q (.panic c) a w) : ∀ (n k : Nat) (l1 l2 : List Oper) (s : Array Bool) (a : Act) (x : World), l1.length = n → (∀ j, j < l1.length → l1[j]? = ops[k + j]?) → l2.length = ops.size - (k + n) → preB md ops n k s = true → (0 < n → s.getD (ops.size - 1) true = false) →
    QL P ops C l1 a (fun a' => SeqW P ops C Q l2 (k + n) a' x) → wpAnyC P md ops C Q (n + (ops.size - (k + n))) s a x
  | 0, k, l1, l2, s, a, x, h1, _, h2, hB, _, h => by
    cases l1 with
    | nil =>
      rw [Nat.zero_add]
      rw [Nat.add_zero] at h2 h ⊢
      exact anyC_seq _ k l2 s a x h2 hB h
    | cons => simp at h1
  | n + 1, k, l1, l2, s, a, x, h1, hl, h2, hB, hs0, h => by
    cases l1 with
    | nil => simp at h1
    | cons o l1 =>
      simp only [preB, Bool.and_eq_true, decide_eq_true_eq] at hB
      have h0 : ops[k]? = some o := by simpa using (hl 0 (by simp)).symm
      obtain ⟨v, hq, hr⟩ := h
      rw [show n + 1 + (ops.size - (k + (n + 1))) = (n + (ops.size - (k + 1 + n))) + 1 by omega]
      refine wpAnyC_first h0 (Region.noSelect_spec hs) (fun c a w => hQ c o.dst v a w) hB.1.1.2 (tiedB_spec hB.1.2) _ s a x (hs0 (by omega)) (Region.free_spec h0 hB.1.1.1.2) (by simpa using hB.1.1.1.1) hq ?_
      refine anyC_pre hs hQ n (k + 1) l1 l2 _ _ x (by simpa using h1) (fun j hj => ?_) (by omega) hB.2 (fun _ => by rw [getD_set_ne true hB.1.1.2]; exact hs0 (by omega)) (by rw [show k + 1 + n = k + (n + 1) by omega]; exact hr)
      have := hl (j + 1) (by simp; omega)
      simpa [Nat.add_assoc, Nat.add_comm 1 j] using this
theorem wp_seq {id : Nat} {a : Act} {l : List Oper} {w : World} (n : Nat) (C : World → Prop) (hm : P.follows .mixedOrders = true) (hc : seqB .any l.toArray n = true) (hQ : ∀ c d v a w, Q (.panic c) (Act.put a d v) w → Q (.panic c) a w)
    (h : ∀ x, Behind w [] x → QL P l.toArray C (l.take n) a (fun a' => SeqW P l.toArray C Q (l.drop n) n a' x)) : (Code.region id l.toArray true).wp P Q a w := by
  simp only [seqB, Bool.and_eq_true, decide_eq_true_eq] at hc
  have hn : n ≤ l.length := by simpa using hc.1.2
  refine wp_region_any hm (wpAny_of_C (C := C) _ _ _ _ ?_)
  have := anyC_pre (P := P) (C := C) (Q := Q) (md := .any) hc.1.1 hQ n 0 (l.take n) (l.drop n) (Array.replicate l.toArray.size false) a (World.drew w) (by rw [List.length_take]; omega) (fun j hj => by
    rw [List.length_take] at hj
    rw [List.getElem?_take, if_pos (by omega)]; simp) (by simp) hc.2 (fun h0 => by rw [Array.getD_eq_getD_getElem?, Array.getElem?_replicate, if_pos (by have := hc.1.2; simp at this ⊢; omega)]; rfl) (by rw [Nat.zero_add]; exact h _ (Behind.drew w []))
  rw [Nat.zero_add] at this
  have e : n + (l.toArray.size - n) = l.toArray.size := by simp; omega
  rw [e] at this
  exact this

def SQ (P : Program) (ops : Array Oper) (C : World → Prop) (Q : Exit → Act → World → Prop) (rest : List Oper) (k : Nat) : Exit → Act → World → Prop
  | .normal, a, x => SeqW P ops C Q rest k a x
  | e, a, x => Q e a x
theorem SQ.done {k : Nat} {a : Act} {x : World} (h : Q .normal a x) : SQ P ops C Q [] k .normal a x := h
theorem SeqW.step {o : Oper} {rest : List Oper} {k : Nat} {a : Act} {x : World} (hk : ops[k]? = some o) (hC : C x) (h : wpList P ops (SQ P ops C Q rest (k + 1)) [o] a x) : SeqW P ops C Q (o :: rest) k a x := by
  refine ⟨hC, ?_⟩
  unfold wpOp
  simp only [hk]
  simp only [wpList] at h
  split
  · rename_i hw
    rw [if_pos hw] at h
    rcases h with h | ⟨h1, h2⟩
    · refine .inl ?_
      unfold Oper.wp at *
      generalize (execOp a.eval o).run P x = r at *
      cases r with
      | ok n w' =>
        cases n <;> simp only [Oper.upon] at h ⊢
        case enter f args =>
          refine Calls.mono h fun e w'' he => ?_
          cases e with
          | returned u => exact he
          | panicked c => exact he
          | outgrown => exact he
        all_goals exact h
      | halt y w' =>
        cases y <;> simp only [Oper.upon] at h ⊢
        case panic u => exact h
    · exact .inr ⟨h1, h2⟩
  · rename_i hw
    rw [if_neg hw] at h
    exact h
end
end Go.Proofs.YtallcgpiecopcaaDoor

/- The game with calls that write blocks of a list and hand back whatever. -/
namespace Go.Proofs.YtallcgpiecopcaaDoor
open Go.RowKit

def Blocks.over (B Bn : Blocks) : Blocks := fun k => (Bn k).or (B k)
theorem Blocks.over_some {B Bn : Blocks} {k : Nat} {o : Obj} (h : Bn k = some o) : B.over Bn k = some o := by unfold Blocks.over; rw [h]; rfl
theorem Blocks.over_none {B Bn : Blocks} {k : Nat} (h : Bn k = none) : B.over Bn k = B k := by unfold Blocks.over; rw [h]; rfl
theorem Fin.over {B Bn : Blocks} (h : Fin B) (hn : Fin Bn) : Fin (B.over Bn) := by
  obtain ⟨N, hN⟩ := h
  obtain ⟨M, hM⟩ := hn
  exact ⟨max N M, fun b hb => by rw [Blocks.over_none (hM b (by omega))]; exact hN b (by omega)⟩
def manyUpon (P : Program) (R : Value → Blocks → Prop) (Wr : List Nat) (x : World) : Result Next → Prop
  | .ok (.enter f args) x' => x' = x ∧ Calls P f args x fun e w' => ∃ v Bn, e = .returned v ∧ R v Bn ∧ Fin Bn ∧ Has Bn w' ∧ Behind x Wr w' ∧ (∀ g o, Bn g = some o → g ∈ Wr ∨ x.heap.size ≤ g) ∧ (∀ g ∈ Wr, Bn g ≠ none)
  | _ => False

section
variable {P : Program} {ops : Array Oper} {md : Region.Mode} {w : World} {Wr : List Nat}

inductive MStep (P : Program) (ops : Array Oper) (w : World) (Wr : List Nat) (o : Oper) (a : Act) : Nat → Blocks → (Value → Blocks → Prop) → Prop
  | old (k : Nat) (B : Blocks) (O : Value → Blocks → Prop) : k ≠ 6 → GStep P ops w Wr o a k B O → MStep P ops w Wr o a k B O
  | many (B : Blocks) (R : Value → Blocks → Prop) : Region.wanted o (yielded ops a.tmps) = true → (∀ g ∈ Wr, g < w.heap.size) →
      (∀ x, Behind w Wr x → Has B x → manyUpon P R Wr x ((execOp a.eval o).run P x)) → (∀ N, ∃ v Bn, R v Bn ∧ Fin Bn ∧ ∀ g o, Bn g = some o → g ∈ Wr ∨ N ≤ g) →
      MStep P ops w Wr o a 6 B fun v B' => ∃ Bn, R v Bn ∧ Fin Bn ∧ (∀ g o, Bn g = some o → g ∈ Wr ∨ (w.heap.size ≤ g ∧ B g = none)) ∧ B' = B.over Bn

def gOpM (P : Program) (ops : Array Oper) (w : World) (Wr : List Nat) (kd : Nat → Nat) (i : Nat) (K : Act → Blocks → Prop) (a : Act) (B : Blocks) : Prop :=
  match ops[i]? with
  | none => K a B
  | some o => ∃ O, MStep P ops w Wr o a (kd i) B O ∧ ∀ v B', O v B' → K (a.put o.dst v) B'

def GameM (P : Program) (md : Region.Mode) (ops : Array Oper) (w : World) (Wr : List Nat) (kd : Nat → Nat) (Q : Act → Blocks → Prop) : Nat → Array Bool → Act → Blocks → Prop
  | 0, s, a, B => Region.ready md ops s = [] ∧ Q a B
  | f + 1, s, a, B => (Region.ready md ops s = [] → Q a B) ∧ ∀ i ∈ Region.ready md ops s, gOpM P ops w Wr kd i (GameM P md ops w Wr kd Q f (s.setIfInBounds i true)) a B


theorem MStep.sound {o : Oper} {a : Act} {k : Nat} {B : Blocks} {O : Value → Blocks → Prop} (hg : MStep P ops w Wr o a k B O) {K' : Act → World → Prop} {Q' : Exit → Act → World → Prop} {x : World} (hx : Behind w Wr x) (hB : Has B x)
    (h : ∀ v B' x', Behind w Wr x' → Has B' x' → O v B' → K' (a.put o.dst v) x') : if Region.wanted o (yielded ops a.tmps) then o.wp P a x K' Q' ∨ (o.asks P a x ∧ LetsOut Q') else K' (a.put o.dst undef) x := by
  cases hg with
  | old _ _ _ _ hg => exact hg.sound hx hB h
  | many _ R hw hWr hq _ =>
    rw [if_pos hw]
    refine .inl ?_
    have := hq _ hx hB
    unfold Oper.wp
    generalize (execOp a.eval o).run P x = r at *
    cases r with
    | ok n w2 =>
      cases n <;> simp only [manyUpon] at this
      simp only [Oper.upon]
      rw [this.1]
      refine this.2.mono fun e w3 ⟨v, Bn, h1, h2, h3, h4, h5, h6, h7⟩ => ?_
      subst h1
      refine h v (B.over Bn) w3 ⟨h5.os.trans hx.os, h5.tape.trans hx.tape, h5.output.trans hx.output, Nat.le_trans hx.size h5.size, fun k hk hn => (h5.block k (Nat.lt_of_lt_of_le hk hx.size) hn).trans (hx.block k hk hn)⟩ (fun k o hk => ?_) ⟨Bn, h2, h3, fun g o hg => ?_, rfl⟩
      · cases hb : Bn k with
        | some o' =>
          rw [Blocks.over_some hb] at hk
          cases hk
          exact h4 k _ hb
        | none =>
          rw [Blocks.over_none hb] at hk
          have h9 := hB k o hk
          rw [h5.block k (lt_of_heap h9) (fun hm => h7 k hm hb)]
          exact h9
      · refine (h6 g o hg).imp id fun h8 => ⟨Nat.le_trans hx.size h8, hB.none h8⟩
    | halt y w2 => simp only [manyUpon] at this

theorem gOpM_sound {kd : Nat → Nat} {i : Nat} {a : Act} {B : Blocks} {K : Act → Blocks → Prop} {K' : Act → World → Prop} {Q' : Exit → Act → World → Prop} {x : World} (hx : Behind w Wr x) (hB : Has B x)
    (h : ∀ a' B' x', Behind w Wr x' → Has B' x' → K a' B' → K' a' x') (hh : gOpM P ops w Wr kd i K a B) : wpOp P ops Q' i K' a x := by
  unfold gOpM at hh
  unfold wpOp
  split
  · rename_i ho; simp only [ho] at hh; exact h _ _ _ hx hB hh
  · rename_i o ho
    simp only [ho] at hh
    obtain ⟨O, hg, hK⟩ := hh
    exact hg.sound hx hB fun v B' x' hx' hB' hO => h _ _ _ hx' hB' (hK v B' hO)

theorem wpAny_of_gameM {kd : Nat → Nat} {Q : Act → Blocks → Prop} {Q' : Exit → Act → World → Prop} (hQ : ∀ a B x, Behind w Wr x → Has B x → Q a B → Q' .normal a x) : ∀ (f : Nat) (s : Array Bool) (a : Act) (B : Blocks) (x : World), Behind w Wr x → Has B x →
    GameM P md ops w Wr kd Q f s a B → wpAny P md ops Q' f s a x
  | 0, _, _, _, _, hx, hB, h => ⟨h.1, hQ _ _ _ hx hB h.2⟩
  | f + 1, _, _, _, _, hx, hB, h => ⟨fun h0 => hQ _ _ _ hx hB (h.1 h0), fun i hi => gOpM_sound hx hB (fun a' B' x' hx' hB' => wpAny_of_gameM hQ f _ a' B' x' hx' hB') (h.2 i hi)⟩

theorem gOpM_mono {kd : Nat → Nat} {i : Nat} {a : Act} {B : Blocks} {K K' : Act → Blocks → Prop} (h : ∀ a B, K a B → K' a B) (hh : gOpM P ops w Wr kd i K a B) : gOpM P ops w Wr kd i K' a B := by
  unfold gOpM at *
  split
  · rename_i ho; simp only [ho] at hh; exact h _ _ hh
  · rename_i o ho
    simp only [ho] at hh
    exact let ⟨O, h1, h2⟩ := hh; ⟨O, h1, fun v B' hO => h _ _ (h2 v B' hO)⟩


theorem MStep.put {o : Oper} (hs : ∀ cs b, o.op ≠ .select cs b) {a : Act} {d : Option Tmp} {u : Value} (hd : ∀ e, d = some e → e ∉ o.looksAt ops) {k : Nat} {B : Blocks} {O : Value → Blocks → Prop}
    (h : MStep P ops w Wr o a k B O) : MStep P ops w Wr o (a.put d u) k B O := by
  have hw := wanted_put (ops := ops) o a d u hd
  have he := execOp_put (ops := ops) o hs a d u hd
  cases h with
  | old _ _ _ hk h => exact .old _ _ _ hk (h.put hs hd)
  | many _ R h1 h2 h3 h4 => exact .many _ R (hw.trans h1) h2 (fun x hx hB => by rw [he]; exact h3 x hx hB) h4
theorem MStep.unput {o : Oper} (hs : ∀ cs b, o.op ≠ .select cs b) {a : Act} {d : Option Tmp} {u : Value} (hd : ∀ e, d = some e → e ∉ o.looksAt ops) {k : Nat} {B : Blocks} {O : Value → Blocks → Prop}
    (h : MStep P ops w Wr o (a.put d u) k B O) : MStep P ops w Wr o a k B O := by
  have hw := wanted_put (ops := ops) o a d u hd
  have he := execOp_put (ops := ops) o hs a d u hd
  cases h with
  | old _ _ _ hk h => exact .old _ _ _ hk (h.unput hs hd)
  | many _ R h1 h2 h3 h4 => exact .many _ R (hw.symm.trans h1) h2 (fun x hx hB => by rw [← he]; exact h3 x hx hB) h4
theorem MStep.fin {o : Oper} {a : Act} {k : Nat} {B : Blocks} {O : Value → Blocks → Prop} (h : MStep P ops w Wr o a k B O) (hf : Fin B) (v : Value) (B' : Blocks) (hO : O v B') : Fin B' := by
  cases h with
  | old _ _ _ _ h => exact h.fin hf v B' hO
  | many => obtain ⟨Bn, _, hn, _, rfl⟩ := hO; exact hf.over hn
theorem many_some {B : Blocks} {R : Value → Blocks → Prop} (hf : Fin B) (hne : ∀ N, ∃ v Bn, R v Bn ∧ Fin Bn ∧ ∀ g o, Bn g = some o → g ∈ Wr ∨ N ≤ g) (m : Nat) : ∃ v Bn, R v Bn ∧ Fin Bn ∧ ∀ g o, Bn g = some o → g ∈ Wr ∨ (m ≤ g ∧ B g = none) := by
  obtain ⟨N, hN⟩ := hf
  obtain ⟨v, Bn, h1, h2, h3⟩ := hne (max N m)
  exact ⟨v, Bn, h1, h2, fun g o hg => (h3 g o hg).imp id fun h => ⟨by omega, hN _ (by omega)⟩⟩
theorem MStep.inhab {o : Oper} {a : Act} {k : Nat} {B : Blocks} {O : Value → Blocks → Prop} (h : MStep P ops w Wr o a k B O) (hf : Fin B) : ∃ v B', O v B' := by
  cases h with
  | old _ _ _ _ h => exact h.inhab hf
  | many _ R _ _ _ hne =>
    obtain ⟨v, Bn, h1, h2, h3⟩ := many_some hf hne w.heap.size
    exact ⟨v, _, Bn, h1, h2, h3, rfl⟩
theorem MStep.isOld {o : Oper} {a : Act} {k : Nat} {B : Blocks} {O : Value → Blocks → Prop} (h : MStep P ops w Wr o a k B O) (hk : k ≠ 6) : GStep P ops w Wr o a k B O := by
  cases h with
  | old _ _ _ _ h => exact h
  | many => exact absurd rfl hk

def okPairM (ki kj : Nat) (oj : Oper) : Bool :=
  if ki == 6 then kj == 3 || (kj == 0 && plainOp oj) else if kj == 6 then ki == 0 else okPair ki kj oj

theorem gOpM_put {kd : Nat → Nat} {i j : Nat} {oi oj : Oper} (hj : ops[j]? = some oj) (hap : oi.apart ops oj = true) (hok : okPairM (kd i) (kd j) oj = true)
    (hsi : ∀ cs b, oi.op ≠ .select cs b) (hsj : ∀ cs b, oj.op ≠ .select cs b) {K : Act → Blocks → Prop} {a : Act} {B : Blocks} (hf : Fin B) {Oi : Value → Blocks → Prop}
    (hi : MStep P ops w Wr oi a (kd i) B Oi) (H : ∀ v B1, Oi v B1 → gOpM P ops w Wr kd j K (a.put oi.dst v) B1) :
    gOpM P ops w Wr kd j (fun a' B' => Fin B' ∧ ∃ Oi', MStep P ops w Wr oi a' (kd i) B' Oi' ∧ ∀ v B2, Oi' v B2 → K (a'.put oi.dst v) B2) a B := by
  obtain ⟨h1, h2, h3⟩ := Oper.apart_spec hap
  by_cases hki : kd i = 6
  · -- a call that writes, then j
    rw [hki] at hi hok
    have hok' : kd j = 3 ∨ (kd j = 0 ∧ plainOp oj = true) := by simpa [okPairM] using hok
    have hkj : kd j ≠ 6 := by rcases hok' with h | ⟨h, _⟩ <;> omega
    cases hi with
    | old _ _ _ hk => exact absurd rfl hk
    | many _ R hw hWr hq hne =>
    unfold gOpM at *
    simp only [hj] at *
    have hwp : ∀ u, Region.wanted oj (yielded ops (a.put oi.dst u).tmps) = Region.wanted oj (yielded ops a.tmps) := fun u => wanted_put oj a oi.dst u h1
    have hep : ∀ u, execOp (a.put oi.dst u).eval oj = execOp a.eval oj := fun u => execOp_put oj hsj a oi.dst u h1
    have back : ∀ (u : Value) (B' : Blocks), (∀ x, Has B' x → Has B x) → MStep P ops w Wr oi (a.put oj.dst u) (kd i) B' fun v B2 => ∃ Bn, R v Bn ∧ Fin Bn ∧ (∀ g o, Bn g = some o → g ∈ Wr ∨ (w.heap.size ≤ g ∧ B' g = none)) ∧ B2 = B'.over Bn := fun u B' hm => by
      rw [hki]; exact MStep.put hsi h3 (.many B' R hw hWr (fun x hx hB => hq x hx (hm x hB)) hne)
    obtain ⟨v0, Bn0, r1, r2, r3⟩ := many_some hf hne w.heap.size
    obtain ⟨O, hO, _⟩ := H v0 _ ⟨Bn0, r1, r2, r3, rfl⟩
    have hO := hO.isOld hkj
    generalize kd j = kj at *
    cases hO with
    | skip _ _ hw' =>
      refine ⟨_, .old _ _ _ hkj (.skip kj B ((hwp _).symm.trans hw')), fun u B' hu => ?_⟩
      obtain ⟨rfl, rfl⟩ := hu
      refine ⟨hf, _, back undef _ (fun _ h => h), fun v B2 h' => ?_⟩
      obtain ⟨Bn, s1, s2, s3, rfl⟩ := h'
      obtain ⟨O, hO, hK⟩ := H v _ ⟨Bn, s1, s2, s3, rfl⟩
      have hO := hO.isOld hkj
      rw [← Act.put_comm a v undef h2]
      cases hO with
      | skip => exact hK _ _ ⟨rfl, rfl⟩
      | quiet _ _ hw2 | read _ _ hw2 | write _ _ _ _ hw2 | alloc _ _ _ hw2 | new _ _ _ hw2 | grow _ _ _ _ _ hw2 =>
        rw [hwp] at hw2 hw'; rw [hw'] at hw2; cases hw2
    | quiet _ u hw' hq' =>
      have hp : plainOp oj = true := by rcases hok' with h | h; cases h; exact h.2
      have hr := fun x hx => plain_run hp (hq' x hx)
      refine ⟨_, .old _ _ _ hkj (.quiet B u ((hwp _).symm.trans hw') (fun x hx => (quietAt_put hsj h1).1 (hq' x hx))), fun u' B' hu => ?_⟩
      obtain ⟨rfl, rfl⟩ := hu
      refine ⟨hf, _, back _ _ (fun _ h => h), fun v B2 h' => ?_⟩
      obtain ⟨Bn, s1, s2, s3, rfl⟩ := h'
      obtain ⟨O, hO, hK⟩ := H v _ ⟨Bn, s1, s2, s3, rfl⟩
      have hO := hO.isOld hkj
      rw [← Act.put_comm a v _ h2]
      cases hO with
      | skip _ _ hw2 => rw [hwp] at hw2 hw'; rw [hw'] at hw2; cases hw2
      | quiet _ u2 hw2 hq2 =>
        have e1 := hr w (Behind.refl w Wr)
        have e2 := plain_run hp (hq2 w (Behind.refl w Wr))
        rw [hep] at e1 e2
        rw [e1] at e2
        simp only [Result.ok.injEq, Next.value.injEq, and_true] at e2
        exact hK _ _ ⟨e2, rfl⟩
    | read => simp at hok'
    | write => simp at hok'
    | alloc _ sc oc hw' hq' =>
      refine ⟨_, .old _ _ _ hkj (.alloc B sc oc ((hwp _).symm.trans hw') (fun x hx => by rw [← hep]; exact hq' x hx)), fun u' B' hu => ?_⟩
      obtain ⟨b, hb, hbn, rfl, rfl⟩ := hu
      refine ⟨hf.put _ _, _, back _ _ (fun _ h => h.of_put hbn), fun v B2 h' => ?_⟩
      obtain ⟨Bn, s1, s2, s3, rfl⟩ := h'
      have hbb : Bn b = none := by
        cases hc : Bn b with
        | none => rfl
        | some o =>
          rcases s3 b o hc with h | ⟨_, h⟩
          · have := hWr b h; omega
          · rw [Blocks.put_same] at h; cases h
      have s3' : ∀ g o, Bn g = some o → g ∈ Wr ∨ (w.heap.size ≤ g ∧ B g = none) := fun g o hg => (s3 g o hg).imp id fun h => ⟨h.1, by
        have hgb : g ≠ b := fun e => by subst e; rw [hbb] at hg; cases hg
        have := h.2
        rwa [Blocks.put_other _ _ hgb] at this⟩
      obtain ⟨O, hO, hK⟩ := H v _ ⟨Bn, s1, s2, s3', rfl⟩
      have hO := hO.isOld hkj
      have ecomm : (B.put b oc).over Bn = (B.over Bn).put b oc := by
        funext k
        by_cases hk : k = b
        · subst hk; rw [Blocks.over_none hbb, Blocks.put_same, Blocks.put_same]
        · rw [Blocks.put_other _ _ hk]
          cases hc : Bn k with
          | none => rw [Blocks.over_none hc, Blocks.over_none hc, Blocks.put_other _ _ hk]
          | some o => rw [Blocks.over_some hc, Blocks.over_some hc]
      rw [← Act.put_comm a v _ h2, ecomm]
      cases hO with
      | skip _ _ hw2 => rw [hwp] at hw2 hw'; rw [hw'] at hw2; cases hw2
      | alloc _ sc2 oc2 hw2 hq2 =>
        have e1 := hq' w (Behind.refl w Wr)
        have e2 := hq2 w (Behind.refl w Wr)
        rw [hep] at e1 e2
        rw [e1] at e2
        simp only [Result.ok.injEq, Next.value.injEq] at e2
        have e3 := valOf_inj e2.1
        have e4 := alloc_inj e2.2
        subst e3 e4
        exact hK _ _ ⟨b, hb, by rw [Blocks.over_none hbb]; exact hbn, rfl, rfl⟩
    | new => simp at hok'
    | grow => simp at hok'
  · have hiO := hi.isOld hki
    by_cases hkj : kd j = 6
    · -- a quiet one, then a call that writes
      have hk0 : kd i = 0 := by simpa [okPairM, hki, hkj] using hok
      unfold gOpM at *
      simp only [hj] at *
      rw [hk0] at hiO
      have key : ∀ v, Oi v B → (∀ u B', ∃ Oi', GStep P ops w Wr oi (a.put oj.dst u) 0 B' Oi' ∧ ∀ v' B2, Oi' v' B2 → v' = v ∧ B2 = B') →
          ∃ O, MStep P ops w Wr oj a (kd j) B O ∧ ∀ u B', O u B' → Fin B' ∧ ∃ Oi', MStep P ops w Wr oi (a.put oj.dst u) (kd i) B' Oi' ∧ ∀ v B2, Oi' v B2 → K ((a.put oj.dst u).put oi.dst v) B2 := fun v hv hs => by
        obtain ⟨O, hO, hK⟩ := H v B hv
        refine ⟨O, hO.unput hsj h1, fun u B' hu => ⟨hO.fin hf u B' hu, ?_⟩⟩
        obtain ⟨Oi', g1, g2⟩ := hs u B'
        refine ⟨Oi', .old _ _ _ hki (by rw [hk0]; exact g1), fun v' B2 h' => ?_⟩
        obtain ⟨rfl, rfl⟩ := g2 v' B2 h'
        rw [← Act.put_comm a v' u h2]
        exact hK u _ hu
      cases hiO with
      | skip _ _ hw => exact key undef ⟨rfl, rfl⟩ fun u B' => ⟨_, .skip 0 B' ((wanted_put oi a oj.dst u h3).trans hw), fun _ _ h => h⟩
      | quiet _ v hw hq => exact key v ⟨rfl, rfl⟩ fun u B' => ⟨_, GStep.put hsi h3 (.quiet B' v hw hq), fun _ _ h => h⟩
    · have hok' : okPair (kd i) (kd j) oj = true := by simpa [okPairM, hki, hkj] using hok
      have H' : ∀ v B1, Oi v B1 → gOp P ops w Wr kd j K (a.put oi.dst v) B1 := fun v B1 hv => by
        have := H v B1 hv
        unfold gOpM at this
        unfold gOp
        simp only [hj] at this ⊢
        obtain ⟨O, hO, hK⟩ := this
        exact ⟨O, hO.isOld hkj, hK⟩
      have := gOp_put hj hap hok' hsi hsj hf hiO H'
      unfold gOp at this
      unfold gOpM
      simp only [hj] at this ⊢
      obtain ⟨O, hO, hK⟩ := this
      refine ⟨O, .old _ _ _ hkj hO, fun v B' hv => ?_⟩
      obtain ⟨hf', Oi', g1, g2⟩ := hK v B' hv
      exact ⟨hf', Oi', .old _ _ _ hki g1, g2⟩

structure FreeM (md : Region.Mode) (ops : Array Oper) (kd : Nat → Nat) (i : Nat) (oi : Oper) (D : Nat → Bool) (s : Array Bool) : Prop where
  dep : ∀ j oj, ops[j]? = some oj → D j = true → ∃ e ∈ oj.after, Region.binds md e = true ∧ (e.on = i ∨ D e.on = true)
  un : ∀ j, D j = true → s.getD j true = false
  ok : ∀ j oj, ops[j]? = some oj → j ≠ i → s.getD j true = false → D j = false → oi.apart ops oj = true ∧ okPairM (kd i) (kd j) oj = true

theorem FreeM.not {kd : Nat → Nat} {i j : Nat} {oi oj : Oper} {D : Nat → Bool} {s : Array Bool} (h : FreeM md ops kd i oi D s) (hun : s.getD i true = false) (hj : ops[j]? = some oj)
    (hall : ∀ e ∈ oj.after, Region.binds md e = true → s.getD e.on true = true) : D j = false := by
  rw [Bool.eq_false_iff]
  intro hd
  obtain ⟨e, he, hb, h1 | h1⟩ := h.dep j oj hj hd
  · have := hall e he hb
    rw [h1, hun] at this; cases this
  · have := hall e he hb
    rw [h.un _ h1] at this; cases this

theorem FreeM.set {kd : Nat → Nat} {i j : Nat} {oi : Oper} {D : Nat → Bool} {s : Array Bool} (h : FreeM md ops kd i oi D s) (hjun : s.getD j true = false) (hd : D j = false) : FreeM md ops kd i oi D (s.setIfInBounds j true) where
  dep := h.dep
  un := fun k hk => by
    have : j ≠ k := fun e => by subst e; rw [hd] at hk; cases hk
    rw [getD_set_ne true this]; exact h.un k hk
  ok := fun k ok hk hki hu hno => h.ok k ok hk hki (by
    by_cases hjk : j = k
    · subst hjk; exact hjun
    · rwa [getD_set_ne true hjk] at hu) hno

theorem gameM_first {kd : Nat → Nat} {Q : Act → Blocks → Prop} {i : Nat} {oi : Oper} {D : Nat → Bool} (hi : ops[i]? = some oi) (hsel : ∀ (j : Nat) (o : Oper) cs b, ops[j]? = some o → o.op ≠ .select cs b) :
    ∀ (fuel : Nat) (s : Array Bool) (a : Act) (B : Blocks) (Oi : Value → Blocks → Prop),
      FreeM md ops kd i oi D s →
      i ∈ Region.ready md ops s → Fin B → MStep P ops w Wr oi a (kd i) B Oi →
      (∀ v B', Oi v B' → GameM P md ops w Wr kd Q fuel (s.setIfInBounds i true) (a.put oi.dst v) B') → (∃ v B', Oi v B') → GameM P md ops w Wr kd Q (fuel + 1) s a B := by
  intro fuel
  induction fuel with
  | zero =>
    intro s a B Oi _ hr hf hg H hne
    refine ⟨fun h => (by rw [h] at hr; cases hr), fun j hj => ?_⟩
    by_cases hji : j = i
    · subst hji
      unfold gOpM
      simp only [hi]
      exact ⟨Oi, hg, H⟩
    · obtain ⟨v, B', hO⟩ := hne
      have := ready_mono hj hji
      rw [(H v B' hO).1] at this
      cases this
  | succ fuel ih =>
    intro s a B Oi hfree hr hf hg H hne
    have h0 := (mem_ready.1 hr).1
    refine ⟨fun h => (by rw [h] at hr; cases hr), fun j hj => ?_⟩
    by_cases hji : j = i
    · subst hji
      unfold gOpM
      simp only [hi]
      exact ⟨Oi, hg, H⟩
    · obtain ⟨hjun, oj, hoj, hall⟩ := mem_ready.1 hj
      have hall' : ∀ e ∈ oj.after, Region.binds md e = true → s.getD e.on true = true := fun e he hb => getD_tt (hall e he hb)
      have hd := hfree.not h0 hoj hall'
      obtain ⟨hap, hok⟩ := hfree.ok j oj hoj hji hjun hd
      have h2 := gOpM_put hoj hap hok (fun cs b => hsel i oi cs b hi) (fun cs b => hsel j oj cs b hoj) hf hg (fun v B1 hO => (H v B1 hO).2 j (ready_mono hj hji))
      refine gOpM_mono (fun a' B' h3 => ?_) h2
      obtain ⟨hf', Oi', hg', hK⟩ := h3
      refine ih (s.setIfInBounds j true) a' B' Oi' (hfree.set hjun hd) (ready_mono hr (Ne.symm hji)) hf' hg' (fun v B2 hO => ?_) (hg'.inhab hf')
      rw [Array.setIfInBounds_comm _ _ hji]; exact hK v B2 hO

def wpLexM (P : Program) (ops : Array Oper) (w : World) (Wr : List Nat) (kd : Nat → Nat) (Q : Act → Blocks → Prop) : List Oper → Nat → Act → Blocks → Prop
  | [], _, a, B => Q a B
  | o :: rest, k, a, B => ∃ O, MStep P ops w Wr o a (kd k) B O ∧ ∀ v B', O v B' → wpLexM P ops w Wr kd Q rest (k + 1) (a.put o.dst v) B'

def freeM (md : Region.Mode) (ops : Array Oper) (kd : Nat → Nat) (s : Array Bool) (i : Nat) : Bool :=
  match ops[i]? with
  | none => false
  | some oi => (List.range ops.size).all fun j => match ops[j]? with
      | none => true
      | some oj => if (depList md ops i).getD j false then s.getD j true == false && oj.after.any (fun e => Region.binds md e && (e.on == i || (decide (e.on < ops.size) && (depList md ops i).getD e.on false)))
        else j == i || s.getD j true || (oi.apart ops oj && okPairM (kd i) (kd j) oj)

theorem freeM_spec {kd : Nat → Nat} {i : Nat} {oi : Oper} {s : Array Bool} (hi : ops[i]? = some oi) (h : freeM md ops kd s i = true) : FreeM md ops kd i oi (fun j => decide (j < ops.size) && (depList md ops i).getD j false) s := by
  simp only [freeM, hi, List.all_eq_true, List.mem_range] at h
  refine ⟨fun j oj hj hd => ?_, fun j hd => ?_, fun j oj hj hne hun hd => ?_⟩
  · have hlt := (Array.getElem?_eq_some_iff.1 hj).1
    have h1 := h j hlt
    simp only [hlt, decide_true, Bool.true_and] at hd
    simp only [hj, hd, if_true, Bool.and_eq_true] at h1
    obtain ⟨e, he, hb⟩ := Array.any_eq_true'.1 h1.2
    simp only [Bool.and_eq_true, Bool.or_eq_true, beq_iff_eq] at hb
    exact ⟨e, he, hb.1, hb.2.imp id fun h => by simpa using h⟩
  · simp only [Bool.and_eq_true, decide_eq_true_eq] at hd
    have h1 := h j hd.1
    simp only [Array.getElem?_eq_getElem hd.1, hd.2, if_true, Bool.and_eq_true, beq_iff_eq] at h1
    exact h1.1
  · have hlt := (Array.getElem?_eq_some_iff.1 hj).1
    have h1 := h j hlt
    simp only [hlt, decide_true, Bool.true_and] at hd
    simp only [hj, hd, Bool.false_eq_true, if_false] at h1
    simpa [hne, hun] using h1

def lexM (md : Region.Mode) (ops : Array Oper) (kd : Nat → Nat) : Nat → Nat → Array Bool → Bool
  | 0, _, s => (Region.ready md ops s).isEmpty
  | fuel + 1, k, s => (Region.ready md ops s).contains k && freeM md ops kd s k && lexM md ops kd fuel (k + 1) (s.setIfInBounds k true)

def gameMB (md : Region.Mode) (ops : Array Oper) (kinds : List Nat) : Bool := Region.noSelect ops && lexM md ops (fun k => kinds.getD k 0) ops.size 0 (Array.replicate ops.size false)

theorem gameM_lex {kd : Nat → Nat} {Q : Act → Blocks → Prop} (hs : Region.noSelect ops = true) : ∀ (l : List Oper) (k : Nat) (s : Array Bool) (a : Act) (B : Blocks), (∀ j, l[j]? = ops[k + j]?) → Fin B →
    lexM md ops kd l.length k s = true → wpLexM P ops w Wr kd Q l k a B → GameM P md ops w Wr kd Q l.length s a B
  | [], _, _, _, _, _, _, hB, h => ⟨by simpa [lexM] using hB, h⟩
  | o :: l, k, s, a, B, hl, hf, hB, h => by
    have h0 : ops[k]? = some o := by simpa using (hl 0).symm
    simp only [List.length_cons, lexM, Bool.and_eq_true] at hB
    obtain ⟨O, hg, hK⟩ := h
    exact gameM_first h0 (Region.noSelect_spec hs) l.length s a B O (freeM_spec h0 hB.1.2) (by simpa using hB.1.1) hf hg
      (fun v B' hO => gameM_lex hs l (k + 1) _ _ B' (fun j => by have := hl (j + 1); simpa [Nat.add_assoc, Nat.add_comm 1 j] using this) (hg.fin hf v B' hO) hB.2 (hK v B' hO)) (hg.inhab hf)

theorem wp_gameM {id : Nat} {Q : Exit → Act → World → Prop} {a : Act} {l : List Oper} (kinds : List Nat) (Wr : List Nat) (B : Blocks) (hf : Fin B) (hB : Has B w) (hm : P.follows .mixedOrders = true) (hc : gameMB .any l.toArray kinds = true)
    (h : wpLexM P l.toArray w Wr (fun k => kinds.getD k 0) (fun a' B' => ∀ x, Behind w Wr x → Has B' x → Q .normal a' x) l 0 a B) : (Code.region id l.toArray true).wp P Q a w := by
  simp only [gameMB, Bool.and_eq_true] at hc
  refine wp_region_any hm (wpAny_of_gameM (w := w) (Wr := Wr) (kd := fun k => kinds.getD k 0) (Q := fun a' B' => ∀ x, Behind w Wr x → Has B' x → Q .normal a' x) (fun a' B' x hx hB' h' => h' x hx hB') _ _ _ B _ (Behind.drew w Wr) hB ?_)
  have := gameM_lex (md := .any) hc.1 l 0 (Array.replicate l.toArray.size false) a B (by simp) hf (by simpa using hc.2) h
  simpa using this


theorem lexM_of {kd : Nat → Nat} {Q : Act → Blocks → Prop} : ∀ (l1 l2 : List Oper) (k : Nat) (a : Act) (B : Blocks), ((List.range l1.length).all fun j => kd (k + j) != 6) = true →
    wpLex P ops w Wr kd (fun a' B' => wpLexM P ops w Wr kd Q l2 (k + l1.length) a' B') l1 k a B → wpLexM P ops w Wr kd Q (l1 ++ l2) k a B
  | [], l2, k, a, B, _, h => h
  | o :: l1, l2, k, a, B, hk, h => by
    obtain ⟨O, hg, hK⟩ := h
    have hk0 : kd k ≠ 6 := by
      have := List.all_eq_true.1 hk 0 (by simp)
      simpa using this
    refine ⟨O, .old _ _ _ hk0 hg, fun v B' hv => lexM_of l1 l2 (k + 1) _ B' (List.all_eq_true.2 fun j hj => ?_) ?_⟩
    · have := List.all_eq_true.1 hk (j + 1) (by simp at hj ⊢; omega)
      rwa [show k + (j + 1) = k + 1 + j by omega] at this
    · have := hK v B' hv
      rw [show k + (o :: l1).length = k + 1 + l1.length by simp; omega] at this
      exact this
end
end Go.Proofs.YtallcgpiecopcaaDoor

/- Calls that write in a drawn region: what they leave is all that is new. -/
namespace Go.Proofs.YtallcgpiecopcaaDoor
open Go.RowKit

def newB (Wr : List Nat) (x w' : World) : Blocks := fun g => if g ∈ Wr ∨ x.heap.size ≤ g then w'.heap[g]? else none
section
variable {P : Program} {ops : Array Oper} {w : World} {Wr : List Nat} {B : Blocks}
theorem fin_newB (x w' : World) : Fin (newB Wr x w') := ⟨w'.heap.size, fun b hb => by
  unfold newB
  split
  · exact Array.getElem?_eq_none hb
  · rfl⟩
theorem has_newB (x w' : World) : Has (newB Wr x w') w' := fun b o h => by
  unfold newB at h
  split at h
  · exact h
  · cases h
theorem newB_in {x w' : World} {g : Nat} (h : g ∈ Wr ∨ x.heap.size ≤ g) : newB Wr x w' g = w'.heap[g]? := if_pos h
def worldOf (w : World) (B : Blocks) (M : Nat) : World := { w with heap := Array.ofFn (n := M) fun k => (B k.val).getD ((w.heap[k.val]?).getD (.map #[] 0)) }
theorem worldOf_get {M k : Nat} (hk : k < M) : (worldOf w B M).heap[k]? = some ((B k).getD ((w.heap[k]?).getD (.map #[] 0))) := by
  unfold worldOf
  simp [hk]
theorem worldOf_size {M : Nat} : (worldOf w B M).heap.size = M := by simp [worldOf]
theorem exists_world (hf : Fin B) (hBn : ∀ g o, B g = some o → g ∈ Wr ∨ w.heap.size ≤ g) (N : Nat) : ∃ x, Behind w Wr x ∧ Has B x ∧ N ≤ x.heap.size := by
  obtain ⟨F, hF⟩ := hf
  refine ⟨worldOf w B (max N (max F w.heap.size)), ⟨rfl, rfl, rfl, by rw [worldOf_size]; omega, fun k hk hn => ?_⟩, fun b o hb => ?_, by rw [worldOf_size]; omega⟩
  · rw [worldOf_get (by omega)]
    have : B k = none := by
      cases h : B k with
      | none => rfl
      | some o =>
        rcases hBn k o h with h' | h'
        · exact absurd h' hn
        · omega
    rw [this, Array.getElem?_eq_getElem hk]; rfl
  · have : b < F := by
      rcases Nat.lt_or_ge b F with h | h
      · exact h
      · rw [hF b h] at hb; cases hb
    rw [worldOf_get (by omega), hb]; rfl

theorem lexM_many {kd : Nat → Nat} {Q : Act → Blocks → Prop} {rest : List Oper} {k d : Nat} {c : Call} {ty : TypeId} {pos : String} {after : Array Edge} {a : Act} {f : FuncId} {vs : Array Value} (R : Value → Blocks → Prop) (hk : kd k = 6) (hWr : ∀ g ∈ Wr, g < w.heap.size) (hf : Fin B) (hBn : ∀ g o, B g = some o → g ∈ Wr ∨ w.heap.size ≤ g)
    (hrun : ∀ x, (execOp a.eval ⟨some d, .call c, ty, pos, after, none⟩).run P x = .ok (.enter f vs) x)
    (hc : ∀ x, Behind w Wr x → Has B x → Calls P f vs x fun e w' => ∃ v, e = .returned v ∧ Behind x Wr w' ∧ R v (newB Wr x w'))
    (h : ∀ v Bn, R v Bn → Fin Bn → (∀ g o, Bn g = some o → g ∈ Wr ∨ w.heap.size ≤ g) → setSlot P ops d ty pos v (fun a' => wpLexM P ops w Wr kd Q rest (k + 1) a' (B.over Bn)) a) :
    wpLexM P ops w Wr kd Q (⟨some d, .call c, ty, pos, after, none⟩ :: rest) k a B := by
  have hm : ∀ x, Behind w Wr x → Has B x → manyUpon P R Wr x ((execOp a.eval ⟨some d, .call c, ty, pos, after, none⟩).run P x) := fun x hx hB => by
    rw [hrun]
    refine ⟨rfl, (hc x hx hB).mono ?_⟩
    rintro e w' ⟨v, rfl, hB', hR⟩
    refine ⟨v, newB Wr x w', rfl, hR, fin_newB _ _, has_newB _ _, hB', fun g o hg => ?_, fun g hg => ?_⟩
    · unfold newB at hg
      split at hg
      · rename_i h; exact h
      · cases hg
    · rw [newB_in (.inl hg)]
      have h1 := hWr g hg
      have h2 := hx.size
      have h3 := hB'.size
      rw [Array.getElem?_eq_getElem (show g < w'.heap.size by omega)]
      simp
  have hin : ∀ N, ∃ v Bn, R v Bn ∧ Fin Bn ∧ ∀ g o, Bn g = some o → g ∈ Wr ∨ N ≤ g := fun N => by
    obtain ⟨x, hx, hB, hN⟩ := exists_world hf hBn N
    obtain ⟨e, w', _, ⟨v, rfl, hB', hR⟩, _⟩ := hc x hx hB []
    refine ⟨v, newB Wr x w', hR, fin_newB _ _, fun g o hg => ?_⟩
    unfold newB at hg
    split at hg
    · rename_i h; exact h.imp id (fun e => by omega)
    · cases hg
  have g : MStep P ops w Wr ⟨some d, .call c, ty, pos, after, none⟩ a (kd k) B (fun v B' => ∃ Bn, R v Bn ∧ Fin Bn ∧ (∀ g o, Bn g = some o → g ∈ Wr ∨ (w.heap.size ≤ g ∧ B g = none)) ∧ B' = B.over Bn) := by
    rw [hk]
    exact .many B R rfl hWr hm hin
  refine ⟨_, g, fun v B' hO => ?_⟩
  obtain ⟨Bn, h1, h2, h3, rfl⟩ := hO
  exact of_setSlot (h v Bn h1 h2 (fun g o hg => (h3 g o hg).imp id (fun e => e.1)))
theorem lexM_split {kd : Nat → Nat} {Q : Act → Blocks → Prop} {l : List Oper} {k : Nat} {a : Act} (n : Nat) (hn : n ≤ l.length) (hk : ((List.range n).all fun j => kd (k + j) != 6) = true)
    (h : wpLex P ops w Wr kd (fun a' B' => wpLexM P ops w Wr kd Q (l.drop n) (k + n) a' B') (l.take n) k a B) : wpLexM P ops w Wr kd Q l k a B := by
  have e : (l.take n).length = n := by rw [List.length_take]; omega
  have := lexM_of (P := P) (ops := ops) (w := w) (Wr := Wr) (kd := kd) (Q := Q) (l.take n) (l.drop n) k a B (by rw [e]; exact hk) (by rw [e]; exact h)
  rw [List.take_append_drop] at this
  exact this
end
end Go.Proofs.YtallcgpiecopcaaDoor
