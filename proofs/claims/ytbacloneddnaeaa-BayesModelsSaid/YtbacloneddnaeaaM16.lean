/- Texts of this claim, joined: BRound. -/
import Derived.Test.YtbacloneddnaeaaM03
import Derived.RangeFuncNested
import Derived.RangeFuncBound
import Derived.RangeFuncCalls
import Derived.RangeFuncLeaves
import Derived.Shelf.Abstract
import Derived.Shelf.RegionOpen
import Derived.WalkKit
import Derived.OwnWalkIn
import Derived.TacticsInMore
import Derived.LoopNIn
import Derived.LoopIn

/- Regions walked by the game, in a round of a range over a function. -/
namespace Go.Proofs.Ytbacloneddnaeaa
open Go.RowKit

section
variable {P : Program} {ops : Array Oper} {w : World} {Wr : List Nat} {n : Nat} {r : Option Nat}

def tame (o : Oper) : Bool := match o.op with
  | .defer _ => false
  | _ => true

theorem tame_ne {o : Oper} (h : tame o = true) : ∀ c, o.op ≠ .defer c := fun c hc => by simp [tame, hc] at h

def ro (r : Option Nat) : Fence := { Fence.wide with round := r }
theorem calls_ro {n : Nat} {P : Program} {f : FuncId} {args : Array Value} {w : World} {R : Ending → World → Prop} {r : Option Nat} (h : Calls P f args w R) : CallsIn (ro r) n P f args w R :=
  show CallsIn Fence.wide n P f args w R from callsIn_wide.2 h

theorem oper_round {o : Oper} {a : Act} {K : Act → World → Prop} {Q : Exit → Act → World → Prop} {x : World} (hd : tame o = true) (h : o.wp P a x K fun _ _ _ => False) :
    o.wpIn (ro r) n P a x K Q := by
  unfold Oper.wpIn
  refine ⟨fun _ _ => trivial, ?_⟩
  have hs : Oper.semAt (ro r).round a.eval o = execOp a.eval o := by
    cases r with
    | none => rfl
    | some l => exact Oper.semAt_some l _ _ (tame_ne hd)
  rw [hs]
  unfold Oper.wp at h
  generalize (execOp a.eval o).run P x = r at *
  cases r with
  | ok v x' =>
    cases v with
    | value v => exact h
    | skip => exact h
    | defer d => exact h
    | enter f args =>
      refine ⟨fun e => by simp [ro, Fence.wide] at e, calls_ro (Calls.mono h ?_)⟩
      rintro (v | c | _) w2 hv
      · exact hv
      · exact hv.elim
      · obtain ⟨_, _, hv⟩ := hv; exact hv.elim
    | row rw args => exact ⟨fun e => by simp [ro, Fence.wide] at e, fun c cs _ => by
        obtain ⟨v, w2, h1, h2⟩ := h c cs
        exact ⟨v, w2, h1, stepsIn_wide.2 h2⟩⟩
    | _ => exact (show False from h).elim
  | halt y x' => 
    cases y <;> exact (show False from h).elim

theorem gOp_round {kd : Nat → Nat} {i : Nat} {a : Act} {B : Blocks} {K : Act → Blocks → Prop} {K' : Act → World → Prop} {Q' : Exit → Act → World → Prop} {x : World} (ht : ∀ (j : Nat) o, ops[j]? = some o → tame o = true) (hx : Behind w Wr x) (hB : Has B x)
    (h : ∀ a' B' x', Behind w Wr x' → Has B' x' → K a' B' → K' a' x') (hh : gOp P ops w Wr kd i K a B) : wpOpIn (ro r) n P ops Q' i K' a x := by
  unfold gOp at hh
  unfold wpOpIn
  split
  · rename_i ho; simp only [ho] at hh; exact h _ _ _ hx hB hh
  · rename_i o ho
    simp only [ho] at hh
    obtain ⟨O, hg, hK⟩ := hh
    have := hg.sound (K' := K') (Q' := fun _ _ _ => False) hx hB fun v B' x' hx' hB' hO => h _ _ _ hx' hB' (hK v B' hO)
    split
    · rename_i hw
      rw [if_pos hw] at this
      rcases this with h1 | ⟨_, _, _, h1⟩
      · exact oper_round (ht i o ho) h1
      · exact h1.elim
    · rename_i hw
      rw [if_neg hw] at this
      exact ⟨fun _ _ => trivial, this⟩

theorem wpAnyIn_of_game {md : Region.Mode} {kd : Nat → Nat} {Q : Act → Blocks → Prop} {Q' : Exit → Act → World → Prop} (ht : ∀ (j : Nat) o, ops[j]? = some o → tame o = true) (hQ : ∀ a B x, Behind w Wr x → Has B x → Q a B → Q' .normal a x) : ∀ (f : Nat) (s : Array Bool) (a : Act) (B : Blocks) (x : World), Behind w Wr x → Has B x →
    Game P md ops w Wr kd Q f s a B → wpAnyIn (ro r) n P md ops Q' f s a x
  | 0, _, _, _, _, hx, hB, h => ⟨h.1, hQ _ _ _ hx hB h.2⟩
  | f + 1, _, _, _, _, hx, hB, h => ⟨fun h0 => hQ _ _ _ hx hB (h.1 h0), fun i hi => gOp_round ht hx hB (fun a' B' x' hx' hB' => wpAnyIn_of_game ht hQ f _ a' B' x' hx' hB') (h.2 i hi)⟩

theorem tame_all {l : List Oper} (h : l.all tame = true) (j : Nat) (o : Oper) (ho : l.toArray[j]? = some o) : tame o = true := by
  rw [List.all_eq_true] at h
  exact h o (List.mem_of_getElem? (by simpa using ho))

theorem wpIn_game_ro {id : Nat} {Q : Exit → Act → World → Prop} {a : Act} {ls : List Oper} (kinds : List Nat) (Wr : List Nat) (B : Blocks) (hf : Fin B) (hB : Has B w) (hm : P.follows .mixedOrders = true) (hc : gameB .any ls.toArray kinds = true) (ht : ls.all tame = true)
    (h : wpLex P ls.toArray w Wr (fun k => kinds.getD k 0) (fun a' B' => ∀ x, Behind w Wr x → Has B' x → Q .normal a' x) ls 0 a B) : (Code.region id ls.toArray true).wpIn (ro r) n P Q a w := by
  simp only [gameB, Bool.and_eq_true] at hc
  refine wpIn_region_any hm (wpAnyIn_of_game (w := w) (Wr := Wr) (kd := fun k => kinds.getD k 0) (Q := fun a' B' => ∀ x, Behind w Wr x → Has B' x → Q .normal a' x) (tame_all ht) (fun a' B' x hx hB' h' => h' x hx hB') _ _ _ B _ (Behind.drew w Wr) hB ?_)
  have := game_lex (md := .any) hc.1 ls 0 (Array.replicate ls.toArray.size false) a B (by simp) hf (by simpa using hc.2) h
  simpa using this

theorem wpListIn_game {Q : Exit → Act → World → Prop} {kd : Nat → Nat} {Q' : Act → Blocks → Prop} (hQ : ∀ a B x, Behind w Wr x → Has B x → Q' a B → Q .normal a x) : ∀ (ls : List Oper) (k : Nat) (a : Act) (B : Blocks) (x : World), ls.all tame = true → Behind w Wr x → Has B x →
    wpLex P ops w Wr kd Q' ls k a B → wpListIn (ro r) n P ops Q ls a x
  | [], _, _, _, _, _, hx, hB, h => hQ _ _ _ hx hB h
  | o :: rest, k, a, B, x, ht, hx, hB, h => by
    obtain ⟨O, hg, hK⟩ := h
    simp only [List.all_cons, Bool.and_eq_true] at ht
    have := hg.sound (K' := wpListIn (ro r) n P ops Q rest) (Q' := fun _ _ _ => False) hx hB fun v B' x' hx' hB' hO => wpListIn_game hQ rest (k + 1) _ B' x' ht.2 hx' hB' (hK v B' hO)
    unfold wpListIn
    split
    · rename_i hw
      rw [if_pos hw] at this
      rcases this with h1 | ⟨_, _, _, h1⟩
      · exact oper_round ht.1 h1
      · exact h1.elim
    · rename_i hw
      rw [if_neg hw] at this
      exact ⟨fun _ _ => trivial, this⟩

theorem wpListIn_from_ro {Q : Exit → Act → World → Prop} {a : Act} {op : Op} {ty : TypeId} {pos : String} {after : Array Edge} {g : Option (Nat × Bool)} {rest : List Oper} (d : Nat) (kinds : List Nat) (Wr : List Nat) (B : Blocks) (hB : Has B w) (ht : (({ dst := some d, op := op, type := ty, pos := pos, after := after, guard := g } : Oper) :: rest).all tame = true)
    (h : wpLex P ops w Wr (fun k => kinds.getD k 0) (fun a' B' => ∀ x, Behind w Wr x → Has B' x → Q .normal a' x) ({ dst := some d, op := op, type := ty, pos := pos, after := after, guard := g } :: rest) 0 a B) :
    wpListIn (ro r) n P ops Q ({ dst := some d, op := op, type := ty, pos := pos, after := after, guard := g } :: rest) a w :=
  wpListIn_game (w := w) (fun _ _ x hx hB' h' => h' x hx hB') _ 0 a B w ht (Behind.refl w Wr) hB h

theorem wpAnyIn_of_seq {md : Region.Mode} {Q' : Exit → Act → World → Prop} : ∀ (ls : List Oper) (k : Nat) (s : Array Bool) (a : Act) (x : World), (∀ j, ls[j]? = ops[k + j]?) →
    Region.seqB md ops ls.length k s = true → wpListIn (ro r) n P ops Q' ls a x → wpAnyIn (ro r) n P md ops Q' ls.length s a x
  | [], _, _, _, _, _, hB, h => ⟨by simpa [Region.seqB] using hB, h⟩
  | o :: ls, k, s, a, x, hl, hB, h => by
    have h0 : ops[k]? = some o := by simpa using (hl 0).symm
    simp only [List.length_cons, Region.seqB, Bool.and_eq_true, decide_eq_true_eq] at hB
    refine ⟨fun h1 => (by rw [hB.1] at h1; cases h1), fun i hi => ?_⟩
    rw [hB.1] at hi
    have hik : i = k := by simpa using hi
    subst hik
    have hw : wpOpIn (ro r) n P ops Q' i (wpListIn (ro r) n P ops Q' ls) a x := by unfold wpOpIn; simp only [h0]; exact h
    exact wpOpIn_mono (fun a' x' h' => wpAnyIn_of_seq ls (i + 1) _ a' x' (fun j => by have := hl (j + 1); simpa [Nat.add_assoc, Nat.add_comm 1 j] using this) hB.2 h') hw

theorem qOp_round {C : World → Prop} {i : Nat} {a : Act} {K : Act → Prop} {K' : Act → World → Prop} {Q' : Exit → Act → World → Prop} {x : World} (ht : ∀ (j : Nat) o, ops[j]? = some o → tame o = true) (hC : C x)
    (h : ∀ a x', C x' → K a → K' a x') (hh : qOp P ops C i K a) : wpOpIn (ro r) n P ops Q' i K' a x := by
  unfold qOp at hh
  unfold wpOpIn
  split
  · rename_i ho; simp only [ho] at hh; exact h _ _ hC hh
  · rename_i o ho
    simp only [ho] at hh
    split
    · rename_i hw; simp only [hw, if_true] at hh; exact oper_round (ht i o ho) (Oper.wp_of_quiet hC h hh)
    · rename_i hw; simp only [hw] at hh; exact ⟨fun _ _ => trivial, h _ _ hC hh⟩

theorem headIn {md : Region.Mode} {C : World → Prop} {m g : Nat} {L : Array Bool → Act → Prop} {Q' : Exit → Act → World → Prop} (ht : ∀ (j : Nat) o, ops[j]? = some o → tame o = true) (hL : ∀ s a x, C x → L s a → wpAnyIn (ro r) n P md ops Q' g s a x) :
    ∀ (f : Nat) (s : Array Bool) (a : Act) (x : World), C x → HeadQ P md ops C m L f s a → wpAnyIn (ro r) n P md ops Q' (f + g) s a x
  | 0, s, a, x, hx, h => by rw [Nat.zero_add]; exact hL _ _ _ hx h
  | f + 1, s, a, x, hx, h => by
    rw [show f + 1 + g = (f + g) + 1 by omega]
    exact ⟨fun h0 => absurd h0 h.1, fun i hi => qOp_round ht hx (fun a' x' hx' h' => headIn ht hL f _ a' x' hx' h') (h.2 i hi).2⟩

theorem wpIn_class_tail_ro {C : World → Prop} {id : Nat} {Q : Exit → Act → World → Prop} {a : Act} {ls : List Oper} (m : Nat) (hm : P.follows .mixedOrders = true) (hB : Region.lexTailB .any ls.toArray m = true) (ht : ls.all tame = true) (hC : C w.drew)
    (h : wpQuiet P ls.toArray C (fun a' => ∀ x, C x → wpListIn (ro r) n P ls.toArray Q (ls.drop m) a' x) (ls.take m) a) : (Code.region id ls.toArray true).wpIn (ro r) n P Q a w := by
  simp only [Region.lexTailB, Bool.and_eq_true, decide_eq_true_eq] at hB
  obtain ⟨⟨⟨⟨hsel, hn⟩, hs⟩, hc⟩, hlex⟩ := hB
  have htl : (ls.take m).length = m := by simp at hn; simp; omega
  have hdl : (ls.drop m).length = ls.toArray.size - m := by simp
  have inv0 : HeadInv .any ls.toArray m (Array.replicate ls.toArray.size false) :=
    ⟨by simp, fun j oj _ hl => (by rw [getD_replicate_false] at hl; cases hl), fun t _ ht => getD_in (by simpa using ht) (getD_replicate_false _ _)⟩
  have H := HeadQ.lex (md := .any) (g := ls.toArray.size - m) hsel hs hc hn (ls.take m) 0 _ a (fun j hj => by rw [htl] at hj; simp [hj]) (by simpa using htl) inv0 (by rw [htl]; exact hlex) h
  refine wpIn_region_any hm ?_
  have := headIn (n := n) (Q' := Q) (g := ls.toArray.size - m) (tame_all ht) (fun s a' w' hw' hL => by
    have := wpAnyIn_of_seq (n := n) (md := .any) (Q' := Q) (ls.drop m) m s a' w' (fun j => by simp [List.getElem?_drop]) (by rw [hdl]; exact hL.1) (hL.2 w' hw')
    rwa [hdl] at this) _ _ _ _ hC H
  rw [htl, show m + (ls.toArray.size - m) = ls.toArray.size by omega] at this
  exact this

theorem wpIn_game {lr : Nat} {id : Nat} {Q : Exit → Act → World → Prop} {a : Act} {ls : List Oper} (kinds : List Nat) (Wr : List Nat) (B : Blocks) (hf : Fin B) (hB : Has B w) (hm : P.follows .mixedOrders = true) (hc : gameB .any ls.toArray kinds = true) (ht : ls.all tame = true)
    (h : wpLex P ls.toArray w Wr (fun k => kinds.getD k 0) (fun a' B' => ∀ x, Behind w Wr x → Has B' x → Q .normal a' x) ls 0 a B) : (Code.region id ls.toArray true).wpIn (Fence.wide.inRound lr) n P Q a w :=
  wpIn_game_ro (r := (some lr)) kinds Wr B hf hB hm hc ht h

theorem wpListIn_from {lr : Nat} {Q : Exit → Act → World → Prop} {a : Act} {op : Op} {ty : TypeId} {pos : String} {after : Array Edge} {g : Option (Nat × Bool)} {rest : List Oper} (d : Nat) (kinds : List Nat) (Wr : List Nat) (B : Blocks) (hB : Has B w) (ht : (({ dst := some d, op := op, type := ty, pos := pos, after := after, guard := g } : Oper) :: rest).all tame = true)
    (h : wpLex P ops w Wr (fun k => kinds.getD k 0) (fun a' B' => ∀ x, Behind w Wr x → Has B' x → Q .normal a' x) ({ dst := some d, op := op, type := ty, pos := pos, after := after, guard := g } :: rest) 0 a B) :
    wpListIn (Fence.wide.inRound lr) n P ops Q ({ dst := some d, op := op, type := ty, pos := pos, after := after, guard := g } :: rest) a w :=
  wpListIn_from_ro (r := (some lr)) d kinds Wr B hB ht h

theorem wpIn_class_tail {lr : Nat} {C : World → Prop} {id : Nat} {Q : Exit → Act → World → Prop} {a : Act} {ls : List Oper} (m : Nat) (hm : P.follows .mixedOrders = true) (hB : Region.lexTailB .any ls.toArray m = true) (ht : ls.all tame = true) (hC : C w.drew)
    (h : wpQuiet P ls.toArray C (fun a' => ∀ x, C x → wpListIn (Fence.wide.inRound lr) n P ls.toArray Q (ls.drop m) a' x) (ls.take m) a) : (Code.region id ls.toArray true).wpIn (Fence.wide.inRound lr) n P Q a w :=
  wpIn_class_tail_ro (r := (some lr)) m hm hB ht hC h

theorem wpListIn_any {lr : Nat} {Q : Exit → Act → World → Prop} {a : Act} {ls : List Oper} (kinds : List Nat) (Wr : List Nat) (B : Blocks) (hB : Has B w) (ht : ls.all tame = true)
    (h : wpLex P ops w Wr (fun k => kinds.getD k 0) (fun a' B' => ∀ x, Behind w Wr x → Has B' x → Q .normal a' x) ls 0 a B) : wpListIn (Fence.wide.inRound lr) n P ops Q ls a w :=
  wpListIn_game (r := some lr) (w := w) (fun _ _ x hx hB' h' => h' x hx hB') ls 0 a B w ht (Behind.refl w Wr) hB h
theorem class_index (C : World → Prop) {x : World} (h : C x) : ∃ (I : Type) (_ : Inhabited I) (f : I → World), ∀ y, C y ↔ ∃ p, y = f p :=
  ⟨{y // C y}, ⟨⟨x, h⟩⟩, Subtype.val, fun y => ⟨fun h => ⟨⟨y, h⟩, rfl⟩, fun ⟨p, hp⟩ => hp ▸ p.2⟩⟩

theorem keepsFrom_behind {W W' : World} (h : Behind W Wr W') (hc : ∀ k ∈ Wr, ∃ xs T, W.heap[k]? = some (.cells xs T (0, 0))) (B : Nat) : KeepsFrom B W W' :=
  ⟨h.size, fun k o _ hk ho => (h.block k (Array.getElem?_eq_some_iff.1 hk).1 fun hm => by
    obtain ⟨xs, T, hx⟩ := hc k hm
    rw [hx] at hk; cases hk; simp [Obj.isCells] at ho).trans hk⟩

end
end Go.Proofs.Ytbacloneddnaeaa
