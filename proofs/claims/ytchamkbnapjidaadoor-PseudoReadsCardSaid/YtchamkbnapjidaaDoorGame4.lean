/- The game: a store of what is there already. -/
import Derived.Test.YtchamkbnapjidaaDoorGame3
namespace Go.Proofs.YtchamkbnapjidaaDoor
open Go.RowKit

theorem setCell_self (x : World) (b o : Nat) (xs : Array Value) (T : TypeId) (v : Value) (h : x.heap[b]? = some (.cells xs T (0, 0))) (hv : xs[o]? = some v) : x.setCell ⟨b, o, none⟩ v = x := by
  have e : xs.setIfInBounds o v = xs := by
    apply Array.ext_getElem?
    intro i
    rw [Array.getElem?_setIfInBounds]
    split
    · rename_i h1
      subst h1
      split
      · exact hv.symm
      · rename_i h2
        rw [Array.getElem?_eq_none (by omega)]
    · rfl
  have hh : (x.setCell ⟨b, o, none⟩ v).heap = x.heap := by
    unfold World.setCell
    apply Array.ext_getElem?
    intro i
    show (x.heap.modify b _)[i]? = _
    rw [Array.getElem?_modify]
    split
    · rename_i h1
      subst h1
      rw [h]
      simp [e]
    · rfl
  have : x.setCell ⟨b, o, none⟩ v = { x with heap := (x.setCell ⟨b, o, none⟩ v).heap } := rfl
  rw [this, hh]

theorem setCells_self (x : World) (b : Nat) (xs : Array Value) (T : TypeId) (h : x.heap[b]? = some (.cells xs T (0, 0))) : ∀ (vs : List Value) (o : Nat), (∀ j, j < vs.length → xs[o + j]? = vs[j]?) → x.setCells b o vs = x
  | [], _, _ => rfl
  | v :: vs, o, hv => by
    have h0 := hv 0 (by simp)
    have e := setCell_self x b o xs T v h (by simpa using h0)
    show (x.setCell ⟨b, o, none⟩ v).setCells b (o + 1) vs = x
    rw [e]
    refine setCells_self x b xs T h vs (o + 1) (fun j hj => ?_)
    have := hv (j + 1) (by simp; omega)
    rw [show o + 1 + j = o + (j + 1) by omega, this]
    simp

section
variable {P : Program} {ops : Array Oper} {w : World} {Wr : List Nat}
theorem lex_store_same {kd : Nat → Nat} {Q : Act → Blocks → Prop} {B : Blocks} {rest : List Oper} {k : Nat} {T ty : TypeId} {p v : Operand} {pos : String} {after : Array Edge} {a : Act} (b : Nat) (val : Value) (xs : Array Value) (E : TypeId) (hk : kd k = 0) (hp : a.eval p = .pointer (some ⟨b, 0, none⟩)) (hv : a.eval v = val)
    (hb : w.heap[b]? = some (.cells xs E (0, 0))) (hbW : b ∉ Wr) (hc : val.cells = xs) (hi : (P.info? T).map (·.size) = some val.cells.size) (h1 : val.cells.all (·.oneCell') = true)
    (h : wpLex P ops w Wr kd Q rest (k + 1) a B) :
    wpLex P ops w Wr kd Q (⟨none, .store T p v, ty, pos, after, none⟩ :: rest) k a B := by
  subst hc
  have hrun : ∀ x, Behind w Wr x → (execOp a.eval ⟨none, .store T p v, ty, pos, after, none⟩).run P x = .ok .skip x := fun x hx => by
    have hbx := hx.keep hb hbW
    have := run_storeAt_any (P := P) x b 0 T val (there_of_block hbx 0 _ (by omega)) hi h1
    rw [setCells_self x b _ E hbx val.cells.toList 0 (fun j hj => by simp)] at this
    simp only [execOp, hp, hv]
    simp [this]
  have g : GStep P ops w Wr ⟨none, .store T p v, ty, pos, after, none⟩ a (kd k) B (fun v' B' => v' = undef ∧ B' = B) := by
    rw [hk]
    refine .quiet B undef rfl (fun x hx => ?_)
    unfold Oper.quietAt
    rw [hrun x hx]
    exact ⟨rfl, rfl⟩
  refine ⟨_, g, fun v' B' hO => ?_⟩
  obtain ⟨rfl, rfl⟩ := hO
  exact h
end
end Go.Proofs.YtchamkbnapjidaaDoor
