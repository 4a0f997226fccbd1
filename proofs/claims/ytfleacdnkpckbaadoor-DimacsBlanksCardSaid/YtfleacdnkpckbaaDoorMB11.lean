/- Texts of this claim, joined: LGive, RefA, RefB. -/
import Derived.Test.YtfleacdnkpckbaaDoorMB09
import Derived.Test.YtfleacdnkpckbaaDoorMB10
import Derived.Test.YtfleacdnkpckbaaDoorMB05
import Derived.Test.YtfleacdnkpckbaaDoorMB02
import Derived.Test.YtfleacdnkpckbaaDoorMB03
import Derived.Deep.QuietTactic
import Derived.BigQuiet
import Derived.Deep.LoopGhost

/- The contracts in one spelling. -/
namespace Go.Proofs.YtfleacdnkpckbaaDoor
open Go.RowKit Num

def Gives (f : FuncId) (args : Array Value) (v : Value) : Prop := ∀ w : World, Calls Tryd.prog f args w fun e w' => e = .returned v ∧ Below w.heap.size w w'

theorem Gives.at {f : FuncId} {args : Array Value} {v : Value} (h : Gives f args v) (w : World) (p : Extra) : Calls Tryd.prog f args (plus w p) fun e w'' => e = .returned v ∧ ∃ q, w'' = plus w q := calls_plus (h _)

def GivesFrom (w : World) (f : FuncId) (args : Array Value) (v : Value) : Prop := ∀ w' : World, Below w.heap.size w w' → Calls Tryd.prog f args w' fun e w2 => e = .returned v ∧ Below w'.heap.size w' w2

theorem GivesFrom.at {w : World} {f : FuncId} {args : Array Value} {v : Value} (h : GivesFrom w f args v) (p : Extra) : Calls Tryd.prog f args (plus w p) fun e w'' => e = .returned v ∧ ∃ q, w'' = plus w q := calls_plus (h _ (below_plus w p))

theorem GivesFrom.at2 {w x : World} {f : FuncId} {args : Array Value} {v : Value} (h : GivesFrom w f args v) (hb : Below w.heap.size w x) (p : Extra) : Calls Tryd.prog f args (plus x p) fun e w'' => e = .returned v ∧ ∃ q, w'' = plus x q :=
  calls_plus (h _ (hb.trans ((below_plus x p).mono hb.size)))

theorem gOf (n : Nat) (h : n < 18446744073709551616) : Gives 62 #[.int .u64 (n : Nat)] (natV n) := of_any n h
theorem gDiv (a b : Nat) (ha : nl a ≤ 536870912) (hb : nl b ≤ 536870912) (h0 : b ≠ 0) : Gives 75 #[natV a, natV b] (.tuple #[natV (a / b), natV (a % b), .bool true]) := div_pos a b ha hb h0
theorem gGcd (a b : Nat) (ha : nl a ≤ 536870912) (hb : nl b ≤ 536870912) : Gives 74 #[natV a, natV b] (natV (Nat.gcd a b)) := gcd_any a b ha hb
theorem gCmp (a b : Nat) (ha : nl a ≤ 1099511627776) (hb : nl b ≤ 1099511627776) : Gives 76 #[natV a, natV b] (.int .i64 (cmpI a b)) := cmp_any a b ha hb
theorem gText (a : Nat) (ha : nl a ≤ 1073741824) : Gives 78 #[natV a] (.string (dec a)) := text_any a ha
theorem gRead (s : ByteArray) (h : s.size ≤ 1099511627776) : Gives 61 #[.string s] (.tuple #[natV ((readN (bts s)).getD 0), .bool (readN (bts s)).isSome]) := read_any s h

end Go.Proofs.YtfleacdnkpckbaaDoor

/- The reference of chapter 01: digit, Cmp, form, Of, Add, Sub. -/
namespace Go.Proofs.YtfleacdnkpckbaaDoor
open Go.RowKit Num

/-! ### Sums -/

/-! ### Differences -/

/-! ### Cmp -/

def iis (l : List Nat) : List Value := l.map fun d => .int .i64 (d : Nat)
theorem iis_get (l : List Nat) (i d : Nat) (h : l[i]? = some d) : (iis l)[i]? = some (.int .i64 (d : Nat)) := by simp [iis, h]
def CellsI (w : World) (a : Option Addr) (xs : List Nat) : Prop :=
  ∀ i d, xs[i]? = some d → ∃ b o, a = some ⟨b, o, none⟩ ∧ w.cell? ⟨b, o + i, none⟩ = some (.int .i64 (d : Nat))

theorem CellsI.ofRow {w : World} {g : Nat} {E : TypeId} {xs : List Nat} (h : Row w g E (iis xs)) : CellsI w (some ⟨g, 0, none⟩) xs :=
  fun i d hd => ⟨g, 0, rfl, by rw [Nat.zero_add]; exact h.cell (iis_get _ _ _ hd)⟩

def SlI (base E : Nat) (ys : List Nat) (v : Value) (w : World) : Prop :=
  ∃ a cap, v = .slice a ys.length cap ∧ w.ownsRow base E 1 (.slice a ys.length cap) ys.length (iis ys)

theorem SlI.of {base E : Nat} {ys : List Nat} {v : Value} {w : World} (h : w.ownsRow base E 1 v ys.length (iis ys)) : SlI base E ys v w := by
  rcases h.2 with ⟨rfl, h2⟩ | ⟨g, c, cur, rfl, _⟩
  · exact ⟨none, 0, by rw [h2], by rw [h2] at h ⊢; exact h⟩
  · exact ⟨_, _, rfl, h⟩

theorem CellsI.ofOwns {w : World} {base E n cap : Nat} {a : Option Addr} {xs : List Nat} (h : w.ownsRow base E 1 (.slice a n cap) n (iis xs)) : CellsI w a xs := by
  intro i d hd
  have hl : xs.length = n := by have := h.1; simpa [iis] using this
  have hi : i < n := by rw [← hl]; exact (List.getElem?_eq_some_iff.1 hd).1
  obtain ⟨g, rfl, _, _⟩ := owns_some h (by omega)
  exact ⟨g, 0, rfl, by rw [Nat.zero_add, h.cellAt i (by omega)]; exact iis_get _ _ _ hd⟩

end Go.Proofs.YtfleacdnkpckbaaDoor

/- The reference of chapter 01: Mul, Div, Gcd. -/
namespace Go.Proofs.YtfleacdnkpckbaaDoor
open Go.RowKit Num

theorem digs_set (B : Nat) : ∀ (l : List Nat) (j v : Nat), j < l.length → digs B (l.set j v) + B ^ j * l.getD j 0 = digs B l + B ^ j * v
  | [], j, v, h => by simp at h
  | d :: l, 0, v, _ => by simp [digs_cons]; omega
  | d :: l, j + 1, v, h => by
    have ih := digs_set B l j v (by simpa using h)
    simp only [List.set_cons_succ, List.getD_cons_succ, digs_cons, Nat.pow_succ]
    have e1 : B ^ j * B * l.getD j 0 = B * (B ^ j * l.getD j 0) := by grind
    have e2 : B ^ j * B * v = B * (B ^ j * v) := by grind
    rw [e1, e2]
    have : B * (digs B (l.set j v) + B ^ j * l.getD j 0) = B * (digs B l + B ^ j * v) := by rw [ih]
    rw [Nat.mul_add, Nat.mul_add] at this
    omega

end Go.Proofs.YtfleacdnkpckbaaDoor
