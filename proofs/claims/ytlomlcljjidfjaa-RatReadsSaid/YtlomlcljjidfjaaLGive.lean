/- The contracts in one spelling. -/
import Derived.Test.YtlomlcljjidfjaaWGcd
import Derived.Test.YtlomlcljjidfjaaWText
import Derived.Test.YtlomlcljjidfjaaWRead
import Derived.Test.YtlomlcljjidfjaaPlus
namespace Go.Proofs.Ytlomlcljjidfjaa
open Go.RowKit Num

/-- From whatever world: this value; nothing old is written. -/
def Gives (f : FuncId) (args : Array Value) (v : Value) : Prop := ∀ w : World, Calls Try.prog f args w fun e w' => e = .returned v ∧ Below w.heap.size w w'

theorem Gives.at {f : FuncId} {args : Array Value} {v : Value} (h : Gives f args v) (w : World) (p : Extra) : Calls Try.prog f args (plus w p) fun e w'' => e = .returned v ∧ ∃ q, w'' = plus w q := calls_plus (h _)

/-- The same from the worlds behind this one. -/
def GivesFrom (w : World) (f : FuncId) (args : Array Value) (v : Value) : Prop := ∀ w' : World, Below w.heap.size w w' → Calls Try.prog f args w' fun e w2 => e = .returned v ∧ Below w'.heap.size w' w2

theorem GivesFrom.at {w : World} {f : FuncId} {args : Array Value} {v : Value} (h : GivesFrom w f args v) (p : Extra) : Calls Try.prog f args (plus w p) fun e w'' => e = .returned v ∧ ∃ q, w'' = plus w q := calls_plus (h _ (below_plus w p))

theorem GivesFrom.at2 {w x : World} {f : FuncId} {args : Array Value} {v : Value} (h : GivesFrom w f args v) (hb : Below w.heap.size w x) (p : Extra) : Calls Try.prog f args (plus x p) fun e w'' => e = .returned v ∧ ∃ q, w'' = plus x q :=
  calls_plus (h _ (hb.trans ((below_plus x p).mono hb.size)))

theorem gOf (n : Nat) (h : n < 18446744073709551616) : Gives 42 #[.int .u64 (n : Nat)] (natV n) := of_any n h
theorem gDiv (a b : Nat) (ha : nl a ≤ 536870912) (hb : nl b ≤ 536870912) (h0 : b ≠ 0) : Gives 48 #[natV a, natV b] (.tuple #[natV (a / b), natV (a % b), .bool true]) := div_pos a b ha hb h0
theorem gDivZ (a : Nat) (ha : nl a ≤ 536870912) : Gives 48 #[natV a, natV 0] (.tuple #[natV 0, natV 0, .bool false]) := div_zero a (by omega)
theorem gMul (a b : Nat) (ha : nl a ≤ 1073741824) (hb : nl b ≤ 1073741824) : Gives 46 #[natV a, natV b] (natV (a * b)) := mul_any a b ha hb
theorem gAdd (a b : Nat) (ha : nl a ≤ 1073741824) (hb : nl b ≤ 1073741824) : Gives 45 #[natV a, natV b] (natV (a + b)) := add_any a b ha hb
theorem gSub (a b : Nat) (ha : nl a ≤ 1073741824) (hb : nl b ≤ 1073741824) (h : b ≤ a) : Gives 56 #[natV a, natV b] (.tuple #[natV (a - b), .bool true]) := sub_geq a b ha hb h
theorem gSubL (a b : Nat) (ha : nl a ≤ 1073741824) (hb : nl b ≤ 1073741824) (h : a < b) : Gives 56 #[natV a, natV b] (.tuple #[natV 0, .bool false]) := sub_less a b ha hb h
theorem gGcd (a b : Nat) (ha : nl a ≤ 536870912) (hb : nl b ≤ 536870912) : Gives 38 #[natV a, natV b] (natV (Nat.gcd a b)) := gcd_any a b ha hb
theorem gCmp (a b : Nat) (ha : nl a ≤ 1099511627776) (hb : nl b ≤ 1099511627776) : Gives 57 #[natV a, natV b] (.int .i64 (cmpI a b)) := cmp_any a b ha hb
theorem gText (a : Nat) (ha : nl a ≤ 1073741824) : Gives 41 #[natV a] (.string (dec a)) := text_any a ha
theorem gRead (s : ByteArray) (h : s.size ≤ 1099511627776) : Gives 49 #[.string s] (.tuple #[natV ((readN (bts s)).getD 0), .bool (readN (bts s)).isSome]) := read_any s h

theorem nb_ne {a b : Nat} (h : a ≠ b) : nb a ≠ nb b := fun e => h (nb_inj e)

theorem boxes1 (w : World) (x : ByteArray) : ∃ w', w' = w.alloc (Obj.cells #[Value.string x] 25) ∧
    w'.cell? ⟨w.heap.size, 0, none⟩ = some (.string x) ∧ w'.heap.size = w.heap.size + 1 ∧ Below w.heap.size w w' :=
  ⟨_, rfl, by simp [go_sem], by simp, (Below.refl _ w).alloc (Nat.le_refl _) _⟩

theorem boxes2 (w : World) (x y : ByteArray) : ∃ w', w' = (w.alloc (Obj.cells #[Value.string x] 25)).alloc (Obj.cells #[Value.string y] 25) ∧
    w'.cell? ⟨w.heap.size, 0, none⟩ = some (.string x) ∧ w'.cell? ⟨w.heap.size + 1, 0, none⟩ = some (.string y) ∧ w'.heap.size = w.heap.size + 2 ∧ Below w.heap.size w w' :=
  ⟨_, rfl, by simp [go_sem], by simp [go_sem], by simp, ((Below.refl _ w).alloc (Nat.le_refl _) _).alloc (by simp) _⟩

theorem boxes3 (w : World) (x y z : ByteArray) : ∃ w', w' = ((w.alloc (Obj.cells #[Value.string x] 25)).alloc (Obj.cells #[Value.string y] 25)).alloc (Obj.cells #[Value.string z] 25) ∧
    w'.cell? ⟨w.heap.size, 0, none⟩ = some (.string x) ∧ w'.cell? ⟨w.heap.size + 1, 0, none⟩ = some (.string y) ∧ w'.cell? ⟨w.heap.size + 1 + 1, 0, none⟩ = some (.string z) ∧ w'.heap.size = w.heap.size + 3 ∧ Below w.heap.size w w' :=
  ⟨_, rfl, by simp [go_sem], by simp [go_sem], by simp [go_sem], by simp, (((Below.refl _ w).alloc (Nat.le_refl _) _).alloc (by simp) _).alloc (by simp; omega) _⟩

end Go.Proofs.Ytlomlcljjidfjaa
