/- Texts of this claim, joined: LGive. -/
import Derived.Test.YtajjgfiojlagmaaDoorMD09
import Derived.Test.YtajjgfiojlagmaaDoorMD10
import Derived.Test.YtajjgfiojlagmaaDoorMD05
import Derived.Test.YtajjgfiojlagmaaDoorMD02

/- The contracts in one spelling. -/
namespace Go.Proofs.YtajjgfiojlagmaaDoor
open Go.RowKit Num

def Gives (f : FuncId) (args : Array Value) (v : Value) : Prop := ∀ w : World, Calls Tryd.prog f args w fun e w' => e = .returned v ∧ Below w.heap.size w w'

theorem Gives.at {f : FuncId} {args : Array Value} {v : Value} (h : Gives f args v) (w : World) (p : Extra) : Calls Tryd.prog f args (plus w p) fun e w'' => e = .returned v ∧ ∃ q, w'' = plus w q := calls_plus (h _)

def GivesFrom (w : World) (f : FuncId) (args : Array Value) (v : Value) : Prop := ∀ w' : World, Below w.heap.size w w' → Calls Tryd.prog f args w' fun e w2 => e = .returned v ∧ Below w'.heap.size w' w2

theorem GivesFrom.at {w : World} {f : FuncId} {args : Array Value} {v : Value} (h : GivesFrom w f args v) (p : Extra) : Calls Tryd.prog f args (plus w p) fun e w'' => e = .returned v ∧ ∃ q, w'' = plus w q := calls_plus (h _ (below_plus w p))

theorem GivesFrom.at2 {w x : World} {f : FuncId} {args : Array Value} {v : Value} (h : GivesFrom w f args v) (hb : Below w.heap.size w x) (p : Extra) : Calls Tryd.prog f args (plus x p) fun e w'' => e = .returned v ∧ ∃ q, w'' = plus x q :=
  calls_plus (h _ (hb.trans ((below_plus x p).mono hb.size)))

theorem gOf (n : Nat) (h : n < 18446744073709551616) : Gives 33 #[.int .u64 (n : Nat)] (natV n) := of_any n h
theorem gDiv (a b : Nat) (ha : nl a ≤ 536870912) (hb : nl b ≤ 536870912) (h0 : b ≠ 0) : Gives 51 #[natV a, natV b] (.tuple #[natV (a / b), natV (a % b), .bool true]) := div_pos a b ha hb h0
theorem gGcd (a b : Nat) (ha : nl a ≤ 536870912) (hb : nl b ≤ 536870912) : Gives 50 #[natV a, natV b] (natV (Nat.gcd a b)) := gcd_any a b ha hb
theorem gCmp (a b : Nat) (ha : nl a ≤ 1099511627776) (hb : nl b ≤ 1099511627776) : Gives 52 #[natV a, natV b] (.int .i64 (cmpI a b)) := cmp_any a b ha hb
theorem gText (a : Nat) (ha : nl a ≤ 1073741824) : Gives 54 #[natV a] (.string (dec a)) := text_any a ha
theorem gRead (s : ByteArray) (h : s.size ≤ 1099511627776) : Gives 32 #[.string s] (.tuple #[natV ((readN (bts s)).getD 0), .bool (readN (bts s)).isSome]) := read_any s h

end Go.Proofs.YtajjgfiojlagmaaDoor
