/- Texts of this claim,joined: Giv0. -/
import Derived.Test.YtcpehljpegfckaaGreatDoorChecked
import Derived.Test.YtcpehljpegfckaaGreatDoorMT03
/- Contracts of functions that hand back one value and write nothing old. -/
namespace Go.Proofs.YtcpehljpegfckaaGreatDoor
open Go.RowKit
def Gives (f:FuncId) (args:Array Value) (v:Value):Prop:=∀ w:World,Calls Tryz.prog f args w fun e w'=>e = .returned v∧Below w.heap.size w w'
theorem Gives.at {f:FuncId} {args:Array Value} {v:Value} (h:Gives f args v) (w:World) (p:Extra):Calls Tryz.prog f args (plus w p) fun e w''=>e = .returned v∧∃ q,w''=plus w q:=Ww (h _)
def GivesFrom (w:World) (f:FuncId) (args:Array Value) (v:Value):Prop:=∀ w':World,Below w.heap.size w w'→Calls Tryz.prog f args w' fun e w2=>e = .returned v∧Below w'.heap.size w' w2
theorem GivesFrom.at {w:World} {f:FuncId} {args:Array Value} {v:Value} (h:GivesFrom w f args v) (p:Extra):Calls Tryz.prog f args (plus w p) fun e w''=>e = .returned v∧∃ q,w''=plus w q:=Ww (h _ (Ko w p))
theorem GivesFrom.at2 {w x:World} {f:FuncId} {args:Array Value} {v:Value} (h:GivesFrom w f args v) (hb:Below w.heap.size w x) (p:Extra):Calls Tryz.prog f args (plus x p) fun e w''=>e = .returned v∧∃ q,w''=plus x q :=
 Ww (h _ (hb.trans ((Ko x p).mono hb.size)))
end Go.Proofs.YtcpehljpegfckaaGreatDoor
