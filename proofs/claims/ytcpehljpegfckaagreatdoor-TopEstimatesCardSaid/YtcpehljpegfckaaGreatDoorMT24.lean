/- Texts of this claim,joined: DF4. -/
import Derived.Test.YtcpehljpegfckaaGreatDoorMT18
import Derived.Test.YtcpehljpegfckaaGreatDoorMT23
import Derived.Deep.DeepCutAuto
/- vars.List in a drawn region. -/
namespace Go.Proofs.YtcpehljpegfckaaGreatDoor
open Go.RowKit
section
variable {P:Program} {ops:Array Oper} {w:World} {Wr:List Nat}
theorem lex_callg {kd:Nat→Nat} {Q:Act→Blocks→Prop} {B:Blocks} {rest:List Oper} {k d:Nat} {f:FuncId} {args:Array Operand} {tys:Array TypeId} {ty:TypeId} {pos:String} {after:Array Edge} {a:Act} (val:Nat→Nat→Value) (ob:Nat→Obj) (R:Nat→Prop) (vs:Array Value) (hk:kd k=5) (hR:∃ c,R c) (hcf:∀ x,(callFunc f vs).run P x = .ok (.enter f vs) x)
  (hv:args.map a.eval=vs) (hc:∀ x,Behind w Wr x→Calls P f vs x fun e w'=>∃ g c,x.heap.size≤g∧R c∧e = .returned (val g c)∧Below x.heap.size x w'∧w'.heap[g]?=some (ob c))
  (h:∀ g c,w.heap.size≤g→B g=none→R c→Qk P ops d ty pos (val g c) (fun a'=>Jh P ops w Wr kd Q rest (k+1) a' (B.put g (ob c))) a) :
  Jh P ops w Wr kd Q (⟨some d,.call ⟨.value (.func f),args,tys⟩,ty,pos,after,none⟩::rest) k a B:=by
 have key:∀ x,Behind w Wr x→Has B x→Q00 P val ob R x ((execOp a.eval ⟨some d,.call ⟨.value (.func f),args,tys⟩,ty,pos,after,none⟩).run P x):=fun x hx _=>by
  have hrun:(execOp a.eval ⟨some d,.call ⟨.value (.func f),args,tys⟩,ty,pos,after,none⟩).run P x = .ok (.enter f vs) x:=by
   subst hv
   have:=hcf x
   simp only [go_sem] at this ⊢
   simpa [go_sem] using this
  rw [hrun]
  exact ⟨rfl,hc x hx⟩
 have g:GStep P ops w Wr ⟨some d,.call ⟨.value (.func f),args,tys⟩,ty,pos,after,none⟩ a (kd k) B (fun v' B'=>∃ g c,w.heap.size≤g∧B g=none∧R c∧v'=val g c∧B'=B.put g (ob c)):=by rw [hk];exact .grow B val ob R hR rfl key
 refine ⟨_,g,fun v' B' hO=>?_⟩
 obtain ⟨g,c,h1,h2,h3,rfl,rfl⟩:=hO
 exact Kp (h g c h1 h2 h3)
end
def Q1n (k g c:Nat):Value:=if c=0 then .slice none 0 0 else .slice (some ⟨g+c/18446744073709551616,0,none⟩) k (c%18446744073709551616)
theorem Q6m {k g c:Nat} (h:c=0→k=0):∃ p c',Q1n k g c = .slice p k c':=by
 unfold Q1n
 split
 ·rename_i h0
  rw [h h0];exact ⟨_,_,rfl⟩
 ·exact ⟨_,_,rfl⟩
theorem lex_list {ops:Array Oper} {w:World} {Wr:List Nat} {kd:Nat→Nat} {Q:Act→Blocks→Prop} {B:Blocks} {rest:List Oper} {k d:Nat} {y:Operand} {tys:Array TypeId} {ty:TypeId} {pos:String} {after:Array Edge} {a:Act} (o:Nat→Bool) (ho:∀ v,13≤v→o v=false) {N:Nat} (hk:kd k=5) (hv:a.eval y=Qt o)
  (hT:TzTab N w) (hN:N≤w.heap.size) (hWr:∀ g∈Wr,N≤g)
  (h:∀ p c g ob,w.heap.size≤g→B g=none→Qk Tryz.prog ops d ty pos (.slice p (Jt o).length c) (fun a'=>Jh Tryz.prog ops w Wr kd Q rest (k+1) a' (B.put g ob)) a) :
  Jh Tryz.prog ops w Wr kd Q (⟨some d,.call ⟨.value (.func 48),#[y],tys⟩,ty,pos,after,none⟩::rest) k a B:=by
 refine lex_callg (Q1n (Jt o).length) (fun _=>.cells #[.int .u64 (loW o:Nat),.int .u64 0] 55 (0,0)) (fun c=>c=0→(Jt o).length=0) #[Qt o] hk ⟨1,fun h=>by omega⟩ (enters_of Tryz.func48 (by kernel_rfl) rfl #[Qt o]) (by simp [hv]) (fun x hx=>?_) (fun g c h1 h2 h3=>?_)
 ·refine (gListB o ho x (hT.on (hx.below_of hWr hN) (Nat.le_refl _)) (Nat.le_trans hN hx.size)).mono ?_
  rintro e w' ⟨v,rfl,hr,hnil,hb,hbox⟩
  rcases hr.2 with ⟨rfl,h0⟩ | ⟨g',cap,cur,rfl,hg,_,hc1,hc2,hc3,_⟩
  ·exact ⟨x.heap.size,0,Nat.le_refl _,fun _=>h0,rfl,hb,hbox⟩
  ·have hm:cap<18446744073709551616:=by simp only [maxLen] at hc2;omega
   by_cases h0:(Jt o).length=0
   ·cases hnil.2 (List.length_eq_zero_iff.1 h0)
   ·refine ⟨x.heap.size,(g'-x.heap.size)*18446744073709551616+cap,Nat.le_refl _,fun h=>by omega,?_,hb,hbox⟩
    have e1:x.heap.size+((g'-x.heap.size)*18446744073709551616+cap)/18446744073709551616=g':=by omega
    have e2:((g'-x.heap.size)*18446744073709551616+cap)%18446744073709551616=cap:=by omega
    unfold Q1n
    rw [if_neg (by omega),e1,e2]
 ·obtain ⟨p,c',e⟩:=Q6m (g:=g) h3
  rw [e]
  exact h p c' g _ h1 h2
end Go.Proofs.YtcpehljpegfckaaGreatDoor
