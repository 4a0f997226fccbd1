/- Texts of this claim,joined: Game. -/
import Derived.Test.YtcpehljpegfckaaGreatDoorMT03
/- Regions that draw their order and hold calls,allocations and stores: one walk in the text's order serves every order. -/
namespace Go.Proofs.YtcpehljpegfckaaGreatDoor
open Go.RowKit
abbrev Blocks:=Nat→Option Obj
def Blocks.put (B:Blocks) (b:Nat) (o:Obj):Blocks:=fun k=>if k=b then some o else B k
theorem Blocks.put_same (B:Blocks) (b:Nat) (o:Obj):B.put b o b=some o:=if_pos rfl
theorem Blocks.put_other (B:Blocks) {b k:Nat} (o:Obj) (h:k≠b):B.put b o k=B k:=if_neg h
theorem Blocks.put_comm (B:Blocks) {b c:Nat} (o p:Obj) (h:b≠c):(B.put b o).put c p=(B.put c p).put b o:=by
 funext k
 simp only [Blocks.put]
 by_cases h1:k=c
 ·by_cases h2:k=b
  ·exact absurd (h2.symm.trans h1) h
  ·simp [h1,Ne.symm h]
 ·simp [h1]
structure Behind (w:World) (Wr:List Nat) (x:World):Prop where
 os:x.os=w.os
 tape:x.tape=w.tape
 output:x.output=w.output
 size:w.heap.size≤x.heap.size
 block:∀ k,k<w.heap.size→k∉Wr→x.heap[k]?=w.heap[k]?
def Has (B:Blocks) (x:World):Prop:=∀ b o,B b=some o→x.heap[b]?=some o
structure Wrote (b:Nat) (ob:Obj) (x x':World):Prop where
 os:x'.os=x.os
 tape:x'.tape=x.tape
 output:x'.output=x.output
 size:x.heap.size≤x'.heap.size
 here:x'.heap[b]?=some ob
 block:∀ k,k<x.heap.size→k≠b→x'.heap[k]?=x.heap[k]?
theorem Behind.refl (w:World) (Wr:List Nat):Behind w Wr w:=⟨rfl,rfl,rfl,Nat.le_refl _,fun _ _ _=>rfl⟩
theorem Behind.drew (w:World) (Wr:List Nat):Behind w Wr { w with drawn:=w.drawn+1 }:=⟨rfl,rfl,rfl,Nat.le_refl _,fun _ _ _=>rfl⟩
theorem Behind.plus {w x:World} {Wr:List Nat} (h:Behind w Wr x) (p:Extra):Behind w Wr (plus x p):=by
 have hp:=Ko x p
 exact ⟨hp.os.trans h.os,hp.tape.trans h.tape,hp.output.trans h.output,Nat.le_trans h.size hp.size,fun k hk hn=>(hp.block k (Nat.lt_of_lt_of_le hk h.size)).trans (h.block k hk hn)⟩
theorem Behind.below {w x:World} (h:Behind w [] x):Below w.heap.size w x:=⟨h.os,h.tape,h.output,h.size,fun k hk=>h.block k hk (by simp)⟩
theorem Q9 {x:World} {b:Nat} {o:Obj} (h:x.heap[b]?=some o):b<x.heap.size:=(Array.getElem?_eq_some_iff.1 h).1
theorem Has.plus {B:Blocks} {x:World} (h:Has B x) (p:Extra):Has B (plus x p):=fun b o hb=>by
 have:=h b o hb
 rw [(Ko x p).block b (Q9 this)];exact this
theorem Has.below {B:Blocks} {x x':World} (h:Has B x) (hb:Below x.heap.size x x'):Has B x':=fun b o h0=>by
 have:=h b o h0
 rw [hb.block b (Q9 this)];exact this
theorem Behind.of_below {w x x':World} {Wr:List Nat} (h:Behind w Wr x) (hp:Below x.heap.size x x'):Behind w Wr x' :=
 ⟨hp.os.trans h.os,hp.tape.trans h.tape,hp.output.trans h.output,Nat.le_trans h.size hp.size,fun k hk hn=>(hp.block k (Nat.lt_of_lt_of_le hk h.size)).trans (h.block k hk hn)⟩
theorem Behind.wrote {w x x':World} {Wr:List Nat} {b:Nat} {ob:Obj} (h:Behind w Wr x) (hw:Wrote b ob x x') (hb:b∈Wr∨w.heap.size≤b):Behind w Wr x' :=
 ⟨hw.os.trans h.os,hw.tape.trans h.tape,hw.output.trans h.output,Nat.le_trans h.size hw.size,fun k hk hn=>by
  rw [hw.block k (Nat.lt_of_lt_of_le hk h.size) (fun e=>by subst e;rcases hb with hb | hb;exact hn hb;omega)];exact h.block k hk hn⟩
theorem Has.wrote {B:Blocks} {x x':World} {b:Nat} {ob:Obj} (h:Has B x) (hw:Wrote b ob x x'):Has (B.put b ob) x':=fun k o hk=>by
 by_cases e:k=b
 ·subst e;rw [Blocks.put_same] at hk;cases hk;exact hw.here
 ·rw [Blocks.put_other _ _ e] at hk;rw [hw.block k (Q9 (h k o hk)) e];exact h k o hk
theorem Has.fresh {B:Blocks} {x x':World} {g:Nat} {ob:Obj} (h:Has B x) (hb:Below x.heap.size x x') (hg:x'.heap[g]?=some ob):Has (B.put g ob) x':=fun k o hk=>by
 by_cases e:k=g
 ·subst e;rw [Blocks.put_same] at hk;cases hk;exact hg
 ·rw [Blocks.put_other _ _ e] at hk;exact h.below hb k o hk
theorem Has.none {B:Blocks} {x:World} {g:Nat} (h:Has B x) (hg:x.heap.size≤g):B g=none:=by
 cases hb:B g with
 | none=>rfl
 | some o=>have:=Q9 (h g o hb);omega
theorem Has.of_put {B:Blocks} {x:World} {g:Nat} {ob:Obj} (h:Has (B.put g ob) x) (hg:B g=Option.none):Has B x:=fun k o hk=>by
 refine h k o ?_
 rw [Blocks.put_other _ _ (fun e=>by subst e;rw [hg] at hk;cases hk)];exact hk
def Uk (P:Program) (b:Nat) (ob:Obj) (x:World) (v:Value):Result Next→Prop
 | .ok (.value u) x'=>u=v∧Wrote b ob x x'
 | .ok .skip x'=>v=undef∧Wrote b ob x x'
 | .ok (.enter f args) x'=>x'=x∧Calls P f args x fun e w'=>e = .returned v∧Wrote b ob x w'
 | _=>False
def Q5i (P:Program) (val:Nat→Value) (ob:Obj) (x:World):Result Next→Prop
 | .ok (.enter f args) x'=>x'=x∧Calls P f args x fun e w'=>∃ g,x.heap.size≤g∧e = .returned (val g)∧Below x.heap.size x w'∧w'.heap[g]?=some ob
 | _=>False
def Q0y:Option Nat→Nat→Value
 | none,g=>.pointer (some ⟨g,0,none⟩)
 | some n,g=>.slice (some ⟨g,0,none⟩) n n
theorem Q4h {s t:Option Nat} {g:Nat} (h:Q0y s g=Q0y t g):s=t:=by
 cases s<;>cases t<;>simp_all [Q0y]
def Q00 (P:Program) (val:Nat→Nat→Value) (ob:Nat→Obj) (R:Nat→Prop) (x:World):Result Next→Prop
 | .ok (.value u) x'=>∃ g c,x.heap.size≤g∧R c∧u=val g c∧Below x.heap.size x x'∧x'.heap[g]?=some (ob c)
 | .ok (.enter f args) x'=>x'=x∧Calls P f args x fun e w'=>∃ g c,x.heap.size≤g∧R c∧e = .returned (val g c)∧Below x.heap.size x w'∧w'.heap[g]?=some (ob c)
 | _=>False
def Cx (x:World):World→Prop:=fun w'=>∃ p,w'=plus x p
section
variable {P:Program} {ops:Array Oper} {md:Region.Mode} {w:World} {Wr:List Nat}
inductive GStep (P:Program) (ops:Array Oper) (w:World) (Wr:List Nat) (o:Oper) (a:Act):Nat→Blocks→(Value→Blocks→Prop)→Prop
 | skip (k:Nat) (B:Blocks):Region.wanted o (yielded ops a.tmps)=false→GStep P ops w Wr o a k B fun v B'=>v=undef∧B'=B
 | quiet (B:Blocks) (v:Value):Region.wanted o (yielded ops a.tmps)=true→(∀ x,Behind w Wr x→o.quietAt P a (Cx x) x v)→GStep P ops w Wr o a 0 B fun v' B'=>v'=v∧B'=B
 | read (B:Blocks) (v:Value):Region.wanted o (yielded ops a.tmps)=true→(∀ x,Behind w Wr x→Has B x→o.quietAt P a (Cx x) x v)→GStep P ops w Wr o a 1 B fun v' B'=>v'=v∧B'=B
 | write (B:Blocks) (b:Nat) (ob:Obj) (v:Value):Region.wanted o (yielded ops a.tmps)=true→(B b).isSome=true→(b∈Wr∨w.heap.size≤b) →
   (∀ x,Behind w Wr x→Has B x→Uk P b ob x v ((execOp a.eval o).run P x))→GStep P ops w Wr o a 2 B fun v' B'=>v'=v∧B'=B.put b ob
 | alloc (B:Blocks) (s:Option Nat) (ob:Obj):Region.wanted o (yielded ops a.tmps)=true→(∀ x,Behind w Wr x→(execOp a.eval o).run P x = .ok (.value (Q0y s x.heap.size)) (x.alloc ob)) →
   GStep P ops w Wr o a 3 B fun v' B'=>∃ g,w.heap.size≤g∧B g=none∧v'=Q0y s g∧B'=B.put g ob
 | new (B:Blocks) (val:Nat→Value) (ob:Obj):Region.wanted o (yielded ops a.tmps)=true→(∀ x,Behind w Wr x→Q5i P val ob x ((execOp a.eval o).run P x)) →
   GStep P ops w Wr o a 4 B fun v' B'=>∃ g,w.heap.size≤g∧B g=none∧v'=val g∧B'=B.put g ob
 | grow (B:Blocks) (val:Nat→Nat→Value) (ob:Nat→Obj) (R:Nat→Prop):(∃ c,R c)→Region.wanted o (yielded ops a.tmps)=true→(∀ x,Behind w Wr x→Has B x→Q00 P val ob R x ((execOp a.eval o).run P x)) →
   GStep P ops w Wr o a 5 B fun v' B'=>∃ g c,w.heap.size≤g∧B g=none∧R c∧v'=val g c∧B'=B.put g (ob c)
def gOp (P:Program) (ops:Array Oper) (w:World) (Wr:List Nat) (kd:Nat→Nat) (i:Nat) (K:Act→Blocks→Prop) (a:Act) (B:Blocks):Prop :=
 match ops[i]? with
 | none=>K a B
 | some o=>∃ O,GStep P ops w Wr o a (kd i) B O∧∀ v B',O v B'→K (a.put o.dst v) B'
def Game (P:Program) (md:Region.Mode) (ops:Array Oper) (w:World) (Wr:List Nat) (kd:Nat→Nat) (Q:Act→Blocks→Prop):Nat→Array Bool→Act→Blocks→Prop
 | 0,s,a,B=>Region.ready md ops s=[]∧Q a B
 | f+1,s,a,B=>(Region.ready md ops s=[]→Q a B)∧∀ i∈Region.ready md ops s,gOp P ops w Wr kd i (Game P md ops w Wr kd Q f (s.setIfInBounds i true)) a B
theorem GStep.sound {o:Oper} {a:Act} {k:Nat} {B:Blocks} {O:Value→Blocks→Prop} (hg:GStep P ops w Wr o a k B O) {K':Act→World→Prop} {Q':Exit→Act→World→Prop} {x:World} (hx:Behind w Wr x) (hB:Has B x)
  (h:∀ v B' x',Behind w Wr x'→Has B' x'→O v B'→K' (a.put o.dst v) x'):if Region.wanted o (yielded ops a.tmps) then o.wp P a x K' Q'∨(o.asks P a x∧LetsOut Q') else K' (a.put o.dst undef) x:=by
 cases hg with
 | skip _ _ hw=>rw [if_neg (by simp [hw])];exact h _ _ _ hx hB ⟨rfl,rfl⟩
 | quiet _ v hw hq =>
  rw [if_pos hw]
  refine .inl (Oper.wp_of_quiet (C:=fun w'=>w'=x∨Cx x w') (K:=fun a'=>a'=a.put o.dst v) (.inl rfl) (fun a' w' hw' hk'=>?_) ⟨v,fun w' hw'=>?_,rfl⟩)
  ·subst hk'
   rcases hw' with rfl | ⟨p,rfl⟩
   ·exact h _ _ _ hx hB ⟨rfl,rfl⟩
   ·exact h _ _ _ (hx.plus p) (hB.plus p) ⟨rfl,rfl⟩
  ·rcases hw' with rfl | ⟨p,rfl⟩
   ·have:=hq _ hx
    unfold Oper.quietAt at *
    generalize (execOp a.eval o).run P w'=r at *
    cases r with
    | ok n w2 =>
     cases n<;>simp only [Oper.quietUpon] at this ⊢
     ·exact this
     ·exact this
     ·exact ⟨this.1,this.2.mono fun e w3 ⟨h1,h2⟩=>⟨h1,.inr h2⟩⟩
    | halt y w2=>simp only [Oper.quietUpon] at this
   ·have:=hq _ (hx.plus p)
    unfold Oper.quietAt at *
    generalize (execOp a.eval o).run P (Go.Proofs.YtcpehljpegfckaaGreatDoor.plus x p)=r at *
    cases r with
    | ok n w2 =>
     cases n<;>simp only [Oper.quietUpon] at this ⊢
     ·exact this
     ·exact this
     ·refine ⟨this.1,this.2.mono fun e w3 ⟨h1,q,h2⟩=>⟨h1,.inr ?_⟩⟩
      subst h2
      exact W7 ((Ko x p).trans ((Ko _ q).mono (Q4v x p)))
    | halt y w2=>simp only [Oper.quietUpon] at this
 | read _ v hw hq =>
  rw [if_pos hw]
  refine .inl ?_
  have:=hq _ hx hB
  unfold Oper.quietAt at this
  unfold Oper.wp
  generalize (execOp a.eval o).run P x=r at *
  cases r with
  | ok n w2 =>
   cases n<;>simp only [Oper.quietUpon] at this<;>simp only [Oper.upon]
   ·rw [this.1,this.2];exact h _ _ _ hx hB ⟨rfl,rfl⟩
   ·rw [this.1];exact h _ _ _ hx hB ⟨this.2.symm,rfl⟩
   ·rw [this.1]
    refine this.2.mono fun e w3 ⟨h1,p,h2⟩=>?_
    subst h1 h2
    exact h _ _ _ (hx.plus p) (hB.plus p) ⟨rfl,rfl⟩
  | halt y w2=>simp only [Oper.quietUpon] at this
 | write _ b ob v hw hsome hb hq =>
  rw [if_pos hw]
  refine .inl ?_
  have:=hq _ hx hB
  unfold Oper.wp
  generalize (execOp a.eval o).run P x=r at *
  cases r with
  | ok n w2 =>
   cases n<;>simp only [Uk] at this<;>simp only [Oper.upon]
   ·exact h _ _ _ (hx.wrote this.2 hb) (hB.wrote this.2) ⟨this.1,rfl⟩
   ·exact h _ _ _ (hx.wrote this.2 hb) (hB.wrote this.2) ⟨this.1.symm,rfl⟩
   ·rw [this.1]
    refine this.2.mono fun e w3 ⟨h1,h2⟩=>?_
    subst h1
    exact h _ _ _ (hx.wrote h2 hb) (hB.wrote h2) ⟨rfl,rfl⟩
  | halt y w2=>simp only [Uk] at this
 | alloc _ _ ob hw hq =>
  rw [if_pos hw]
  refine .inl ?_
  unfold Oper.wp
  rw [hq _ hx]
  have hb:Below x.heap.size x (x.alloc ob):=(Below.refl _ x).alloc (Nat.le_refl _) _
  exact h _ _ _ (hx.of_below hb) (hB.fresh hb (heap_alloc_new x _)) ⟨x.heap.size,hx.size,hB.none (Nat.le_refl _),rfl,rfl⟩
 | new _ val ob hw hq =>
  rw [if_pos hw]
  refine .inl ?_
  have:=hq _ hx
  unfold Oper.wp
  generalize (execOp a.eval o).run P x=r at *
  cases r with
  | ok n w2 =>
   cases n<;>simp only [Q5i] at this
   simp only [Oper.upon]
   rw [this.1]
   refine this.2.mono fun e w3 ⟨g,h1,h2,h3,h4⟩=>?_
   subst h2
   exact h _ _ _ (hx.of_below h3) (hB.fresh h3 h4) ⟨g,Nat.le_trans hx.size h1,hB.none h1,rfl,rfl⟩
  | halt y w2=>simp only [Q5i] at this
 | grow _ val ob R _ hw hq =>
  rw [if_pos hw]
  refine .inl ?_
  have:=hq _ hx hB
  unfold Oper.wp
  generalize (execOp a.eval o).run P x=r at *
  cases r with
  | ok n w2 =>
   cases n<;>simp only [Q00] at this<;>simp only [Oper.upon]
   ·obtain ⟨g,c,h1,h2,h3,h4,h5⟩:=this
    subst h3
    exact h _ _ _ (hx.of_below h4) (hB.fresh h4 h5) ⟨g,c,Nat.le_trans hx.size h1,hB.none h1,h2,rfl,rfl⟩
   ·rw [this.1]
    refine this.2.mono fun e w3 ⟨g,c,h1,h2,h3,h4,h5⟩=>?_
    subst h3
    exact h _ _ _ (hx.of_below h4) (hB.fresh h4 h5) ⟨g,c,Nat.le_trans hx.size h1,hB.none h1,h2,rfl,rfl⟩
  | halt y w2=>simp only [Q00] at this
theorem Q4g {kd:Nat→Nat} {i:Nat} {a:Act} {B:Blocks} {K:Act→Blocks→Prop} {K':Act→World→Prop} {Q':Exit→Act→World→Prop} {x:World} (hx:Behind w Wr x) (hB:Has B x)
  (h:∀ a' B' x',Behind w Wr x'→Has B' x'→K a' B'→K' a' x') (hh:gOp P ops w Wr kd i K a B):wpOp P ops Q' i K' a x:=by
 unfold gOp at hh
 unfold wpOp
 split
 ·rename_i ho;simp only [ho] at hh;exact h _ _ _ hx hB hh
 ·rename_i o ho
  simp only [ho] at hh
  obtain ⟨O,hg,hK⟩:=hh
  exact hg.sound hx hB fun v B' x' hx' hB' hO=>h _ _ _ hx' hB' (hK v B' hO)
theorem Wi {kd:Nat→Nat} {Q:Act→Blocks→Prop} {Q':Exit→Act→World→Prop} (hQ:∀ a B x,Behind w Wr x→Has B x→Q a B→Q' .normal a x):∀ (f:Nat) (s:Array Bool) (a:Act) (B:Blocks) (x:World),Behind w Wr x→Has B x →
  Game P md ops w Wr kd Q f s a B→wpAny P md ops Q' f s a x
 | 0,_,_,_,_,hx,hB,h=>⟨h.1,hQ _ _ _ hx hB h.2⟩
 | f+1,_,_,_,_,hx,hB,h=>⟨fun h0=>hQ _ _ _ hx hB (h.1 h0),fun i hi=>Q4g hx hB (fun a' B' x' hx' hB'=>Wi hQ f _ a' B' x' hx' hB') (h.2 i hi)⟩
theorem Q7a {kd:Nat→Nat} {i:Nat} {a:Act} {B:Blocks} {K K':Act→Blocks→Prop} (h:∀ a B,K a B→K' a B) (hh:gOp P ops w Wr kd i K a B):gOp P ops w Wr kd i K' a B:=by
 unfold gOp at *
 split
 ·rename_i ho;simp only [ho] at hh;exact h _ _ hh
 ·rename_i o ho
  simp only [ho] at hh
  exact let ⟨O,h1,h2⟩:=hh;⟨O,h1,fun v B' hO=>h _ _ (h2 v B' hO)⟩
def Hi (o:Oper):Bool:=match o.op with
 | .load .. | .move .. | .assign .. | .extract .. | .fieldAddr .. | .field .. | .binOp .. | .unOp .. | .convert .. | .indexAddr ..=>true
 | _=>false
theorem Uv {o:Oper} (hp:Hi o=true) {a:Act} {C:World→Prop} {x:World} {v:Value} (h:o.quietAt P a C x v):(execOp a.eval o).run P x = .ok (.value v) x:=by
 unfold Oper.quietAt at h
 unfold Hi at hp
 generalize hr:(execOp a.eval o).run P x=r at h
 have key:∀ s:Sem Value,execOp a.eval o=(do pure (.value (←s)))→r = .ok (.value v) x:=fun s hs=>by
  rw [hs] at hr
  rw [Sem.run_bind] at hr
  subst hr
  generalize hg:(s.run P x)=r' at h
  cases r' with
  | ok u w' =>
   have h':w'=x∧u=v:=h
   rw [h'.1,h'.2];rfl
  | halt y w'=>exact (show False from h).elim
 unfold execOp at key
 split at hp<;>rename_i ho<;>first
  | (cases hp;done)
  | (apply key;rw [ho];done)
  | (apply key;rw [ho];rfl)
  | (rename_i y;refine key (pure (a.eval y)) ?_;rw [ho];rfl)
theorem Zd {o:Oper} (hs:∀ cs b,o.op≠.select cs b) {a:Act} {d:Option Tmp} {u:Value} (hd:∀ e,d=some e→e∉o.looksAt ops) {C:World→Prop} {x:World} {v:Value} :
  o.quietAt P (a.put d u) C x v↔o.quietAt P a C x v:=by
 unfold Oper.quietAt;rw [execOp_put o hs a d u hd]
theorem GStep.put {o:Oper} (hs:∀ cs b,o.op≠.select cs b) {a:Act} {d:Option Tmp} {u:Value} (hd:∀ e,d=some e→e∉o.looksAt ops) {k:Nat} {B:Blocks} {O:Value→Blocks→Prop}
  (h:GStep P ops w Wr o a k B O):GStep P ops w Wr o (a.put d u) k B O:=by
 have hw:=wanted_put (ops:=ops) o a d u hd
 have he:=execOp_put (ops:=ops) o hs a d u hd
 cases h with
 | skip _ _ h1=>exact .skip _ _ (hw.trans h1)
 | quiet _ v h1 h2=>exact .quiet _ v (hw.trans h1) fun x hx=>(Zd hs hd).2 (h2 x hx)
 | read _ v h1 h2=>exact .read _ v (hw.trans h1) fun x hx hB=>(Zd hs hd).2 (h2 x hx hB)
 | write _ b ob v h1 h2 h3 h4=>exact .write _ b ob v (hw.trans h1) h2 h3 fun x hx hB=>by rw [he];exact h4 x hx hB
 | alloc _ s ob h1 h2=>exact .alloc _ s ob (hw.trans h1) fun x hx=>by rw [he];exact h2 x hx
 | new _ val ob h1 h2=>exact .new _ val ob (hw.trans h1) fun x hx=>by rw [he];exact h2 x hx
 | grow _ val ob R h0 h1 h2=>exact .grow _ val ob R h0 (hw.trans h1) fun x hx hB=>by rw [he];exact h2 x hx hB
theorem GStep.unput {o:Oper} (hs:∀ cs b,o.op≠.select cs b) {a:Act} {d:Option Tmp} {u:Value} (hd:∀ e,d=some e→e∉o.looksAt ops) {k:Nat} {B:Blocks} {O:Value→Blocks→Prop}
  (h:GStep P ops w Wr o (a.put d u) k B O):GStep P ops w Wr o a k B O:=by
 have hw:=wanted_put (ops:=ops) o a d u hd
 have he:=execOp_put (ops:=ops) o hs a d u hd
 cases h with
 | skip _ _ h1=>exact .skip _ _ (hw.symm.trans h1)
 | quiet _ v h1 h2=>exact .quiet _ v (hw.symm.trans h1) fun x hx=>(Zd hs hd).1 (h2 x hx)
 | read _ v h1 h2=>exact .read _ v (hw.symm.trans h1) fun x hx hB=>(Zd hs hd).1 (h2 x hx hB)
 | write _ b ob v h1 h2 h3 h4=>exact .write _ b ob v (hw.symm.trans h1) h2 h3 fun x hx hB=>by rw [←he];exact h4 x hx hB
 | alloc _ s ob h1 h2=>exact .alloc _ s ob (hw.symm.trans h1) fun x hx=>by rw [←he];exact h2 x hx
 | new _ val ob h1 h2=>exact .new _ val ob (hw.symm.trans h1) fun x hx=>by rw [←he];exact h2 x hx
 | grow _ val ob R h0 h1 h2=>exact .grow _ val ob R h0 (hw.symm.trans h1) fun x hx hB=>by rw [←he];exact h2 x hx hB
def Xz (ki kj:Nat) (oj:Oper):Bool :=
 match ki with
 | 0=>true
 | 1=>kj != 2
 | 2=>kj == 0||kj == 3||kj == 4
 | _=>kj == 3||(kj == 0&&Hi oj)
def Fin (B:Blocks):Prop:=∃ N,∀ b,N≤b→B b=none
theorem Fin.put {B:Blocks} (h:Fin B) (b:Nat) (o:Obj):Fin (B.put b o) :=
 let ⟨N,hN⟩:=h
 ⟨max N (b+1),fun c hc=>by rw [Blocks.put_other _ _ (by omega)];exact hN c (by omega)⟩
theorem GStep.fin {o:Oper} {a:Act} {k:Nat} {B:Blocks} {O:Value→Blocks→Prop} (h:GStep P ops w Wr o a k B O) (hf:Fin B) (v:Value) (B':Blocks) (hO:O v B'):Fin B':=by
 cases h with
 | skip | quiet | read=>rw [hO.2];exact hf
 | write=>rw [hO.2];exact hf.put _ _
 | alloc=>obtain ⟨g,_,_,_,rfl⟩:=hO;exact hf.put _ _
 | new=>obtain ⟨g,_,_,_,rfl⟩:=hO;exact hf.put _ _
 | grow=>obtain ⟨g,_,_,_,_,_,rfl⟩:=hO;exact hf.put _ _
theorem GStep.inhab {o:Oper} {a:Act} {k:Nat} {B:Blocks} {O:Value→Blocks→Prop} (h:GStep P ops w Wr o a k B O) (hf:Fin B):∃ v B',O v B':=by
 obtain ⟨N,hN⟩:=hf
 cases h with
 | skip=>exact ⟨_,_,rfl,rfl⟩
 | quiet=>exact ⟨_,_,rfl,rfl⟩
 | read=>exact ⟨_,_,rfl,rfl⟩
 | write=>exact ⟨_,_,rfl,rfl⟩
 | alloc=>exact ⟨_,_,max N w.heap.size,by omega,hN _ (by omega),rfl,rfl⟩
 | new=>exact ⟨_,_,max N w.heap.size,by omega,hN _ (by omega),rfl,rfl⟩
 | grow _ _ _ _ h0=>obtain ⟨c,hc⟩:=h0;exact ⟨_,_,max N w.heap.size,c,by omega,hN _ (by omega),hc,rfl,rfl⟩
theorem Q42 {x:World} {o p:Obj} (h:x.alloc o=x.alloc p):o=p:=by
 have h1:=heap_alloc_new x o
 rw [h,heap_alloc_new x p] at h1
 exact (Option.some.inj h1).symm
theorem Vr {oi oj:Oper} {ki kj:Nat} (val:Nat→Nat→Value) (ob:Nat→Obj) (R:Nat→Prop) (hR:∃ c,R c) (h1:∀ d,oi.dst=some d→d∉oj.looksAt ops) (h2:∀ d,oi.dst=some d→oj.dst≠some d)
  (hsj:∀ cs b,oj.op≠.select cs b) {a:Act} {B:Blocks} (hok:kj=3∨(kj=0∧Hi oj=true)) (hf:Fin B) {K:Act→Blocks→Prop}
  (hi:∀ (u:Value) (B':Blocks),(∀ x,Has B' x→Has B x)→∃ Oi',GStep P ops w Wr oi (a.put oj.dst u) ki B' Oi'∧∀ v' B2,Oi' v' B2→∃ g c,w.heap.size≤g∧B' g=none∧R c∧v'=val g c∧B2=B'.put g (ob c))
  (H:∀ g c,w.heap.size≤g→B g=none→R c→∃ O,GStep P ops w Wr oj (a.put oi.dst (val g c)) kj (B.put g (ob c)) O∧∀ u B',O u B'→K ((a.put oi.dst (val g c)).put oj.dst u) B') :
  ∃ O,GStep P ops w Wr oj a kj B O∧∀ u B',O u B'→Fin B'∧∃ Oi',GStep P ops w Wr oi (a.put oj.dst u) ki B' Oi'∧∀ v B2,Oi' v B2→K ((a.put oj.dst u).put oi.dst v) B2:=by
 obtain ⟨N,hN⟩:=hf
 have hwp:∀ u,Region.wanted oj (yielded ops (a.put oi.dst u).tmps)=Region.wanted oj (yielded ops a.tmps):=fun u=>wanted_put oj a oi.dst u h1
 have hep:∀ u,execOp (a.put oi.dst u).eval oj=execOp a.eval oj:=fun u=>execOp_put oj hsj a oi.dst u h1
 obtain ⟨c0,hc0⟩:=hR
 obtain ⟨O,hO,_⟩:=H (max N w.heap.size) c0 (by omega) (hN _ (by omega)) hc0
 cases hO with
 | skip _ _ hw' =>
  refine ⟨_,.skip kj B ((hwp _).symm.trans hw'),fun u B' hu=>?_⟩
  obtain ⟨rfl,rfl⟩:=hu
  obtain ⟨Oi',k1,k2⟩:=hi undef B' (fun _ h=>h)
  refine ⟨⟨N,hN⟩,_,k1,fun v B2 h'=>?_⟩
  obtain ⟨g,c,hg,hn,hc,rfl,rfl⟩:=k2 v B2 h'
  obtain ⟨O,hO,hK⟩:=H g c hg hn hc
  rw [←Act.put_comm a (val g c) undef h2]
  cases hO with
  | skip=>exact hK _ _ ⟨rfl,rfl⟩
  | quiet _ _ hw2 | read _ _ hw2 | write _ _ _ _ hw2 | alloc _ _ _ hw2 | new _ _ _ hw2 | grow _ _ _ _ _ hw2 =>
   rw [hwp] at hw2 hw';rw [hw'] at hw2;cases hw2
 | quiet _ u hw' hq' =>
  have hp:Hi oj=true:=by rcases hok with h | h;cases h;exact h.2
  have hr:=fun x hx=>Uv hp (hq' x hx)
  refine ⟨_,.quiet B u ((hwp _).symm.trans hw') (fun x hx=>(Zd hsj h1).1 (hq' x hx)),fun u' B' hu=>?_⟩
  obtain ⟨rfl,rfl⟩:=hu
  obtain ⟨Oi',k1,k2⟩:=hi u' B' (fun _ h=>h)
  refine ⟨⟨N,hN⟩,_,k1,fun v B2 h'=>?_⟩
  obtain ⟨g,c,hg,hn,hc,rfl,rfl⟩:=k2 v B2 h'
  obtain ⟨O,hO,hK⟩:=H g c hg hn hc
  rw [←Act.put_comm a (val g c) _ h2]
  cases hO with
  | skip _ _ hw2=>rw [hwp] at hw2 hw';rw [hw'] at hw2;cases hw2
  | quiet _ u2 hw2 hq2 =>
   have e1:=hr w (Behind.refl w Wr)
   have e2:=Uv hp (hq2 w (Behind.refl w Wr))
   rw [hep] at e1 e2
   rw [e1] at e2
   simp only [Result.ok.injEq,Next.value.injEq,and_true] at e2
   exact hK _ _ ⟨e2,rfl⟩
 | read=>simp at hok
 | write=>simp at hok
 | alloc _ sc oc hw' hq' =>
  refine ⟨_,.alloc B sc oc ((hwp _).symm.trans hw') (fun x hx=>by rw [←hep];exact hq' x hx),fun u' B' hu=>?_⟩
  obtain ⟨b,hb,hbn,rfl,rfl⟩:=hu
  obtain ⟨Oi',k1,k2⟩:=hi (Q0y sc b) (B.put b oc) (fun _ h=>h.of_put hbn)
  refine ⟨(show Fin B from ⟨N,hN⟩).put _ _,_,k1,fun v B2 h'=>?_⟩
  obtain ⟨g,c,hg,hn,hc,rfl,rfl⟩:=k2 v B2 h'
  have hgb:g≠b:=fun e=>by subst e;rw [Blocks.put_same] at hn;cases hn
  rw [Blocks.put_other _ _ hgb] at hn
  obtain ⟨O,hO,hK⟩:=H g c hg hn hc
  rw [←Act.put_comm a (val g c) _ h2,Blocks.put_comm _ _ _ (Ne.symm hgb)]
  cases hO with
  | skip _ _ hw2=>rw [hwp] at hw2 hw';rw [hw'] at hw2;cases hw2
  | alloc _ sc2 oc2 hw2 hq2 =>
   have e1:=hq' w (Behind.refl w Wr)
   have e2:=hq2 w (Behind.refl w Wr)
   rw [hep] at e1 e2
   rw [e1] at e2
   simp only [Result.ok.injEq,Next.value.injEq] at e2
   have e3:=Q4h e2.1
   have e4:=Q42 e2.2
   subst e3 e4
   exact hK _ _ ⟨b,hb,by rw [Blocks.put_other _ _ (Ne.symm hgb)];exact hbn,rfl,rfl⟩
 | new=>simp at hok
 | grow=>simp at hok
theorem Q5g {kd:Nat→Nat} {i j:Nat} {oi oj:Oper} (hj:ops[j]?=some oj) (hap:oi.apart ops oj=true) (hok:Xz (kd i) (kd j) oj=true)
  (hsi:∀ cs b,oi.op≠.select cs b) (hsj:∀ cs b,oj.op≠.select cs b) {K:Act→Blocks→Prop} {a:Act} {B:Blocks} (hf:Fin B) {Oi:Value→Blocks→Prop}
  (hi:GStep P ops w Wr oi a (kd i) B Oi) (H:∀ v B1,Oi v B1→gOp P ops w Wr kd j K (a.put oi.dst v) B1) :
  gOp P ops w Wr kd j (fun a' B'=>Fin B'∧∃ Oi',GStep P ops w Wr oi a' (kd i) B' Oi'∧∀ v B2,Oi' v B2→K (a'.put oi.dst v) B2) a B:=by
 obtain ⟨h1,h2,h3⟩:=Oper.apart_spec hap
 unfold gOp at *
 simp only [hj] at *
 have hwp:∀ u,Region.wanted oj (yielded ops (a.put oi.dst u).tmps)=Region.wanted oj (yielded ops a.tmps):=fun u=>wanted_put oj a oi.dst u h1
 have hep:∀ u,execOp (a.put oi.dst u).eval oj=execOp a.eval oj:=fun u=>execOp_put oj hsj a oi.dst u h1
 generalize hki:kd i=ki at *
 generalize hkj:kd j=kj at *
 have still:∀ (v:Value),Oi v B→(∀ u B',B'=B∨(∃ b ob,B b=none∧B'=B.put b ob)∨(∃ b ob,ki≠1∧B'=B.put b ob)→∃ Oi',GStep P ops w Wr oi (a.put oj.dst u) ki B' Oi'∧∀ v' B2,Oi' v' B2→v'=v∧B2=B')→(ki=1→kj≠2) →
   ∃ O,GStep P ops w Wr oj a kj B O∧∀ u B',O u B'→Fin B'∧∃ Oi',GStep P ops w Wr oi (a.put oj.dst u) ki B' Oi'∧∀ v B2,Oi' v B2→K ((a.put oj.dst u).put oi.dst v) B2:=fun v hv hs hk=>by
  obtain ⟨O,hO,hK⟩:=H v B hv
  refine ⟨O,hO.unput hsj h1,fun u B' hu=>⟨hO.fin hf u B' hu,?_⟩⟩
  have hB':B'=B∨(∃ b ob,B b=none∧B'=B.put b ob)∨(∃ b ob,ki≠1∧B'=B.put b ob):=by
   cases hO with
   | skip | quiet | read=>exact .inl hu.2
   | write _ b ob _ _ _ _ _=>exact .inr (.inr ⟨b,ob,fun e=>hk e rfl,hu.2⟩)
   | alloc _ _ ob _ _=>obtain ⟨g,_,hg,_,rfl⟩:=hu;exact .inr (.inl ⟨g,ob,hg,rfl⟩)
   | new _ _ ob _ _=>obtain ⟨g,_,hg,_,rfl⟩:=hu;exact .inr (.inl ⟨g,ob,hg,rfl⟩)
   | grow _ _ ob _ _ _ _=>obtain ⟨g,c,_,hg,_,_,rfl⟩:=hu;exact .inr (.inl ⟨g,ob c,hg,rfl⟩)
  obtain ⟨Oi',g1,g2⟩:=hs u B' hB'
  refine ⟨Oi',g1,fun v' B2 h'=>?_⟩
  obtain ⟨rfl,rfl⟩:=g2 v' B2 h'
  rw [←Act.put_comm a v' u h2]
  exact hK u _ hu
 cases hi with
 | skip _ _ hw =>
  refine still undef ⟨rfl,rfl⟩ (fun u B' _=>⟨_,.skip ki B' ((wanted_put oi a oj.dst u h3).trans hw),fun _ _ h=>h⟩) (fun e hk=>?_)
  subst e hk;simp [Xz] at hok
 | quiet _ v hw hq=>exact still v ⟨rfl,rfl⟩ (fun u B' _=>⟨_,GStep.put hsi h3 (.quiet B' v hw hq),fun _ _ h=>h⟩) (fun e=>by cases e)
 | read _ v hw hq =>
  refine still v ⟨rfl,rfl⟩ (fun u B' hB'=>⟨_,GStep.put hsi h3 (.read B' v hw fun x hx hB=>?_),fun _ _ h=>h⟩) (fun _ hk=>by subst hk;simp [Xz] at hok)
  rcases hB' with rfl | ⟨b,ob,hb,rfl⟩ | ⟨b,ob,he,_⟩
  ·exact hq x hx hB
  ·exact hq x hx (hB.of_put hb)
  ·exact absurd rfl he
 | write _ b ob v hw hsome hb hq =>
  obtain ⟨O,hO,hK⟩:=H v _ ⟨rfl,rfl⟩
  have back:∀ (u:Value) (B':Blocks),(∀ x,Has B' x→Has B x)→(B' b).isSome=true→GStep P ops w Wr oi (a.put oj.dst u) 2 B' fun v' B2=>v'=v∧B2=B'.put b ob:=fun u B' hm hs =>
   GStep.put hsi h3 (.write B' b ob v hw hs hb fun x hx hB=>hq x hx (hm x hB))
  cases hO with
  | skip _ _ hw' =>
   refine ⟨_,.skip kj B ((hwp _).symm.trans hw'),fun u B' hu=>?_⟩
   obtain ⟨rfl,rfl⟩:=hu
   refine ⟨hf,_,back undef _ (fun _ h=>h) hsome,fun v' B2 h'=>?_⟩
   obtain ⟨rfl,rfl⟩:=h'
   rw [←Act.put_comm a v' undef h2];exact hK _ _ ⟨rfl,rfl⟩
  | quiet _ u hw' hq' =>
   refine ⟨_,.quiet B u ((hwp _).symm.trans hw') (fun x hx=>(Zd hsj h1).1 (hq' x hx)),fun u' B' hu=>?_⟩
   obtain ⟨rfl,rfl⟩:=hu
   refine ⟨hf,_,back _ _ (fun _ h=>h) hsome,fun v' B2 h'=>?_⟩
   obtain ⟨rfl,rfl⟩:=h'
   rw [←Act.put_comm a v' _ h2];exact hK _ _ ⟨rfl,rfl⟩
  | read=>simp [Xz] at hok
  | write=>simp [Xz] at hok
  | alloc _ sc oc hw' hq' =>
   refine ⟨_,.alloc B sc oc ((hwp _).symm.trans hw') (fun x hx=>by rw [←hep v];exact hq' x hx),fun u' B' hu=>?_⟩
   obtain ⟨g,hg,hn,rfl,rfl⟩:=hu
   have hgb:b≠g:=fun e=>by subst e;rw [hn] at hsome;cases hsome
   refine ⟨hf.put _ _,_,back _ _ (fun _ h=>h.of_put hn) (by rw [Blocks.put_other _ _ hgb];exact hsome),fun v' B2 h'=>?_⟩
   obtain ⟨rfl,rfl⟩:=h'
   rw [←Act.put_comm a v' _ h2,←Blocks.put_comm _ _ _ hgb]
   exact hK _ _ ⟨g,hg,by rw [Blocks.put_other _ _ (Ne.symm hgb)];exact hn,rfl,rfl⟩
  | new _ val oc hw' hq' =>
   refine ⟨_,.new B val oc ((hwp _).symm.trans hw') (fun x hx=>by rw [←hep v];exact hq' x hx),fun u' B' hu=>?_⟩
   obtain ⟨g,hg,hn,rfl,rfl⟩:=hu
   have hgb:b≠g:=fun e=>by subst e;rw [hn] at hsome;cases hsome
   refine ⟨hf.put _ _,_,back _ _ (fun _ h=>h.of_put hn) (by rw [Blocks.put_other _ _ hgb];exact hsome),fun v' B2 h'=>?_⟩
   obtain ⟨rfl,rfl⟩:=h'
   rw [←Act.put_comm a v' _ h2,←Blocks.put_comm _ _ _ hgb]
   exact hK _ _ ⟨g,hg,by rw [Blocks.put_other _ _ (Ne.symm hgb)];exact hn,rfl,rfl⟩
  | grow=>simp [Xz] at hok
 | alloc _ s ob hw hq=>exact Vr (fun g _=>Q0y s g) (fun _=>ob) (fun c=>c=0) ⟨0,rfl⟩ h1 h2 hsj (by simpa [Xz] using hok) hf (fun u B' _=>⟨_,GStep.put hsi h3 (.alloc B' s ob hw hq),fun v' B2 ⟨g,e1,e2,e3,e4⟩=>⟨g,0,e1,e2,rfl,e3,e4⟩⟩) (fun g c h4 h5 _=>H _ _ ⟨g,h4,h5,rfl,rfl⟩)
 | new _ val ob hw hq=>exact Vr (fun g _=>val g) (fun _=>ob) (fun c=>c=0) ⟨0,rfl⟩ h1 h2 hsj (by simpa [Xz] using hok) hf (fun u B' _=>⟨_,GStep.put hsi h3 (.new B' val ob hw hq),fun v' B2 ⟨g,e1,e2,e3,e4⟩=>⟨g,0,e1,e2,rfl,e3,e4⟩⟩) (fun g c h4 h5 _=>H _ _ ⟨g,h4,h5,rfl,rfl⟩)
 | grow _ val ob R h0 hw hq=>exact Vr val ob R h0 h1 h2 hsj (by simpa [Xz] using hok) hf (fun u B' hm=>⟨_,GStep.put hsi h3 (.grow B' val ob R h0 hw fun x hx hB=>hq x hx (hm x hB)),fun v' B2 h=>h⟩) (fun g c h4 h5 h6=>H _ _ ⟨g,c,h4,h5,h6,rfl,rfl⟩)
theorem Q52 {s:Array Bool} {k:Nat} (h:s.getD k false=true):s.getD k true=true:=by
 rcases Nat.lt_or_ge k s.size with h' | h'
 ·simp [h'] at h ⊢;exact h
 ·simp [Array.getElem?_eq_none h'] at h
structure FreeD (md:Region.Mode) (ops:Array Oper) (kd:Nat→Nat) (i:Nat) (oi:Oper) (D:Nat→Bool) (s:Array Bool):Prop where
 dep:∀ j oj,ops[j]?=some oj→D j=true→∃ e∈oj.after,Region.binds md e=true∧(e.on=i∨D e.on=true)
 un:∀ j,D j=true→s.getD j true=false
 ok:∀ j oj,ops[j]?=some oj→j≠i→s.getD j true=false→D j=false→oi.apart ops oj=true∧Xz (kd i) (kd j) oj=true
theorem FreeD.not {kd:Nat→Nat} {i j:Nat} {oi oj:Oper} {D:Nat→Bool} {s:Array Bool} (h:FreeD md ops kd i oi D s) (hun:s.getD i true=false) (hj:ops[j]?=some oj)
  (hall:∀ e∈oj.after,Region.binds md e=true→s.getD e.on true=true):D j=false:=by
 rw [Bool.eq_false_iff]
 intro hd
 obtain ⟨e,he,hb,h1 | h1⟩:=h.dep j oj hj hd
 ·have:=hall e he hb
  rw [h1,hun] at this;cases this
 ·have:=hall e he hb
  rw [h.un _ h1] at this;cases this
theorem FreeD.set {kd:Nat→Nat} {i j:Nat} {oi:Oper} {D:Nat→Bool} {s:Array Bool} (h:FreeD md ops kd i oi D s) (hjun:s.getD j true=false) (hd:D j=false):FreeD md ops kd i oi D (s.setIfInBounds j true) where
 dep:=h.dep
 un:=fun k hk=>by
  have:j≠k:=fun e=>by subst e;rw [hd] at hk;cases hk
  rw [getD_set_ne true this];exact h.un k hk
 ok:=fun k ok hk hki hu hno=>h.ok k ok hk hki (by
  by_cases hjk:j=k
  ·subst hjk;exact hjun
  ·rwa [getD_set_ne true hjk] at hu) hno
theorem Q8p {kd:Nat→Nat} {Q:Act→Blocks→Prop} {i:Nat} {oi:Oper} {D:Nat→Bool} (hi:ops[i]?=some oi) (hsel:∀ (j:Nat) (o:Oper) cs b,ops[j]?=some o→o.op≠.select cs b) :
  ∀ (fuel:Nat) (s:Array Bool) (a:Act) (B:Blocks) (Oi:Value→Blocks→Prop),
   FreeD md ops kd i oi D s →
   i∈Region.ready md ops s→Fin B→GStep P ops w Wr oi a (kd i) B Oi →
   (∀ v B',Oi v B'→Game P md ops w Wr kd Q fuel (s.setIfInBounds i true) (a.put oi.dst v) B')→(∃ v B',Oi v B')→Game P md ops w Wr kd Q (fuel+1) s a B:=by
 intro fuel
 induction fuel with
 | zero =>
  intro s a B Oi _ hr hf hg H hne
  refine ⟨fun h=>(by rw [h] at hr;cases hr),fun j hj=>?_⟩
  by_cases hji:j=i
  ·subst hji
   unfold gOp
   simp only [hi]
   exact ⟨Oi,hg,H⟩
  ·obtain ⟨v,B',hO⟩:=hne
   have:=ready_mono hj hji
   rw [(H v B' hO).1] at this
   cases this
 | succ fuel ih =>
  intro s a B Oi hfree hr hf hg H hne
  have h0:=(mem_ready.1 hr).1
  refine ⟨fun h=>(by rw [h] at hr;cases hr),fun j hj=>?_⟩
  by_cases hji:j=i
  ·subst hji
   unfold gOp
   simp only [hi]
   exact ⟨Oi,hg,H⟩
  ·obtain ⟨hjun,oj,hoj,hall⟩:=mem_ready.1 hj
   have hall':∀ e∈oj.after,Region.binds md e=true→s.getD e.on true=true:=fun e he hb=>Q52 (hall e he hb)
   have hd:=hfree.not h0 hoj hall'
   obtain ⟨hap,hok⟩:=hfree.ok j oj hoj hji hjun hd
   have h2:=Q5g hoj hap hok (fun cs b=>hsel i oi cs b hi) (fun cs b=>hsel j oj cs b hoj) hf hg (fun v B1 hO=>(H v B1 hO).2 j (ready_mono hj hji))
   refine Q7a (fun a' B' h3=>?_) h2
   obtain ⟨hf',Oi',hg',hK⟩:=h3
   refine ih (s.setIfInBounds j true) a' B' Oi' (hfree.set hjun hd) (ready_mono hr (Ne.symm hji)) hf' hg' (fun v B2 hO=>?_) (hg'.inhab hf')
   rw [Array.setIfInBounds_comm _ _ hji];exact hK v B2 hO
def Jh (P:Program) (ops:Array Oper) (w:World) (Wr:List Nat) (kd:Nat→Nat) (Q:Act→Blocks→Prop):List Oper→Nat→Act→Blocks→Prop
 | [],_,a,B=>Q a B
 | o::rest,k,a,B=>∃ O,GStep P ops w Wr o a (kd k) B O∧∀ v B',O v B'→Jh P ops w Wr kd Q rest (k+1) (a.put o.dst v) B'
def Un (md:Region.Mode) (ops:Array Oper) (i:Nat):List Bool :=
 (List.range ops.size).foldl (fun D j=>D++[match ops[j]? with
  | some oj=>oj.after.any fun e=>Region.binds md e&&(e.on == i||D.getD e.on false)
  | none=>false]) []
def freeG (md:Region.Mode) (ops:Array Oper) (kd:Nat→Nat) (s:Array Bool) (i:Nat):Bool :=
 match ops[i]? with
 | none=>false
 | some oi=>(List.range ops.size).all fun j=>match ops[j]? with
   | none=>true
   | some oj=>if (Un md ops i).getD j false then s.getD j true == false&&oj.after.any (fun e=>Region.binds md e&&(e.on == i||(decide (e.on<ops.size)&&(Un md ops i).getD e.on false)))
    else j == i||s.getD j true||(oi.apart ops oj&&Xz (kd i) (kd j) oj)
theorem Q2o {kd:Nat→Nat} {i:Nat} {oi:Oper} {s:Array Bool} (hi:ops[i]?=some oi) (h:freeG md ops kd s i=true):FreeD md ops kd i oi (fun j=>decide (j<ops.size)&&(Un md ops i).getD j false) s:=by
 simp only [freeG,hi,List.all_eq_true,List.mem_range] at h
 refine ⟨fun j oj hj hd=>?_,fun j hd=>?_,fun j oj hj hne hun hd=>?_⟩
 ·have hlt:=(Array.getElem?_eq_some_iff.1 hj).1
  have h1:=h j hlt
  simp only [hlt,decide_true,Bool.true_and] at hd
  simp only [hj,hd,if_true,Bool.and_eq_true] at h1
  obtain ⟨e,he,hb⟩:=Array.any_eq_true'.1 h1.2
  simp only [Bool.and_eq_true,Bool.or_eq_true,beq_iff_eq] at hb
  exact ⟨e,he,hb.1,hb.2.imp id fun h=>by simpa using h⟩
 ·simp only [Bool.and_eq_true,decide_eq_true_eq] at hd
  have h1:=h j hd.1
  simp only [Array.getElem?_eq_getElem hd.1,hd.2,if_true,Bool.and_eq_true,beq_iff_eq] at h1
  exact h1.1
 ·have hlt:=(Array.getElem?_eq_some_iff.1 hj).1
  have h1:=h j hlt
  simp only [hlt,decide_true,Bool.true_and] at hd
  simp only [hj,hd,Bool.false_eq_true,if_false] at h1
  simpa [hne,hun] using h1
def lexG (md:Region.Mode) (ops:Array Oper) (kd:Nat→Nat):Nat→Nat→Array Bool→Bool
 | 0,_,s=>(Region.ready md ops s).isEmpty
 | fuel+1,k,s=>(Region.ready md ops s).contains k&&freeG md ops kd s k&&lexG md ops kd fuel (k+1) (s.setIfInBounds k true)
def gameB (md:Region.Mode) (ops:Array Oper) (kinds:List Nat):Bool:=Region.noSelect ops&&lexG md ops (fun k=>kinds.getD k 0) ops.size 0 (Array.replicate ops.size false)
theorem Q7q {kd:Nat→Nat} {Q:Act→Blocks→Prop} (hs:Region.noSelect ops=true):∀ (l:List Oper) (k:Nat) (s:Array Bool) (a:Act) (B:Blocks),(∀ j,l[j]?=ops[k+j]?)→Fin B →
  lexG md ops kd l.length k s=true→Jh P ops w Wr kd Q l k a B→Game P md ops w Wr kd Q l.length s a B
 | [],_,_,_,_,_,_,hB,h=>⟨by simpa [lexG] using hB,h⟩
 | o::l,k,s,a,B,hl,hf,hB,h=>by
  have h0:ops[k]?=some o:=by simpa using (hl 0).symm
  simp only [List.length_cons,lexG,Bool.and_eq_true] at hB
  obtain ⟨O,hg,hK⟩:=h
  exact Q8p h0 (Region.noSelect_spec hs) l.length s a B O (Q2o h0 hB.1.2) (by simpa using hB.1.1) hf hg
   (fun v B' hO=>Q7q hs l (k+1) _ _ B' (fun j=>by have:=hl (j+1);simpa [Nat.add_assoc,Nat.add_comm 1 j] using this) (hg.fin hf v B' hO) hB.2 (hK v B' hO)) (hg.inhab hf)
theorem Qo {id:Nat} {Q:Exit→Act→World→Prop} {a:Act} {l:List Oper} (kinds:List Nat) (Wr:List Nat) (B:Blocks) (hf:Fin B) (hB:Has B w) (hm:P.follows .mixedOrders=true) (hc:gameB .any l.toArray kinds=true)
  (h:Jh P l.toArray w Wr (fun k=>kinds.getD k 0) (fun a' B'=>∀ x,Behind w Wr x→Has B' x→Q .normal a' x) l 0 a B):(Code.region id l.toArray true).wp P Q a w:=by
 simp only [gameB,Bool.and_eq_true] at hc
 refine wp_region_any hm (Wi (w:=w) (Wr:=Wr) (kd:=fun k=>kinds.getD k 0) (Q:=fun a' B'=>∀ x,Behind w Wr x→Has B' x→Q .normal a' x) (fun a' B' x hx hB' h'=>h' x hx hB') _ _ _ B _ (Behind.drew w Wr) hB ?_)
 have:=Q7q (md:=.any) hc.1 l 0 (Array.replicate l.toArray.size false) a B (by simp) hf (by simpa using hc.2) h
 simpa using this
theorem Q14 {Q:Exit→Act→World→Prop} {kd:Nat→Nat} {Q':Act→Blocks→Prop} (hQ:∀ a B x,Behind w Wr x→Has B x→Q' a B→Q .normal a x):∀ (l:List Oper) (k:Nat) (a:Act) (B:Blocks) (x:World),Behind w Wr x→Has B x →
  Jh P ops w Wr kd Q' l k a B→wpList P ops Q l a x
 | [],_,_,_,_,hx,hB,h=>hQ _ _ _ hx hB h
 | o::rest,k,a,B,x,hx,hB,h=>by
  obtain ⟨O,hg,hK⟩:=h
  exact hg.sound hx hB fun v B' x' hx' hB' hO=>Q14 hQ rest (k+1) _ B' x' hx' hB' (hK v B' hO)
theorem J6 {Q:Exit→Act→World→Prop} {a:Act} {l:List Oper} (kinds:List Nat) (Wr:List Nat) (B:Blocks) (hB:Has B w)
  (h:Jh P ops w Wr (fun k=>kinds.getD k 0) (fun a' B'=>∀ x,Behind w Wr x→Has B' x→Q .normal a' x) l 0 a B):wpList P ops Q l a w :=
 Q14 (w:=w) (fun _ _ x hx hB' h'=>h' x hx hB') l 0 a B w (Behind.refl w Wr) hB h
/-! ### The steps of the walk -/
def Q5x (l:List Oper) (n:Nat):Bool :=
 match l with
 | []=>true
 | o::rest=>(match o.dst with
  | some d=>decide (d<n)&&rest.all (fun p=>p.dst != some d)
  | none=>false)&&Q5x rest n
theorem Q6k (a:Act) (d:Option Tmp) (v:Value):(a.put d v).tmps.size=a.tmps.size:=by
 cases d<;>simp [Act.put]
theorem put_get {a:Act} {d:Nat} {v:Value} (h:d<a.tmps.size):(a.put (some d) v).tmps[d]?=some v:=by
 simp [Act.put,h]
theorem Wj {a:Act} {d:Option Tmp} {e:Nat} {v:Value} (h:d≠some e):(a.put d v).tmps[e]?=a.tmps[e]?:=by
 cases d with
 | none=>rfl
 | some d =>
  have:d≠e:=fun he=>h (by rw [he])
  simp [Act.put,this]
theorem Xc {C:World→Prop} {a1:Act}:∀ (l:List Oper) (a:Act) (e:Nat),(l.all fun p=>p.dst != some e)=true→wpQuiet P ops C (fun a'=>a'=a1) l a→a1.tmps[e]?=a.tmps[e]?
 | [],_,_,_,h=>by rw [show _=_ from (h:_=a1)]
 | o::rest,a,e,hd,h=>by
  simp only [List.all_cons,Bool.and_eq_true,bne_iff_ne,ne_eq] at hd
  unfold wpQuiet at h
  split at h
  ·obtain ⟨v,_,h⟩:=h
   rw [Xc rest _ e hd.2 h,Wj hd.1]
  ·rw [Xc rest _ e hd.2 h,Wj hd.1]
theorem Q0t {kd:Nat→Nat} {Q:Act→Blocks→Prop} {B:Blocks} (a1:Act):∀ (n:Nat) (l:List Oper) (k:Nat) (a:Act),Q5x (l.take n) a.tmps.size=true→((List.range n).all fun j=>kd (k+j) == 0)=true →
  (∀ x,Behind w Wr x→wpQuiet P ops (Cx x) (fun a'=>a'=a1) (l.take n) a)→Jh P ops w Wr kd Q (l.drop n) (k+n) a1 B→Jh P ops w Wr kd Q l k a B
 | 0,l,k,a,_,_,h,hr=>by
  have:a=a1:=h w (Behind.refl w Wr)
  subst this;exact hr
 | n+1,[],k,a,_,_,h,hr=>by
  have:a=a1:=h w (Behind.refl w Wr)
  subst this;exact hr
 | n+1,o::rest,k,a,hs,hk,h,hr=>by
  have hk0:kd k=0:=by
   have:=List.all_eq_true.1 hk 0 (by simp)
   simpa using this
  have hk':((List.range n).all fun j=>kd (k+1+j) == 0)=true:=List.all_eq_true.2 fun j hj=>by
   have:=List.all_eq_true.1 hk (j+1) (by simp at hj ⊢;omega)
   rwa [show k+(j+1)=k+1+j by omega] at this
  simp only [List.take_succ_cons,Q5x,Bool.and_eq_true] at hs
  have hr':Jh P ops w Wr kd Q (rest.drop n) (k+1+n) a1 B:=by rw [show k+1+n=k+(n+1) by omega];exact hr
  have hs2:∀ v,Q5x (rest.take n) (a.put o.dst v).tmps.size=true:=fun v=>by rw [Q6k];exact hs.2
  by_cases hw:Region.wanted o (yielded ops a.tmps)=true
  ·have h':∀ x,Behind w Wr x→∃ v,(∀ y,Cx x y→o.quietAt P a (Cx x) y v)∧wpQuiet P ops (Cx x) (fun a'=>a'=a1) (rest.take n) (a.put o.dst v):=fun x hx=>by
    have:=h x hx
    rw [List.take_succ_cons] at this
    unfold wpQuiet at this
    rw [if_pos hw] at this
    exact this
   obtain ⟨v0,_,hv0⟩:=h' w (Behind.refl w Wr)
   cases hdst:o.dst with
   | none=>rw [hdst] at hs;simp at hs
   | some d =>
    have hd:d<a.tmps.size∧((rest.take n).all fun p=>p.dst != some d)=true:=by
     have:=hs.1;rw [hdst] at this;simpa using this
    have same:∀ v,(∃ x,wpQuiet P ops (Cx x) (fun a'=>a'=a1) (rest.take n) (a.put o.dst v))→v=v0:=fun v ⟨x,hv⟩=>by
     have e1:=Xc _ _ d hd.2 hv
     have e2:=Xc _ _ d hd.2 hv0
     rw [hdst,put_get hd.1] at e1 e2
     rw [e1] at e2
     exact Option.some.inj e2
    have key:∀ x,Behind w Wr x→o.quietAt P a (Cx x) x v0:=fun x hx=>by
     obtain ⟨v,h1,h2⟩:=h' x hx
     rw [←same v ⟨x,h2⟩]
     exact h1 x ⟨⟨#[],x.drawn⟩,by simp [Go.Proofs.YtcpehljpegfckaaGreatDoor.plus]⟩
    have g:GStep P ops w Wr o a (kd k) B (fun v' B'=>v'=v0∧B'=B):=by rw [hk0];exact .quiet B v0 hw key
    refine ⟨_,g,fun v' B' hO=>?_⟩
    ·obtain ⟨rfl,rfl⟩:=hO
     refine Q0t a1 n rest (k+1) _ (hs2 _) hk' (fun x hx=>?_) hr'
     obtain ⟨v,h1,h2⟩:=h' x hx
     rw [←same v ⟨x,h2⟩];exact h2
  ·have hw':Region.wanted o (yielded ops a.tmps)=false:=by simpa using hw
   refine ⟨_,.skip _ B hw',fun v' B' hO=>?_⟩
   obtain ⟨rfl,rfl⟩:=hO
   refine Q0t a1 n rest (k+1) _ (hs2 _) hk' (fun x hx=>?_) hr'
   have:=h x hx
   rw [List.take_succ_cons] at this
   unfold wpQuiet at this
   rw [if_neg hw] at this
   exact this
theorem Q34 {kd:Nat→Nat} {Q:Act→Blocks→Prop} {B:Blocks} (a1:Act) (x0:World) (hx0:Behind w Wr x0) (hB0:Has B x0):∀ (n:Nat) (l:List Oper) (k:Nat) (a:Act),Q5x (l.take n) a.tmps.size=true→((List.range n).all fun j=>kd (k+j) == 1)=true →
  (∀ x,Behind w Wr x→Has B x→wpQuiet P ops (Cx x) (fun a'=>a'=a1) (l.take n) a)→Jh P ops w Wr kd Q (l.drop n) (k+n) a1 B→Jh P ops w Wr kd Q l k a B
 | 0,l,k,a,_,_,h,hr=>by
  have:a=a1:=h x0 hx0 hB0
  subst this;exact hr
 | n+1,[],k,a,_,_,h,hr=>by
  have:a=a1:=h x0 hx0 hB0
  subst this;exact hr
 | n+1,o::rest,k,a,hs,hk,h,hr=>by
  have hk0:kd k=1:=by
   have:=List.all_eq_true.1 hk 0 (by simp)
   simpa using this
  have hk':((List.range n).all fun j=>kd (k+1+j) == 1)=true:=List.all_eq_true.2 fun j hj=>by
   have:=List.all_eq_true.1 hk (j+1) (by simp at hj ⊢;omega)
   rwa [show k+(j+1)=k+1+j by omega] at this
  simp only [List.take_succ_cons,Q5x,Bool.and_eq_true] at hs
  have hr':Jh P ops w Wr kd Q (rest.drop n) (k+1+n) a1 B:=by rw [show k+1+n=k+(n+1) by omega];exact hr
  have hs2:∀ v,Q5x (rest.take n) (a.put o.dst v).tmps.size=true:=fun v=>by rw [Q6k];exact hs.2
  by_cases hw:Region.wanted o (yielded ops a.tmps)=true
  ·have h':∀ x,Behind w Wr x→Has B x→∃ v,(∀ y,Cx x y→o.quietAt P a (Cx x) y v)∧wpQuiet P ops (Cx x) (fun a'=>a'=a1) (rest.take n) (a.put o.dst v):=fun x hx hB=>by
    have:=h x hx hB
    rw [List.take_succ_cons] at this
    unfold wpQuiet at this
    rw [if_pos hw] at this
    exact this
   obtain ⟨v0,_,hv0⟩:=h' x0 hx0 hB0
   cases hdst:o.dst with
   | none=>rw [hdst] at hs;simp at hs
   | some d =>
    have hd:d<a.tmps.size∧((rest.take n).all fun p=>p.dst != some d)=true:=by
     have:=hs.1;rw [hdst] at this;simpa using this
    have same:∀ v,(∃ x,wpQuiet P ops (Cx x) (fun a'=>a'=a1) (rest.take n) (a.put o.dst v))→v=v0:=fun v ⟨x,hv⟩=>by
     have e1:=Xc _ _ d hd.2 hv
     have e2:=Xc _ _ d hd.2 hv0
     rw [hdst,put_get hd.1] at e1 e2
     rw [e1] at e2
     exact Option.some.inj e2
    have key:∀ x,Behind w Wr x→Has B x→o.quietAt P a (Cx x) x v0:=fun x hx hB=>by
     obtain ⟨v,h1,h2⟩:=h' x hx hB
     rw [←same v ⟨x,h2⟩]
     exact h1 x ⟨⟨#[],x.drawn⟩,by simp [Go.Proofs.YtcpehljpegfckaaGreatDoor.plus]⟩
    have g:GStep P ops w Wr o a (kd k) B (fun v' B'=>v'=v0∧B'=B):=by rw [hk0];exact .read B v0 hw key
    refine ⟨_,g,fun v' B' hO=>?_⟩
    ·obtain ⟨rfl,rfl⟩:=hO
     refine Q34 a1 x0 hx0 hB0 n rest (k+1) _ (hs2 _) hk' (fun x hx hB=>?_) hr'
     obtain ⟨v,h1,h2⟩:=h' x hx hB
     rw [←same v ⟨x,h2⟩];exact h2
  ·have hw':Region.wanted o (yielded ops a.tmps)=false:=by simpa using hw
   refine ⟨_,.skip _ B hw',fun v' B' hO=>?_⟩
   obtain ⟨rfl,rfl⟩:=hO
   refine Q34 a1 x0 hx0 hB0 n rest (k+1) _ (hs2 _) hk' (fun x hx hB=>?_) hr'
   have:=h x hx hB
   rw [List.take_succ_cons] at this
   unfold wpQuiet at this
   rw [if_neg hw] at this
   exact this
theorem Qf {kd:Nat→Nat} {Q:Act→Blocks→Prop} {B:Blocks} {k:Nat} {a:Act} (h:Q a B):Jh P ops w Wr kd Q [] k a B:=h
def Qk (P:Program) (ops:Array Oper) (d:Nat) (ty:TypeId) (pos:String) (v:Value) (K:Act→Prop) (a:Act):Prop :=
 wpQuiet P ops (fun _=>True) K [⟨some d,.move (.const v),ty,pos,#[],none⟩] a
theorem Kp {d:Nat} {ty:TypeId} {pos:String} {v:Value} {K:Act→Prop} {a:Act} (h:Qk P ops d ty pos v K a):K (a.put (some d) v):=by
 unfold Qk wpQuiet at h
 simp only [Region.wanted,if_true] at h
 obtain ⟨u,hu,h⟩:=h
 have:=hu default trivial
 unfold Oper.quietAt at this
 simp only [execOp,Act.eval] at this
 have e:v=u:=by
  simpa [Oper.quietUpon] using this
 subst e;exact h
theorem Jm {kd:Nat→Nat} {Q:Act→Blocks→Prop} {B:Blocks} {rest:List Oper} {k d:Nat} {T ty:TypeId} {pos:String} {after:Array Edge} {a:Act} (z:Value) (hk:kd k=3) (hz:∀ x,(zeroValue T).run P x = .ok z x) (h:∀ g,w.heap.size≤g→B g=none→Qk P ops d ty pos (.pointer (some ⟨g,0,none⟩)) (fun a'=>Jh P ops w Wr kd Q rest (k+1) a' (B.put g (.cells z.cells T))) a) :
  Jh P ops w Wr kd Q (⟨some d,.alloc T,ty,pos,after,none⟩::rest) k a B:=by
 have key:∀ x,Behind w Wr x→(execOp a.eval ⟨some d,.alloc T,ty,pos,after,none⟩).run P x = .ok (.value (.pointer (some ⟨x.heap.size,0,none⟩))) (x.alloc (.cells z.cells T)):=fun x _=>by
  simp [execOp,Instr.alloc,hz x,newVar,go_sem]
 have g:GStep P ops w Wr ⟨some d,.alloc T,ty,pos,after,none⟩ a (kd k) B (fun v' B'=>∃ g,w.heap.size≤g∧B g=none∧v' = .pointer (some ⟨g,0,none⟩)∧B'=B.put g (.cells z.cells T)):=by rw [hk];exact .alloc B none (.cells z.cells T) rfl key
 refine ⟨_,g,fun v' B' hO=>?_⟩
 ·obtain ⟨g,h1,h2,rfl,rfl⟩:=hO
  exact Kp (h g h1 h2)
theorem Q4w {kd:Nat→Nat} {Q:Act→Blocks→Prop} {B:Blocks} {rest:List Oper} {k:Nat} {T ty:TypeId} {p v:Operand} {pos:String} {after:Array Edge} {a:Act} (b:Nat) (ob:Obj) (hk:kd k=2) (hb:(B b).isSome=true) (hW:b∈Wr∨w.heap.size≤b)
  (h1:∀ x,Has B x→Uk P b ob x undef ((execOp a.eval ⟨none,.store T p v,ty,pos,after,none⟩).run P x)) (h:Jh P ops w Wr kd Q rest (k+1) a (B.put b ob)) :
  Jh P ops w Wr kd Q (⟨none,.store T p v,ty,pos,after,none⟩::rest) k a B:=by
 have g:GStep P ops w Wr ⟨none,.store T p v,ty,pos,after,none⟩ a (kd k) B (fun v' B'=>v'=undef∧B'=B.put b ob):=by rw [hk];exact .write B b ob undef rfl hb hW fun x _ hB=>h1 x hB
 refine ⟨_,g,fun v' B' hO=>?_⟩
 obtain ⟨rfl,rfl⟩:=hO
 exact h
theorem Q94 {x:World} {b o:Nat} {xs:Array Value} {T:TypeId} (v:Value) (h:x.heap[b]?=some (.cells xs T (0,0))):Wrote b (.cells (xs.setIfInBounds o v) T (0,0)) x (x.setCell ⟨b,o,none⟩ v):=by
 refine ⟨rfl,rfl,rfl,by simp [World.setCell],heap_setCell_same x b o xs T v h,fun k _ hk=>heap_setCell_other x _ k v hk⟩
end
end Go.Proofs.YtcpehljpegfckaaGreatDoor
