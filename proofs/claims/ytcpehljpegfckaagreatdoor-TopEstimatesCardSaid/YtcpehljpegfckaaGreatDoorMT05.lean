/- Texts of this claim,joined: Game2,Game3,Game4,GD,Game5,Game6,Game7,Game9. -/
import Derived.Test.YtcpehljpegfckaaGreatDoorMT04
import Derived.Deep.MidRow
import Derived.Laws.Append
import Derived.Laws.AppendOwn
/- The game's steps for boxes and whole stores;what is known of blocks. -/
namespace Go.Proofs.YtcpehljpegfckaaGreatDoor
section
open Go.RowKit
section
variable {P:Program} {ops:Array Oper} {w:World} {Wr:List Nat}
theorem lex_box {kd:Nat→Nat} {Q:Act→Blocks→Prop} {B:Blocks} {rest:List Oper} {k d:Nat} {T ty:TypeId} {y:Operand} {pos:String} {after:Array Edge} {a:Act} (v:Value) (hv:a.eval y=v) (hk:kd k=3)
  (h:∀ g,w.heap.size≤g→B g=none→Qk P ops d ty pos (.pointer (some ⟨g,0,none⟩)) (fun a'=>Jh P ops w Wr kd Q rest (k+1) a' (B.put g (.cells v.cells T))) a) :
  Jh P ops w Wr kd Q (⟨some d,.box T y,ty,pos,after,none⟩::rest) k a B:=by
 have key:∀ x,Behind w Wr x→(execOp a.eval ⟨some d,.box T y,ty,pos,after,none⟩).run P x = .ok (.value (.pointer (some ⟨x.heap.size,0,none⟩))) (x.alloc (.cells v.cells T)):=fun x _=>by
  subst hv
  simp [execOp,Instr.box,newVar,go_sem]
 have g:GStep P ops w Wr ⟨some d,.box T y,ty,pos,after,none⟩ a (kd k) B (fun v' B'=>∃ g,w.heap.size≤g∧B g=none∧v' = .pointer (some ⟨g,0,none⟩)∧B'=B.put g (.cells v.cells T)):=by rw [hk];exact .alloc B none (.cells v.cells T) rfl key
 refine ⟨_,g,fun v' B' hO=>?_⟩
 obtain ⟨g,h1,h2,rfl,rfl⟩:=hO
 exact Kp (h g h1 h2)
theorem Q7p {kd:Nat→Nat} {Q:Act→Blocks→Prop} {B:Blocks} {rest:List Oper} {k d:Nat} {T ty:TypeId} {y:Operand} {pos:String} {after:Array Edge} {a:Act} (cs:Array Value) (hv:a.eval y = .agg cs) (hk:kd k=3)
  (h:∀ g,w.heap.size≤g→B g=none→Qk P ops d ty pos (.pointer (some ⟨g,0,none⟩)) (fun a'=>Jh P ops w Wr kd Q rest (k+1) a' (B.put g (.cells cs T))) a) :
  Jh P ops w Wr kd Q (⟨some d,.box T y,ty,pos,after,none⟩::rest) k a B:=lex_box (.agg cs) hv hk h
theorem Hh {b:Nat} {T:TypeId}:∀ (vs:List Value) (o:Nat) (x:World) (xs:Array Value),x.heap[b]?=some (.cells xs T (0,0))→o+vs.length≤xs.size →
  ∃ ys:Array Value,Wrote b (.cells ys T (0,0)) x (x.setCells b o vs)∧ys.size=xs.size∧(∀ i,i<o→ys[i]?=xs[i]?)∧(∀ i,i<vs.length→ys[o+i]?=vs[i]?)∧(∀ i,o+vs.length≤i→ys[i]?=xs[i]?)
 | [],o,x,xs,h,_=>⟨xs,⟨rfl,rfl,rfl,Nat.le_refl _,h,fun _ _ _=>rfl⟩,rfl,fun _ _=>rfl,fun i hi=>by simp at hi,fun _ _=>rfl⟩
 | v::r,o,x,xs,h,hl=>by
  simp only [List.length_cons] at hl
  have hw:=Q94 (o:=o) v h
  obtain ⟨ys,h1,h2,h3,h4,h5⟩:=Hh r (o+1) (x.setCell ⟨b,o,none⟩ v) _ hw.here (by simp;omega)
  refine ⟨ys,⟨h1.os.trans hw.os,h1.tape.trans hw.tape,h1.output.trans hw.output,Nat.le_trans hw.size h1.size,h1.here,fun k hl hk=>(h1.block k (Nat.lt_of_lt_of_le hl hw.size) hk).trans (hw.block k hl hk)⟩,by rw [h2];simp,fun i hi=>?_,fun i hi=>?_,fun i hi=>?_⟩
  ·rw [h3 i (by omega),Array.getElem?_setIfInBounds_ne (by omega)]
  ·cases i with
   | zero=>rw [Nat.add_zero,h3 o (by omega),Array.getElem?_setIfInBounds_self_of_lt (by omega)];rfl
   | succ i=>rw [show o+(i+1)=o+1+i by omega,h4 i (by simp at hi;omega)];rfl
  ·simp only [List.length_cons] at hi
   rw [h5 i (by omega),Array.getElem?_setIfInBounds_ne (by omega)]
theorem Xe {x:World} {b:Nat} {xs:Array Value} {T:TypeId} (h:x.heap[b]?=some (.cells xs T (0,0))) (o n:Nat) (hn:o+n≤xs.size):x.there b o n:=fun j hj=>by
 refine ⟨?_,frozen_of_row x b (o+j) xs T h⟩
 rw [cell_of_row x b (o+j) xs T (0,0) h,Array.getElem?_eq_getElem (by omega)];rfl
theorem Qh {kd:Nat→Nat} {Q:Act→Blocks→Prop} {B:Blocks} {rest:List Oper} {k:Nat} {T ty:TypeId} {p v:Operand} {pos:String} {after:Array Edge} {a:Act} (b:Nat) (cs:Array Value) (xs:Array Value) (E:TypeId) (hk:kd k=2) (hp:a.eval p = .pointer (some ⟨b,0,none⟩)) (hv:a.eval v = .agg cs)
  (hB:B b=some (.cells xs E (0,0))) (hsz:xs.size=cs.size) (hW:b∈Wr∨w.heap.size≤b) (hi:(P.info? T).map (·.size)=some cs.size) (h1:cs.all (·.oneCell')=true)
  (h:Jh P ops w Wr kd Q rest (k+1) a (B.put b (.cells cs E (0,0)))) :
  Jh P ops w Wr kd Q (⟨none,.store T p v,ty,pos,after,none⟩::rest) k a B:=by
 refine Q4w b (.cells cs E (0,0)) hk (by rw [hB];rfl) hW (fun x hx=>?_) h
 have hb:=hx b _ hB
 obtain ⟨ys,g1,g2,_,g4,_⟩:=Hh cs.toList 0 x xs hb (by simp;omega)
 have e:ys=cs:=by
  apply Array.ext_getElem?
  intro i
  by_cases hi:i<cs.size
  ·have:=g4 i (by simpa using hi)
   rw [Nat.zero_add] at this
   rw [this];simp
  ·rw [Array.getElem?_eq_none (by omega),Array.getElem?_eq_none (by omega)]
 subst e
 have hrun:(execOp a.eval ⟨none,.store T p v,ty,pos,after,none⟩).run P x = .ok .skip (x.setCells b 0 ys.toList):=by
  have:=run_storeAt_mid (P:=P) x b 0 T ys (Xe hb 0 _ (by omega)) hi h1
  simp only [execOp,hp,hv]
  simp [this]
 rw [hrun]
 exact ⟨rfl,g1⟩
theorem Q1c (x:World) (b o:Nat) (ty:TypeId) (v:Value) (ht:x.there b o v.cells.size) (hi:(P.info? ty).map (·.size)=some v.cells.size) (h1:v.cells.all (·.oneCell')=true) :
  (Instr.storeAt ty (.pointer (some ⟨b,o,none⟩)) v).run P x = .ok () (x.setCells b o v.cells.toList):=by
 have:=run_storeCells_cells (P:=P) b o v.cells.toList 0 x (fun j hj=>by simpa using (ht j (by simpa using hj)).1) (fun j hj=>by simpa using (ht j (by simpa using hj)).2)
  (fun v hv=>(Array.all_eq_true_iff_forall_mem.1 h1) v (by simpa using hv))
 cases hq:P.info? ty with
 | none=>simp [hq] at hi
 | some i =>
  have hs:v.cells.size=i.size:=by simp [hq] at hi;omega
  simp only [Nat.add_zero] at this
  simp only [Instr.storeAt,Instr.sureAddr,Sem.run_bind,Sem.run_pure,Result.andThen_ok]
  simp [storeVar,sizeOf,typeInfo,hq,hs,this]
theorem Qx {kd:Nat→Nat} {Q:Act→Blocks→Prop} {B:Blocks} {rest:List Oper} {k:Nat} {T ty:TypeId} {p v:Operand} {pos:String} {after:Array Edge} {a:Act} (b o:Nat) (val:Value) (xs ys:Array Value) (E:TypeId) (hk:kd k=2) (hp:a.eval p = .pointer (some ⟨b,o,none⟩)) (hv:a.eval v=val)
  (hB:B b=some (.cells xs E (0,0))) (hsz:o+val.cells.size≤xs.size) (hy:ys.size=xs.size) (hys:∀ i,i<ys.size→ys[i]?=if o≤i∧i<o+val.cells.size then val.cells[i-o]? else xs[i]?) (hW:b∈Wr∨w.heap.size≤b) (hi:(P.info? T).map (·.size)=some val.cells.size) (h1:val.cells.all (·.oneCell')=true)
  (h:Jh P ops w Wr kd Q rest (k+1) a (B.put b (.cells ys E (0,0)))) :
  Jh P ops w Wr kd Q (⟨none,.store T p v,ty,pos,after,none⟩::rest) k a B:=by
 refine Q4w b (.cells ys E (0,0)) hk (by rw [hB];rfl) hW (fun x hx=>?_) h
 have hb:=hx b _ hB
 obtain ⟨zs,g1,g2,g3,g4,g5⟩:=Hh val.cells.toList o x xs hb (by simpa using hsz)
 have e:zs=ys:=by
  apply Array.ext_getElem?
  intro i
  by_cases hi:i<ys.size
  ·rw [hys i hi]
   split
   ·rename_i h2
    have:=g4 (i-o) (by simp;omega)
    rw [show o+(i-o)=i by omega] at this
    rw [this];simp
   ·rename_i h2
    by_cases h3:i<o
    ·exact g3 i h3
    ·exact g5 i (by simp;omega)
  ·rw [Array.getElem?_eq_none (by omega),Array.getElem?_eq_none (by omega)]
 subst e
 have hrun:(execOp a.eval ⟨none,.store T p v,ty,pos,after,none⟩).run P x = .ok .skip (x.setCells b o val.cells.toList):=by
  have:=Q1c (P:=P) x b o T val (Xe hb o _ hsz) hi h1
  simp only [execOp,hp,hv]
  simp [this]
 rw [hrun]
 exact ⟨rfl,g1⟩
theorem Q3j {kd:Nat→Nat} {Q:Act→Blocks→Prop} {B:Blocks} {rest:List Oper} {k:Nat} {T ty:TypeId} {p v:Operand} {pos:String} {after:Array Edge} {a:Act} (b:Nat) (val x0:Value) (E:TypeId) (hk:kd k=2) (hp:a.eval p = .pointer (some ⟨b,0,none⟩)) (hv:a.eval v=val)
  (hB:B b=some (.cells #[x0] E (0,0))) (hc:val.cells=#[val]) (hW:b∈Wr∨w.heap.size≤b) (hi:(P.info? T).map (·.size)=some 1) (h1:val.oneCell'=true)
  (h:Jh P ops w Wr kd Q rest (k+1) a (B.put b (.cells #[val] E (0,0)))) :
  Jh P ops w Wr kd Q (⟨none,.store T p v,ty,pos,after,none⟩::rest) k a B :=
 Qx b 0 val #[x0] #[val] E hk hp hv hB (by rw [hc];simp) rfl (fun i hi=>by
  have:i=0:=by simpa using hi
  subst this;simp [hc]) hW (by rw [hc];exact hi) (by rw [hc];simp [h1]) h
/-! ### What is known of blocks -/
theorem Q5 {x:World} {g:Nat} {cs:Array Value} {T:TypeId} (h:x.heap[g]?=some (.cells cs T (0,0))) (i:Nat) {v:Value} (hv:cs[i]?=some v):x.cell? ⟨g,i,none⟩=some v:=by
 rw [cell_of_row x g i cs T (0,0) h,hv]
theorem Qd {x:World} {g:Nat} {cs:Array Value} {T:TypeId} (h:x.heap[g]?=some (.cells cs T (0,0))) (i:Nat):x.frozen? ⟨g,i,none⟩=false:=frozen_of_row x g i cs T h
theorem Jg {x:World} {g:Nat} {cs:Array Value} {T:TypeId} (h:x.heap[g]?=some (.cells cs T (0,0))) (i:Nat) {v:Value} (hv:cs[i]?=some v) (p:Extra):(plus x p).cell? ⟨g,i,none⟩=some v :=
 Ou (Q5 h i hv) (Q9 h) p
theorem Behind.keep {x:World} (h:Behind w Wr x) {g:Nat} {o:Obj} (hg:w.heap[g]?=some o) (hn:g∉Wr):x.heap[g]?=some o:=by
 rw [h.block g (Q9 hg) hn];exact hg
theorem Behind.trans {x y:World} {W2:List Nat} (h:Behind w Wr x) (h2:Behind x W2 y) (hW:∀ b∈W2,b∈Wr∨w.heap.size≤b):Behind w Wr y :=
 ⟨h2.os.trans h.os,h2.tape.trans h.tape,h2.output.trans h.output,Nat.le_trans h.size h2.size,fun k hk hn=>(h2.block k (Nat.lt_of_lt_of_le hk h.size) fun hm=>by rcases hW k hm with h3 | h3;exact hn h3;omega).trans (h.block k hk hn)⟩
theorem Behind.below_of {x:World} (h:Behind w Wr x) {b:Nat} (hW:∀ k∈Wr,b≤k) (hb:b≤w.heap.size):Below b w x :=
 ⟨h.os,h.tape,h.output,h.size,fun k hk=>h.block k (by omega) fun hm=>by have:=hW k hm;omega⟩
theorem Below.heap {b:Nat} {x y:World} (h:Below b x y) {g:Nat} {o:Obj} (hg:x.heap[g]?=some o) (hb:g<b):y.heap[g]?=some o:=by rw [h.block g hb];exact hg
theorem Qr {B:Blocks} {x:World} (h:Has B x) {g:Nat} {o:Obj} (hg:x.heap[g]?=some o):Has (B.put g o) x:=fun k p hk=>by
 by_cases e:k=g
 ·subst e;rw [Blocks.put_same] at hk;cases hk;exact hg
 ·rw [Blocks.put_other _ _ e] at hk;exact h k p hk
theorem O6 {B:Blocks} {g k:Nat} {o:Obj} (h:B.put g o k=none):k≠g:=fun e=>by subst e;rw [Blocks.put_same] at h;cases h
theorem Q0w {B:Blocks} {g k:Nat} {o:Obj} (h:B.put g o k=none):B k=none:=by rwa [Blocks.put_other _ _ (O6 h)] at h
theorem Jq {kd:Nat→Nat} {Q:Act→Blocks→Prop} {B:Blocks} {l:List Oper} {k:Nat} {a:Act} (n:Nat) (x0:World) (hx0:Behind w Wr x0) (hB0:Has B x0) (h1:Q5x (l.take n) a.tmps.size=true) (h2:((List.range n).all fun j=>kd (k+j) == 1)=true)
  (h:∃ a1,(∀ x,Behind w Wr x→Has B x→wpQuiet P ops (Cx x) (fun a'=>a'=a1) (l.take n) a)∧Jh P ops w Wr kd Q (l.drop n) (k+n) a1 B):Jh P ops w Wr kd Q l k a B :=
 let ⟨a1,h3,h4⟩:=h
 Q34 a1 x0 hx0 hB0 n l k a h1 h2 h3 h4
theorem Qb {kd:Nat→Nat} {Q:Act→Blocks→Prop} {B:Blocks} {l:List Oper} {k:Nat} {a:Act} (n:Nat) (h1:Q5x (l.take n) a.tmps.size=true) (h2:((List.range n).all fun j=>kd (k+j) == 0)=true)
  (h:∃ a1,(∀ x,Behind w Wr x→wpQuiet P ops (Cx x) (fun a'=>a'=a1) (l.take n) a)∧Jh P ops w Wr kd Q (l.drop n) (k+n) a1 B):Jh P ops w Wr kd Q l k a B :=
 let ⟨a1,h3,h4⟩:=h
 Q0t a1 n l k a h1 h2 h3 h4
def B0:Blocks:=fun _=>none
theorem Qu:Fin B0:=⟨0,fun _ _=>rfl⟩
theorem Qi (x:World):Has B0 x:=fun _ _ h=>by cases h
end
end
/- The game with a forced tail;slices;append. -/
section
open Go.RowKit
section
variable {P:Program} {ops:Array Oper} {md:Region.Mode} {w:World} {Wr:List Nat}
def HeadG (P:Program) (md:Region.Mode) (ops:Array Oper) (w:World) (Wr:List Nat) (kd:Nat→Nat) (n:Nat) (L:Array Bool→Act→Blocks→Prop):Nat→Array Bool→Act→Blocks→Prop
 | 0,s,a,B=>L s a B
 | f+1,s,a,B=>Region.ready md ops s≠[]∧∀ i∈Region.ready md ops s,i<n∧gOp P ops w Wr kd i (HeadG P md ops w Wr kd n L f (s.setIfInBounds i true)) a B
theorem HeadG.any {kd:Nat→Nat} {n g:Nat} {L:Array Bool→Act→Blocks→Prop} {Q':Exit→Act→World→Prop} (hL:∀ s a B x,Behind w Wr x→Has B x→L s a B→wpAny P md ops Q' g s a x) :
  ∀ (f:Nat) (s:Array Bool) (a:Act) (B:Blocks) (x:World),Behind w Wr x→Has B x→HeadG P md ops w Wr kd n L f s a B→wpAny P md ops Q' (f+g) s a x
 | 0,s,a,B,x,hx,hB,h=>by rw [Nat.zero_add];exact hL _ _ _ _ hx hB h
 | f+1,s,a,B,x,hx,hB,h=>by
  rw [show f+1+g=(f+g)+1 by omega]
  exact ⟨fun h0=>absurd h0 h.1,fun i hi=>Q4g hx hB (fun a' B' x' hx' hB' h'=>HeadG.any hL f _ a' B' x' hx' hB' h') (h.2 i hi).2⟩
theorem HeadG.first {kd:Nat→Nat} {n i:Nat} {oi:Oper} {D:Nat→Bool} {L:Array Bool→Act→Blocks→Prop} (hi:ops[i]?=some oi) (hsel:∀ (j:Nat) (o:Oper) cs b,ops[j]?=some o→o.op≠.select cs b)
  (hs:Region.sinkB md ops n=true) (hc:Region.chainB md ops n=true) (hn:n<ops.size) (hin:i<n) (hdone:∀ s a B,L s a B→∀ j∈Region.ready md ops s,n≤j) (f:Nat) :
  ∀ (s:Array Bool) (a:Act) (B:Blocks) (Oi:Value→Blocks→Prop),HeadInv md ops n s→FreeD md ops kd i oi D s →
   i∈Region.ready md ops s→Fin B→GStep P ops w Wr oi a (kd i) B Oi→(∀ v B',Oi v B'→HeadG P md ops w Wr kd n L f (s.setIfInBounds i true) (a.put oi.dst v) B')→(∃ v B',Oi v B')→HeadG P md ops w Wr kd n L (f+1) s a B:=by
 induction f with
 | zero =>
  intro s a B Oi inv _ hr hf hg H hne
  refine ⟨List.ne_nil_of_mem hr,fun j hj=>?_⟩
  have hjn:j<n:=Nat.lt_of_not_le fun h=>tail_waits hs hc hn inv _ i rfl hin (mem_ready.1 hr).1 j h hj
  refine ⟨hjn,?_⟩
  rcases Decidable.em (j=i) with rfl | hji
  ·unfold gOp
   simp only [hi]
   exact ⟨Oi,hg,H⟩
  ·obtain ⟨v,B',hO⟩:=hne
   exact absurd (hdone _ _ _ (H v B' hO) j (ready_mono hj hji)) (by omega)
 | succ f ih =>
  intro s a B Oi inv hfree hr hf hg H hne
  have hun:=(mem_ready.1 hr).1
  refine ⟨List.ne_nil_of_mem hr,fun j hj=>?_⟩
  have hjn:j<n:=Nat.lt_of_not_le fun h=>tail_waits hs hc hn inv _ i rfl hin hun j h hj
  refine ⟨hjn,?_⟩
  rcases Decidable.em (j=i) with rfl | hji
  ·unfold gOp
   simp only [hi]
   exact ⟨Oi,hg,H⟩
  ·obtain ⟨hjun,oj,hoj,hall⟩:=mem_ready.1 hj
   have hall':∀ e∈oj.after,Region.binds md e=true→s.getD e.on true=true:=fun e he hb=>Q52 (hall e he hb)
   have hd:=hfree.not hun hoj hall'
   obtain ⟨hap,hok⟩:=hfree.ok j oj hoj hji hjun hd
   have h2:=Q5g hoj hap hok (fun cs b=>hsel i oi cs b hi) (fun cs b=>hsel j oj cs b hoj) hf hg (fun v B1 hO=>((H v B1 hO).2 j (ready_mono hj hji)).2)
   refine Q7a (fun a' B' h3=>?_) h2
   obtain ⟨hf',Oi',hg',hK⟩:=h3
   refine ih (s.setIfInBounds j true) a' B' Oi' (inv.set hj hjn) (hfree.set hjun hd) (ready_mono hr (Ne.symm hji)) hf' hg' (fun v B2 hO=>?_) (hg'.inhab hf')
   rw [Array.setIfInBounds_comm _ _ hji];exact hK v B2 hO
def Q6t (md:Region.Mode) (ops:Array Oper) (kd:Nat→Nat) (g:Nat):Nat→Nat→Array Bool→Bool
 | 0,k,s=>Region.seqB md ops g k s
 | fuel+1,k,s=>(Region.ready md ops s).contains k&&freeG md ops kd s k&&Q6t md ops kd g fuel (k+1) (s.setIfInBounds k true)
theorem HeadG.lex {kd:Nat→Nat} {n g:Nat} {Q:Act→Blocks→Prop} (hsel:Region.noSelect ops=true) (hs:Region.sinkB md ops n=true) (hc:Region.chainB md ops n=true) (hn:n<ops.size) :
  ∀ (l:List Oper) (k:Nat) (s:Array Bool) (a:Act) (B:Blocks),(∀ j,j<l.length→l[j]?=ops[k+j]?)→k+l.length=n→HeadInv md ops n s→Fin B→Q6t md ops kd g l.length k s=true →
  Jh P ops w Wr kd Q l k a B→HeadG P md ops w Wr kd n (fun s' a' B'=>Region.seqB md ops g n s'=true∧Q a' B') l.length s a B
 | [],k,s,a,B,_,hk,_,_,hB,h=>by
  obtain rfl:k=n:=by simpa using hk
  exact ⟨by simpa [Q6t] using hB,h⟩
 | o::l,k,s,a,B,hl,hk,inv,hf,hB,h=>by
  have h0:ops[k]?=some o:=by simpa using (hl 0 (by simp)).symm
  simp only [List.length_cons,Q6t,Bool.and_eq_true] at hB
  have hkn:k<n:=by simp only [List.length_cons] at hk;omega
  have hr':k∈Region.ready md ops s:=by simpa using hB.1.1
  obtain ⟨O,hg,hK⟩:=h
  exact HeadG.first h0 (Region.noSelect_spec hsel) hs hc hn hkn (fun _ _ _ hL=>seqB_ready hL.1) l.length s a B O inv (Q2o h0 hB.1.2) hr' hf hg
   (fun v B' hO=>HeadG.lex hsel hs hc hn l (k+1) _ _ B' (fun j hj=>by have:=hl (j+1) (by simp;omega);simpa [Nat.add_assoc,Nat.add_comm 1 j] using this) (by simp only [List.length_cons] at hk;omega) (inv.set hr' hkn) (hg.fin hf v B' hO) hB.2 (hK v B' hO)) (hg.inhab hf)
def gameTB (md:Region.Mode) (ops:Array Oper) (kinds:List Nat) (n:Nat):Bool :=
 Region.noSelect ops&&decide (n<ops.size)&&Region.sinkB md ops n&&Region.chainB md ops n&&Q6t md ops (fun k=>kinds.getD k 0) (ops.size-n) n 0 (Array.replicate ops.size false)
theorem Zi {id:Nat} {Q:Exit→Act→World→Prop} {a:Act} {l:List Oper} (n:Nat) (kinds:List Nat) (Wr:List Nat) (B:Blocks) (hf:Fin B) (hB:Has B w) (hm:P.follows .mixedOrders=true) (hb:gameTB .any l.toArray kinds n=true)
  (h:Jh P l.toArray w Wr (fun k=>kinds.getD k 0) (fun a' B'=>∀ x,Behind w Wr x→Has B' x→wpList P l.toArray Q (l.drop n) a' x) (l.take n) 0 a B):(Code.region id l.toArray true).wp P Q a w:=by
 simp only [gameTB,Bool.and_eq_true,decide_eq_true_eq] at hb
 obtain ⟨⟨⟨⟨hsel,hn⟩,hs⟩,hc⟩,hlex⟩:=hb
 have htl:(l.take n).length=n:=by simp at hn;simp;omega
 have hdl:(l.drop n).length=l.toArray.size-n:=by simp
 have inv0:HeadInv .any l.toArray n (Array.replicate l.toArray.size false) :=
  ⟨by simp,fun j oj _ hl=>(by rw [getD_replicate_false] at hl;cases hl),fun t _ ht=>getD_in (by simpa using ht) (getD_replicate_false _ _)⟩
 have H:=HeadG.lex (md:=.any) (g:=l.toArray.size-n) hsel hs hc hn (l.take n) 0 _ a B (fun j hj=>by rw [htl] at hj;simp [hj]) (by simpa using htl) inv0 hf (by rw [htl];exact hlex) h
 refine wp_region_any hm ?_
 have:=HeadG.any (Q':=Q) (g:=l.toArray.size-n) (fun s a' B' x hx hB' hL=>by
  have:=wpAny_of_seq (md:=.any) (Q':=Q) (l.drop n) n s a' x (fun j=>by simp [List.getElem?_drop]) (by rw [hdl];exact hL.1) (hL.2 x hx hB')
  rwa [hdl] at this) _ _ _ _ _ (Behind.drew w Wr) hB H
 rw [htl,show n+(l.toArray.size-n)=l.toArray.size by omega] at this
 exact this
theorem Kw {kd:Nat→Nat} {Q:Act→Blocks→Prop} {B:Blocks} {rest:List Oper} {k d:Nat} {op:Op} {ty:TypeId} {pos:String} {after:Array Edge} {a:Act} (n:Nat) (ob:Obj) (hk:kd k=3)
  (hrun:∀ x,(execOp a.eval ⟨some d,op,ty,pos,after,none⟩).run P x = .ok (.value (.slice (some ⟨x.heap.size,0,none⟩) n n)) (x.alloc ob))
  (h:∀ g,w.heap.size≤g→B g=none→Qk P ops d ty pos (.slice (some ⟨g,0,none⟩) n n) (fun a'=>Jh P ops w Wr kd Q rest (k+1) a' (B.put g ob)) a) :
  Jh P ops w Wr kd Q (⟨some d,op,ty,pos,after,none⟩::rest) k a B:=by
 have g:GStep P ops w Wr ⟨some d,op,ty,pos,after,none⟩ a (kd k) B (fun v' B'=>∃ g,w.heap.size≤g∧B g=none∧v'=Q0y (some n) g∧B'=B.put g ob):=by rw [hk];exact .alloc B (some n) ob rfl fun x _=>hrun x
 refine ⟨_,g,fun v' B' hO=>?_⟩
 obtain ⟨g,h1,h2,rfl,rfl⟩:=hO
 exact Kp (h g h1 h2)
structure RowB (B:Blocks) (E:TypeId) (size g n cap:Nat) (xs:List Value) (cur:Array Value):Prop where
 blk:B g=some (.cells cur E (0,0))
 le:n≤cap
 mx:cap≤maxLen
 sz:cur.size=cap*size
 tk:cur.toList.take (n*size)=xs
 len:xs.length=n*size
theorem Q8e {kd:Nat→Nat} {Q:Act→Blocks→Prop} {B:Blocks} {rest:List Oper} {k d:Nat} {ty:TypeId} {pos:String} {after:Array Edge} {a:Act} (s y:Operand) (t E:TypeId) (i:TypeInfo) (z:Value) (size bytes:Nat)
  (ht:P.underlying t=some (.slice E)) (hi:P.info? E=some i) (hz:i.zero=some z) (hsize:i.size=size) (hby:i.bytes=bytes) (hzs:z.cells.size=size)
  (g n cap:Nat) (xs:List Value) (cur:Array Value) (hrow:RowB B E size g n cap xs cur) (hs:a.eval s = .slice (some ⟨g,0,none⟩) n cap)
  (g2 m c2:Nat) (news:List Value) (E2:TypeId) (hy:a.eval y = .slice (some ⟨g2,0,none⟩) m c2) (hn2:B g2=some (.cells news.toArray E2 (0,0))) (hl:news.length=m*size) (h1:∀ u∈news,u.oneCell'=true)
  (h63:n+m≤maxLen) (hbytes:(n+m)*bytes≤140737488355328) (hW:g∈Wr∨w.heap.size≤g)
  (hk:kd k=if n+m≤cap then 2 else 5)
  (h:∀ (g' cap':Nat) (cur':Array Value),RowB (B.put g' (.cells cur' E (0,0))) E size g' (n+m) cap' (xs++news) cur'→(g'=g∨(w.heap.size≤g'∧B g'=none)) →
   Qk P ops d ty pos (.slice (some ⟨g',0,none⟩) (n+m) cap') (fun a'=>Jh P ops w Wr kd Q rest (k+1) a' (B.put g' (.cells cur' E (0,0)))) a) :
  Jh P ops w Wr kd Q (⟨some d,.call { callee:=.builtin .append,args:=#[s,y],argTypes:=#[t,t] },ty,pos,after,none⟩::rest) k a B:=by
 subst hsize hby
 have hnews:∀ x,Has B x→∀ j u,news[j]?=some u→x.cell? ((⟨g2,0,none⟩:Addr).add j)=some u:=fun x hx j u hj=>by
  rw [Addr.add_lit,Nat.zero_add]
  exact Q5 (hx g2 _ hn2) j (v:=u) (by simpa using hj)
 have holds:∀ x,Has B x→∀ j u,xs[j]?=some u→x.cell? ((⟨g,0,none⟩:Addr).add j)=some u:=fun x hx j u hj=>by
  have hj':cur[j]?=some u:=by
   rw [←hrow.tk,List.getElem?_take] at hj
   split at hj
   ·simpa using hj
   ·cases hj
  rw [Addr.add_lit,Nat.zero_add]
  exact Q5 (hx g _ hrow.blk) j hj'
 have hexec:∀ x r x',(Builtin.append_ #[t,t] ty #[.slice (some ⟨g,0,none⟩) n cap,.slice (some ⟨g2,0,none⟩) m c2]).run P x = .ok r x' →
   (execOp a.eval ⟨some d,.call { callee:=.builtin .append,args:=#[s,y],argTypes:=#[t,t] },ty,pos,after,none⟩).run P x = .ok (.value r) x':=fun x r x' hr=>by
  unfold execOp
  simp only [resolve,invoke,builtin,Sem.run_bind,Sem.run_pure,Result.andThen_ok,List.map_toArray,List.map_cons,List.map_nil,hs,hy,hr]
 have hlen:(xs++news).length=(n+m)*i.size:=by rw [List.length_append,hrow.len,hl,Nat.add_mul]
 by_cases hroom:n+m≤cap
 ·rw [if_pos hroom] at hk
  have hfit:n*i.size+news.length≤cur.size:=by rw [hl,hrow.sz,←Nat.add_mul];exact Nat.mul_le_mul_right _ hroom
  have gs:GStep P ops w Wr ⟨some d,.call { callee:=.builtin .append,args:=#[s,y],argTypes:=#[t,t] },ty,pos,after,none⟩ a (kd k) B
    (fun v' B'=>v' = .slice (some ⟨g,0,none⟩) (n+m) cap∧B'=B.put g (.cells (cur.toList.take (n*i.size)++news++cur.toList.drop (n*i.size+news.length)).toArray E (0,0))):=by
   rw [hk]
   refine .write B g _ _ rfl (by rw [hrow.blk];rfl) hW fun x hx hB=>?_
   have hr:=run_append_room (P:=P) x t ty E i ht hi g n cap cur (hB g _ hrow.blk) ⟨g2,0,none⟩ m c2 news hl (hnews x hB) h1 hroom hfit
   rw [hexec x _ _ hr]
   exact ⟨rfl,rfl,rfl,rfl,by simp,setRow_heap x g cur _ E _ (hB g _ hrow.blk),fun k' _ hk'=>setRow_other x g k' _ hk'⟩
  refine ⟨_,gs,fun v' B' hO=>?_⟩
  obtain ⟨rfl,rfl⟩:=hO
  refine Kp (h g cap _ ⟨Blocks.put_same _ _ _,hroom,hrow.mx,?_,?_,hlen⟩ (.inl rfl))
  ·simp only [List.size_toArray,List.length_append,List.length_take,List.length_drop,Array.length_toList]
   have:=hrow.sz
   omega
  ·rw [hrow.tk,←hlen]
   exact List.take_left
 ·rw [if_neg hroom] at hk
  have gs:GStep P ops w Wr ⟨some d,.call { callee:=.builtin .append,args:=#[s,y],argTypes:=#[t,t] },ty,pos,after,none⟩ a (kd k) B
    (fun v' B'=>∃ g' c,w.heap.size≤g'∧B g'=none∧(n+m≤c∧c≤maxLen)∧v' = .slice (some ⟨g',0,none⟩) (n+m) c∧B'=B.put g' (.cells (xs.toArray++news.toArray++Builtin.zeroCells z.cells (c-(n+m))) E (0,0))):=by
   rw [hk]
   refine .grow B (fun g' c=>.slice (some ⟨g',0,none⟩) (n+m) c) (fun c=>.cells (xs.toArray++news.toArray++Builtin.zeroCells z.cells (c-(n+m))) E (0,0)) _ ⟨n+m,Nat.le_refl _,h63⟩ rfl fun x hx hB=>?_
   have hr:=run_append_grow (P:=P) x t ty E i z ht hi hz ⟨g,0,none⟩ n cap xs hrow.len (holds x hB) ⟨g2,0,none⟩ m c2 news hl (hnews x hB) (by omega) (by simp only [maxLen] at h63;omega) (growslice_fits (by omega) hbytes)
   rw [hexec x _ _ hr]
   exact ⟨x.heap.size,_,Nat.le_refl _,⟨grownCap_ge x (n+m) cap E,grownCap_le_maxLen x (n+m) cap E h63⟩,rfl,(Below.refl _ x).drew.alloc (by simp) _,heap_alloc_new x.drew _⟩
  refine ⟨_,gs,fun v' B' hO=>?_⟩
  obtain ⟨g',c,e1,e2,⟨e3,e4⟩,rfl,rfl⟩:=hO
  refine Kp (h g' c _ ⟨Blocks.put_same _ _ _,e3,e4,?_,?_,hlen⟩ (.inr ⟨e1,e2⟩))
  ·simp only [Array.size_append,List.size_toArray,size_zeroCells,hzs,hrow.len,hl,←Nat.add_mul]
   congr 1
   omega
  ·simp only [Array.toList_append,List.append_assoc]
   rw [←List.append_assoc,←hlen]
   exact List.take_left
theorem Q2g {kd:Nat→Nat} {Q:Act→Blocks→Prop} {B:Blocks} {rest:List Oper} {k d:Nat} {ty:TypeId} {pos:String} {after:Array Edge} {a:Act} (s y:Operand) (t E:TypeId) (i:TypeInfo) (z:Value) (size bytes:Nat)
  (ht:P.underlying t=some (.slice E)) (hi:P.info? E=some i) (hz:i.zero=some z) (hsize:i.size=size) (hby:i.bytes=bytes) (hzs:z.cells.size=size)
  (hs:a.eval s = .slice none 0 0)
  (g2 m c2:Nat) (news:List Value) (E2:TypeId) (hy:a.eval y = .slice (some ⟨g2,0,none⟩) m c2) (hn2:B g2=some (.cells news.toArray E2 (0,0))) (hl:news.length=m*size) (h0:0<m)
  (h63:m≤maxLen) (hbytes:m*bytes≤140737488355328) (hk:kd k=5)
  (h:∀ (g' cap':Nat) (cur':Array Value),RowB (B.put g' (.cells cur' E (0,0))) E size g' m cap' news cur'→w.heap.size≤g'→B g'=none →
   Qk P ops d ty pos (.slice (some ⟨g',0,none⟩) m cap') (fun a'=>Jh P ops w Wr kd Q rest (k+1) a' (B.put g' (.cells cur' E (0,0)))) a) :
  Jh P ops w Wr kd Q (⟨some d,.call { callee:=.builtin .append,args:=#[s,y],argTypes:=#[t,t] },ty,pos,after,none⟩::rest) k a B:=by
 subst hsize hby
 have hnews:∀ x,Has B x→∀ j u,news[j]?=some u→x.cell? ((⟨g2,0,none⟩:Addr).add j)=some u:=fun x hx j u hj=>by
  rw [Addr.add_lit,Nat.zero_add]
  exact Q5 (hx g2 _ hn2) j (v:=u) (by simpa using hj)
 have hexec:∀ x r x',(Builtin.append_ #[t,t] ty #[.slice none 0 0,.slice (some ⟨g2,0,none⟩) m c2]).run P x = .ok r x' →
   (execOp a.eval ⟨some d,.call { callee:=.builtin .append,args:=#[s,y],argTypes:=#[t,t] },ty,pos,after,none⟩).run P x = .ok (.value r) x':=fun x r x' hr=>by
  unfold execOp
  simp only [resolve,invoke,builtin,Sem.run_bind,Sem.run_pure,Result.andThen_ok,List.map_toArray,List.map_cons,List.map_nil,hs,hy,hr]
 have gs:GStep P ops w Wr ⟨some d,.call { callee:=.builtin .append,args:=#[s,y],argTypes:=#[t,t] },ty,pos,after,none⟩ a (kd k) B
   (fun v' B'=>∃ g' c,w.heap.size≤g'∧B g'=none∧(m≤c∧c≤maxLen)∧v' = .slice (some ⟨g',0,none⟩) m c∧B'=B.put g' (.cells (news.toArray++Builtin.zeroCells z.cells (c-m)) E (0,0))):=by
  rw [hk]
  refine .grow B (fun g' c=>.slice (some ⟨g',0,none⟩) m c) (fun c=>.cells (news.toArray++Builtin.zeroCells z.cells (c-m)) E (0,0)) _ ⟨m,Nat.le_refl _,h63⟩ rfl fun x hx hB=>?_
  have hr:=run_append_nil (P:=P) x t ty E i z ht hi hz ⟨g2,0,none⟩ m c2 news hl (hnews x hB) h0 (by simp only [maxLen] at h63;omega) (by omega)
  rw [hexec x _ _ hr]
  exact ⟨x.heap.size,_,Nat.le_refl _,⟨grownCap_ge x m 0 E,grownCap_le_maxLen x m 0 E h63⟩,rfl,(Below.refl _ x).drew.alloc (by simp) _,heap_alloc_new x.drew _⟩
 refine ⟨_,gs,fun v' B' hO=>?_⟩
 obtain ⟨g',c,e1,e2,⟨e3,e4⟩,rfl,rfl⟩:=hO
 refine Kp (h g' c _ ⟨Blocks.put_same _ _ _,e3,e4,?_,?_,hl⟩ e1 e2)
 ·simp only [Array.size_append,List.size_toArray,size_zeroCells,hzs,hl,←Nat.add_mul]
  congr 1
  omega
 ·simp only [Array.toList_append]
  rw [←hl]
  exact List.take_left
inductive RowV (B:Blocks) (E:TypeId) (size:Nat):Value→Nat→List Value→Prop
 | nil:RowV B E size (.slice none 0 0) 0 []
 | row {g n cap:Nat} {xs:List Value} {cur:Array Value} (h:RowB B E size g n cap xs cur):RowV B E size (.slice (some ⟨g,0,none⟩) n cap) n xs
def Q7:Value→List Nat
 | .slice (some a) _ _=>[a.block]
 | _=>[]
end
end
/- The game: a store of what is there already. -/
section
open Go.RowKit
section
variable {P:Program} {ops:Array Oper} {w:World} {Wr:List Nat}
end
end
/- A region that draws its order and ends in a call that panics. -/
section
open Go.RowKit
section
variable {P:Program} {ops:Array Oper} {md:Region.Mode} {w:World}
def Dies (P:Program) (ops:Array Oper) (w:World) (i:Nat) (Q':Exit→Act→World→Prop) (a:Act):Prop :=
 ∃ o,ops[i]?=some o∧Region.wanted o (yielded ops a.tmps)=true∧∀ x,Behind w [] x→∃ f vs,(execOp a.eval o).run P x = .ok (.enter f vs) x∧Calls P f vs x fun e w'=>∃ ps,e = .panicked ps∧∀ a',a'.defers=a.defers→Q' (.panic ps) a' w'
theorem Dies.unput {i:Nat} {o:Oper} (ho:ops[i]?=some o) (hs:∀ cs b,o.op≠.select cs b) {a:Act} {d:Option Tmp} {u:Value} (hd:∀ e,d=some e→e∉o.looksAt ops) {Q':Exit→Act→World→Prop} (h:Dies P ops w i Q' (a.put d u)):Dies P ops w i Q' a:=by
 obtain ⟨o',h1,h2,h3⟩:=h
 rw [ho] at h1
 cases h1
 refine ⟨o,ho,by rw [←wanted_put (ops:=ops) o a d u hd];exact h2,fun x hx=>?_⟩
 rw [←execOp_put (ops:=ops) o hs a d u hd]
 have e:(a.put d u).defers=a.defers:=by cases d<;>rfl
 rw [e] at h3
 exact h3 x hx
end
end
/- The game with calls that write blocks of a list and hand back whatever. -/
section
open Go.RowKit
def Blocks.over (B Bn:Blocks):Blocks:=fun k=>(Bn k).or (B k)
theorem Blocks.over_some {B Bn:Blocks} {k:Nat} {o:Obj} (h:Bn k=some o):B.over Bn k=some o:=by unfold Blocks.over;rw [h];rfl
theorem Blocks.over_none {B Bn:Blocks} {k:Nat} (h:Bn k=none):B.over Bn k=B k:=by unfold Blocks.over;rw [h];rfl
theorem Fin.over {B Bn:Blocks} (h:Fin B) (hn:Fin Bn):Fin (B.over Bn):=by
 obtain ⟨N,hN⟩:=h
 obtain ⟨M,hM⟩:=hn
 exact ⟨max N M,fun b hb=>by rw [Blocks.over_none (hM b (by omega))];exact hN b (by omega)⟩
def Q3a (P:Program) (R:Value→Blocks→Prop) (Wr:List Nat) (x:World):Result Next→Prop
 | .ok (.enter f args) x'=>x'=x∧Calls P f args x fun e w'=>∃ v Bn,e = .returned v∧R v Bn∧Fin Bn∧Has Bn w'∧Behind x Wr w'∧(∀ g o,Bn g=some o→g∈Wr∨x.heap.size≤g)∧(∀ g∈Wr,Bn g≠none)
 | _=>False
section
variable {P:Program} {ops:Array Oper} {md:Region.Mode} {w:World} {Wr:List Nat}
inductive MStep (P:Program) (ops:Array Oper) (w:World) (Wr:List Nat) (o:Oper) (a:Act):Nat→Blocks→(Value→Blocks→Prop)→Prop
 | old (k:Nat) (B:Blocks) (O:Value→Blocks→Prop):k≠6→GStep P ops w Wr o a k B O→MStep P ops w Wr o a k B O
 | many (B:Blocks) (R:Value→Blocks→Prop):Region.wanted o (yielded ops a.tmps)=true→(∀ g∈Wr,g<w.heap.size) →
   (∀ x,Behind w Wr x→Has B x→Q3a P R Wr x ((execOp a.eval o).run P x))→(∀ N,∃ v Bn,R v Bn∧Fin Bn∧∀ g o,Bn g=some o→g∈Wr∨N≤g) →
   MStep P ops w Wr o a 6 B fun v B'=>∃ Bn,R v Bn∧Fin Bn∧(∀ g o,Bn g=some o→g∈Wr∨(w.heap.size≤g∧B g=none))∧B'=B.over Bn
theorem MStep.sound {o:Oper} {a:Act} {k:Nat} {B:Blocks} {O:Value→Blocks→Prop} (hg:MStep P ops w Wr o a k B O) {K':Act→World→Prop} {Q':Exit→Act→World→Prop} {x:World} (hx:Behind w Wr x) (hB:Has B x)
  (h:∀ v B' x',Behind w Wr x'→Has B' x'→O v B'→K' (a.put o.dst v) x'):if Region.wanted o (yielded ops a.tmps) then o.wp P a x K' Q'∨(o.asks P a x∧LetsOut Q') else K' (a.put o.dst undef) x:=by
 cases hg with
 | old _ _ _ _ hg=>exact hg.sound hx hB h
 | many _ R hw hWr hq _ =>
  rw [if_pos hw]
  refine .inl ?_
  have:=hq _ hx hB
  unfold Oper.wp
  generalize (execOp a.eval o).run P x=r at *
  cases r with
  | ok n w2 =>
   cases n<;>simp only [Q3a] at this
   simp only [Oper.upon]
   rw [this.1]
   refine this.2.mono fun e w3 ⟨v,Bn,h1,h2,h3,h4,h5,h6,h7⟩=>?_
   subst h1
   refine h v (B.over Bn) w3 ⟨h5.os.trans hx.os,h5.tape.trans hx.tape,h5.output.trans hx.output,Nat.le_trans hx.size h5.size,fun k hk hn=>(h5.block k (Nat.lt_of_lt_of_le hk hx.size) hn).trans (hx.block k hk hn)⟩ (fun k o hk=>?_) ⟨Bn,h2,h3,fun g o hg=>?_,rfl⟩
   ·cases hb:Bn k with
    | some o' =>
     rw [Blocks.over_some hb] at hk
     cases hk
     exact h4 k _ hb
    | none =>
     rw [Blocks.over_none hb] at hk
     have h9:=hB k o hk
     rw [h5.block k (Q9 h9) (fun hm=>h7 k hm hb)]
     exact h9
   ·refine (h6 g o hg).imp id fun h8=>⟨Nat.le_trans hx.size h8,hB.none h8⟩
  | halt y w2=>simp only [Q3a] at this
theorem MStep.put {o:Oper} (hs:∀ cs b,o.op≠.select cs b) {a:Act} {d:Option Tmp} {u:Value} (hd:∀ e,d=some e→e∉o.looksAt ops) {k:Nat} {B:Blocks} {O:Value→Blocks→Prop}
  (h:MStep P ops w Wr o a k B O):MStep P ops w Wr o (a.put d u) k B O:=by
 have hw:=wanted_put (ops:=ops) o a d u hd
 have he:=execOp_put (ops:=ops) o hs a d u hd
 cases h with
 | old _ _ _ hk h=>exact .old _ _ _ hk (h.put hs hd)
 | many _ R h1 h2 h3 h4=>exact .many _ R (hw.trans h1) h2 (fun x hx hB=>by rw [he];exact h3 x hx hB) h4
theorem MStep.unput {o:Oper} (hs:∀ cs b,o.op≠.select cs b) {a:Act} {d:Option Tmp} {u:Value} (hd:∀ e,d=some e→e∉o.looksAt ops) {k:Nat} {B:Blocks} {O:Value→Blocks→Prop}
  (h:MStep P ops w Wr o (a.put d u) k B O):MStep P ops w Wr o a k B O:=by
 have hw:=wanted_put (ops:=ops) o a d u hd
 have he:=execOp_put (ops:=ops) o hs a d u hd
 cases h with
 | old _ _ _ hk h=>exact .old _ _ _ hk (h.unput hs hd)
 | many _ R h1 h2 h3 h4=>exact .many _ R (hw.symm.trans h1) h2 (fun x hx hB=>by rw [←he];exact h3 x hx hB) h4
theorem MStep.fin {o:Oper} {a:Act} {k:Nat} {B:Blocks} {O:Value→Blocks→Prop} (h:MStep P ops w Wr o a k B O) (hf:Fin B) (v:Value) (B':Blocks) (hO:O v B'):Fin B':=by
 cases h with
 | old _ _ _ _ h=>exact h.fin hf v B' hO
 | many=>obtain ⟨Bn,_,hn,_,rfl⟩:=hO;exact hf.over hn
theorem many_some {B:Blocks} {R:Value→Blocks→Prop} (hf:Fin B) (hne:∀ N,∃ v Bn,R v Bn∧Fin Bn∧∀ g o,Bn g=some o→g∈Wr∨N≤g) (m:Nat):∃ v Bn,R v Bn∧Fin Bn∧∀ g o,Bn g=some o→g∈Wr∨(m≤g∧B g=none):=by
 obtain ⟨N,hN⟩:=hf
 obtain ⟨v,Bn,h1,h2,h3⟩:=hne (max N m)
 exact ⟨v,Bn,h1,h2,fun g o hg=>(h3 g o hg).imp id fun h=>⟨by omega,hN _ (by omega)⟩⟩
theorem MStep.inhab {o:Oper} {a:Act} {k:Nat} {B:Blocks} {O:Value→Blocks→Prop} (h:MStep P ops w Wr o a k B O) (hf:Fin B):∃ v B',O v B':=by
 cases h with
 | old _ _ _ _ h=>exact h.inhab hf
 | many _ R _ _ _ hne =>
  obtain ⟨v,Bn,h1,h2,h3⟩:=many_some hf hne w.heap.size
  exact ⟨v,_,Bn,h1,h2,h3,rfl⟩
theorem MStep.isOld {o:Oper} {a:Act} {k:Nat} {B:Blocks} {O:Value→Blocks→Prop} (h:MStep P ops w Wr o a k B O) (hk:k≠6):GStep P ops w Wr o a k B O:=by
 cases h with
 | old _ _ _ _ h=>exact h
 | many=>exact absurd rfl hk
def Ug (ki kj:Nat) (oj:Oper):Bool :=
 if ki == 6 then kj == 3||(kj == 0&&Hi oj) else if kj == 6 then ki == 0 else Xz ki kj oj
structure FreeM (md:Region.Mode) (ops:Array Oper) (kd:Nat→Nat) (i:Nat) (oi:Oper) (D:Nat→Bool) (s:Array Bool):Prop where
 dep:∀ j oj,ops[j]?=some oj→D j=true→∃ e∈oj.after,Region.binds md e=true∧(e.on=i∨D e.on=true)
 un:∀ j,D j=true→s.getD j true=false
 ok:∀ j oj,ops[j]?=some oj→j≠i→s.getD j true=false→D j=false→oi.apart ops oj=true∧Ug (kd i) (kd j) oj=true
theorem FreeM.not {kd:Nat→Nat} {i j:Nat} {oi oj:Oper} {D:Nat→Bool} {s:Array Bool} (h:FreeM md ops kd i oi D s) (hun:s.getD i true=false) (hj:ops[j]?=some oj)
  (hall:∀ e∈oj.after,Region.binds md e=true→s.getD e.on true=true):D j=false:=by
 rw [Bool.eq_false_iff]
 intro hd
 obtain ⟨e,he,hb,h1 | h1⟩:=h.dep j oj hj hd
 ·have:=hall e he hb
  rw [h1,hun] at this;cases this
 ·have:=hall e he hb
  rw [h.un _ h1] at this;cases this
theorem FreeM.set {kd:Nat→Nat} {i j:Nat} {oi:Oper} {D:Nat→Bool} {s:Array Bool} (h:FreeM md ops kd i oi D s) (hjun:s.getD j true=false) (hd:D j=false):FreeM md ops kd i oi D (s.setIfInBounds j true) where
 dep:=h.dep
 un:=fun k hk=>by
  have:j≠k:=fun e=>by subst e;rw [hd] at hk;cases hk
  rw [getD_set_ne true this];exact h.un k hk
 ok:=fun k ok hk hki hu hno=>h.ok k ok hk hki (by
  by_cases hjk:j=k
  ·subst hjk;exact hjun
  ·rwa [getD_set_ne true hjk] at hu) hno
def freeM (md:Region.Mode) (ops:Array Oper) (kd:Nat→Nat) (s:Array Bool) (i:Nat):Bool :=
 match ops[i]? with
 | none=>false
 | some oi=>(List.range ops.size).all fun j=>match ops[j]? with
   | none=>true
   | some oj=>if (Un md ops i).getD j false then s.getD j true == false&&oj.after.any (fun e=>Region.binds md e&&(e.on == i||(decide (e.on<ops.size)&&(Un md ops i).getD e.on false)))
    else j == i||s.getD j true||(oi.apart ops oj&&Ug (kd i) (kd j) oj)
theorem Q9g {kd:Nat→Nat} {i:Nat} {oi:Oper} {s:Array Bool} (hi:ops[i]?=some oi) (h:freeM md ops kd s i=true):FreeM md ops kd i oi (fun j=>decide (j<ops.size)&&(Un md ops i).getD j false) s:=by
 simp only [freeM,hi,List.all_eq_true,List.mem_range] at h
 refine ⟨fun j oj hj hd=>?_,fun j hd=>?_,fun j oj hj hne hun hd=>?_⟩
 ·have hlt:=(Array.getElem?_eq_some_iff.1 hj).1
  have h1:=h j hlt
  simp only [hlt,decide_true,Bool.true_and] at hd
  simp only [hj,hd,if_true,Bool.and_eq_true] at h1
  obtain ⟨e,he,hb⟩:=Array.any_eq_true'.1 h1.2
  simp only [Bool.and_eq_true,Bool.or_eq_true,beq_iff_eq] at hb
  exact ⟨e,he,hb.1,hb.2.imp id fun h=>by simpa using h⟩
 ·simp only [Bool.and_eq_true,decide_eq_true_eq] at hd
  have h1:=h j hd.1
  simp only [Array.getElem?_eq_getElem hd.1,hd.2,if_true,Bool.and_eq_true,beq_iff_eq] at h1
  exact h1.1
 ·have hlt:=(Array.getElem?_eq_some_iff.1 hj).1
  have h1:=h j hlt
  simp only [hlt,decide_true,Bool.true_and] at hd
  simp only [hj,hd,Bool.false_eq_true,if_false] at h1
  simpa [hne,hun] using h1
end
end
/- Calls that write in a drawn region: what they leave is all that is new. -/
section
open Go.RowKit
def Od (Wr:List Nat) (x w':World):Blocks:=fun g=>if g∈Wr∨x.heap.size≤g then w'.heap[g]? else none
def Zo (Wr:List Nat) (w:World):Blocks:=fun g=>if g∈Wr then w.heap[g]? else none
section
variable {P:Program} {ops:Array Oper} {w:World} {Wr:List Nat} {B:Blocks}
theorem At (x w':World):Fin (Od Wr x w'):=⟨w'.heap.size,fun b hb=>by
 unfold Od
 split
 ·exact Array.getElem?_eq_none hb
 ·rfl⟩
theorem Q8c (x w':World):Has (Od Wr x w') w':=fun b o h=>by
 unfold Od at h
 split at h
 ·exact h
 ·cases h
theorem Yv {x w':World} {g:Nat} (h:g∈Wr∨x.heap.size≤g):Od Wr x w' g=w'.heap[g]?:=if_pos h
theorem Ki (w:World):Fin (Zo Wr w):=⟨w.heap.size,fun b hb=>by
 unfold Zo
 split
 ·exact Array.getElem?_eq_none hb
 ·rfl⟩
theorem Hx (w:World):Has (Zo Wr w) w:=fun b o h=>by
 unfold Zo at h
 split at h
 ·exact h
 ·cases h
theorem Hq {g:Nat} (h:g∈Wr):Zo Wr w g=w.heap[g]?:=if_pos h
theorem V5 {g:Nat} {o:Obj} (h:Zo Wr w g=some o):g∈Wr∨w.heap.size≤g:=by
 unfold Zo at h
 split at h
 ·rename_i hg;exact .inl hg
 ·cases h
def As (w:World) (B:Blocks) (M:Nat):World:={ w with heap:=Array.ofFn (n:=M) fun k=>(B k.val).getD ((w.heap[k.val]?).getD (.map #[] 0)) }
theorem Q15 {M k:Nat} (hk:k<M):(As w B M).heap[k]?=some ((B k).getD ((w.heap[k]?).getD (.map #[] 0))):=by
 unfold As
 simp [hk]
theorem Ax {M:Nat}:(As w B M).heap.size=M:=by simp [As]
theorem Vf (hf:Fin B) (hBn:∀ g o,B g=some o→g∈Wr∨w.heap.size≤g) (N:Nat):∃ x,Behind w Wr x∧Has B x∧N≤x.heap.size:=by
 obtain ⟨F,hF⟩:=hf
 refine ⟨As w B (max N (max F w.heap.size)),⟨rfl,rfl,rfl,by rw [Ax];omega,fun k hk hn=>?_⟩,fun b o hb=>?_,by rw [Ax];omega⟩
 ·rw [Q15 (by omega)]
  have:B k=none:=by
   cases h:B k with
   | none=>rfl
   | some o =>
    rcases hBn k o h with h' | h'
    ·exact absurd h' hn
    ·omega
  rw [this,Array.getElem?_eq_getElem hk];rfl
 ·have:b<F:=by
   rcases Nat.lt_or_ge b F with h | h
   ·exact h
   ·rw [hF b h] at hb;cases hb
  rw [Q15 (by omega),hb];rfl
end
end
/- Calls that write in a drawn region,under a guard;files in memory. -/
section
open Go.RowKit
section
variable {P:Program} {ops:Array Oper} {w:World} {Wr:List Nat} {B:Blocks}
end
end
/- A drawn region with two calls that may come up in either order: two walks. -/
section
open Go.RowKit
section
variable {P:Program} {ops:Array Oper} {w:World} {Wr:List Nat} {B:Blocks} {md:Region.Mode}
def ordM (md:Region.Mode) (ops:Array Oper) (kd:Nat→Nat):List Nat→Array Bool→Bool
 | [],_=>true
 | k::r,s=>(Region.ready md ops s).contains k&&freeM md ops kd s k&&ordM md ops kd r (s.setIfInBounds k true)
def setsM:List Nat→Array Bool→Array Bool
 | [],s=>s
 | k::r,s=>setsM r (s.setIfInBounds k true)
def Vv (l:List Oper) (ord:List Nat):List Oper:=ord.filterMap (l[·]?)
def kdOf (kinds:List Nat) (ord:List Nat) (p:Nat):Nat:=kinds.getD (ord.getD p 0) 0
def Q5m (n:Nat) (ord:List Nat):Bool:=ord.all fun i=>decide (i<n)
theorem Q7f {l:List Oper}:∀ {ord:List Nat},Q5m l.length ord=true→(Vv l ord).length=ord.length∧∀ (p i:Nat),ord[p]?=some i→(Vv l ord)[p]?=l.toArray[i]?
 | [],_=>⟨rfl,fun p i h=>by simp at h⟩
 | i::ord,h=>by
  simp only [Q5m,List.all_cons,Bool.and_eq_true,decide_eq_true_eq] at h
  obtain ⟨h1,h2⟩:=Q7f (l:=l) (ord:=ord) h.2
  have e:Vv l (i::ord)=l[i]::Vv l ord:=by
   unfold Vv
   rw [List.filterMap_cons,List.getElem?_eq_getElem h.1]
  rw [e]
  refine ⟨by simp [h1],fun p j hp=>?_⟩
  cases p with
  | zero =>
   simp at hp
   subst hp
   simp [h.1]
  | succ p=>simpa using h2 p j (by simpa using hp)
theorem kdOf_at {kinds:List Nat} {ord:List Nat} (p i:Nat) (h:ord[p]?=some i):kdOf kinds ord (0+p)=kinds.getD i 0:=by
 unfold kdOf
 rw [Nat.zero_add,List.getD_eq_getElem?_getD (l:=ord),h];rfl
end
end
end Go.Proofs.YtcpehljpegfckaaGreatDoor
