/- Texts of this claim,joined: Q29. -/
import Derived.Test.YtcpehljpegfckaaGreatDoorMT05
/- The game with calls that write blocks of a list and blocks that the region has made;any order. -/
namespace Go.Proofs.YtcpehljpegfckaaGreatDoor
open Go.RowKit
def Ht (P:Program) (R:Value→Blocks→Prop) (Wr W2:List Nat) (x:World):Result Next→Prop
 | .ok (.enter f args) x'=>x'=x∧Calls P f args x fun e w'=>∃ v Bn,e = .returned v∧R v Bn∧Fin Bn∧Has Bn w'∧Behind x (Wr++W2) w'∧(∀ g o,Bn g=some o→g∈Wr++W2∨x.heap.size≤g)∧(∀ g∈Wr++W2,Bn g≠none)
 | .ok (.value v) x'=>∃ Bn,R v Bn∧Fin Bn∧Has Bn x'∧Behind x (Wr++W2) x'∧(∀ g o,Bn g=some o→g∈Wr++W2∨x.heap.size≤g)∧(∀ g∈Wr++W2,Bn g≠none)
 | _=>False
section
variable {P:Program} {ops:Array Oper} {md:Region.Mode} {w:World} {Wr:List Nat}
inductive MStepW (P:Program) (ops:Array Oper) (w:World) (Wr:List Nat) (o:Oper) (a:Act):Nat→Blocks→(Value→Blocks→Prop)→Prop
 | old (k:Nat) (B:Blocks) (O:Value→Blocks→Prop):k≠6→GStep P ops w Wr o a k B O→MStepW P ops w Wr o a k B O
 | many (B:Blocks) (R:Value→Blocks→Prop) (W2:List Nat):Region.wanted o (yielded ops a.tmps)=true→(∀ g∈Wr,g<w.heap.size)→(∀ g∈W2,w.heap.size≤g∧B g≠none) →
   (∀ x,Behind w Wr x→Has B x→Ht P R Wr W2 x ((execOp a.eval o).run P x))→(∀ N,∃ v Bn,R v Bn∧Fin Bn∧∀ g o,Bn g=some o→g∈Wr++W2∨N≤g) →
   MStepW P ops w Wr o a 6 B fun v B'=>∃ Bn,R v Bn∧Fin Bn∧(∀ g o,Bn g=some o→g∈Wr++W2∨(w.heap.size≤g∧B g=none))∧B'=B.over Bn
def Ao (P:Program) (ops:Array Oper) (w:World) (Wr:List Nat) (kd:Nat→Nat) (i:Nat) (K:Act→Blocks→Prop) (a:Act) (B:Blocks):Prop :=
 match ops[i]? with
 | none=>K a B
 | some o=>∃ O,MStepW P ops w Wr o a (kd i) B O∧∀ v B',O v B'→K (a.put o.dst v) B'
def Q29 (P:Program) (md:Region.Mode) (ops:Array Oper) (w:World) (Wr:List Nat) (kd:Nat→Nat) (Q:Act→Blocks→Prop):Nat→Array Bool→Act→Blocks→Prop
 | 0,s,a,B=>Region.ready md ops s=[]∧Q a B
 | f+1,s,a,B=>(Region.ready md ops s=[]→Q a B)∧∀ i∈Region.ready md ops s,Ao P ops w Wr kd i (Q29 P md ops w Wr kd Q f (s.setIfInBounds i true)) a B
theorem MStepW.sound {o:Oper} {a:Act} {k:Nat} {B:Blocks} {O:Value→Blocks→Prop} (hg:MStepW P ops w Wr o a k B O) {K':Act→World→Prop} {Q':Exit→Act→World→Prop} {x:World} (hx:Behind w Wr x) (hB:Has B x)
  (h:∀ v B' x',Behind w Wr x'→Has B' x'→O v B'→K' (a.put o.dst v) x'):if Region.wanted o (yielded ops a.tmps) then o.wp P a x K' Q'∨(o.asks P a x∧LetsOut Q') else K' (a.put o.dst undef) x:=by
 cases hg with
 | old _ _ _ _ hg=>exact hg.sound hx hB h
 | many _ R W2 hw hWr hW2 hq _ =>
  rw [if_pos hw]
  refine .inl ?_
  have:=hq _ hx hB
  unfold Oper.wp
  generalize (execOp a.eval o).run P x=r at *
  cases r with
  | ok n w2 =>
   cases n<;>simp only [Ht] at this
   ·rename_i v
    simp only [Oper.upon]
    obtain ⟨Bn,h2,h3,h4,h5,h6,h7⟩:=this
    refine h v (B.over Bn) w2 ⟨h5.os.trans hx.os,h5.tape.trans hx.tape,h5.output.trans hx.output,Nat.le_trans hx.size h5.size,fun k hk hn=>(h5.block k (Nat.lt_of_lt_of_le hk hx.size) (fun hm=>(List.mem_append.1 hm).elim hn (fun h=>by have:=(hW2 k h).1;omega))).trans (hx.block k hk hn)⟩ (fun k o hk=>?_) ⟨Bn,h2,h3,fun g o hg=>?_,rfl⟩
    ·cases hb:Bn k with
     | some o' =>
      rw [Blocks.over_some hb] at hk
      cases hk
      exact h4 k _ hb
     | none =>
      rw [Blocks.over_none hb] at hk
      have h9:=hB k o hk
      rw [h5.block k (Q9 h9) (fun hm=>h7 k hm hb)]
      exact h9
    ·refine (h6 g o hg).imp id fun h8=>⟨Nat.le_trans hx.size h8,hB.none h8⟩
   ·simp only [Oper.upon]
    rw [this.1]
    refine this.2.mono fun e w3 ⟨v,Bn,h1,h2,h3,h4,h5,h6,h7⟩=>?_
    subst h1
    refine h v (B.over Bn) w3 ⟨h5.os.trans hx.os,h5.tape.trans hx.tape,h5.output.trans hx.output,Nat.le_trans hx.size h5.size,fun k hk hn=>(h5.block k (Nat.lt_of_lt_of_le hk hx.size) (fun hm=>(List.mem_append.1 hm).elim hn (fun h=>by have:=(hW2 k h).1;omega))).trans (hx.block k hk hn)⟩ (fun k o hk=>?_) ⟨Bn,h2,h3,fun g o hg=>?_,rfl⟩
    ·cases hb:Bn k with
     | some o' =>
      rw [Blocks.over_some hb] at hk
      cases hk
      exact h4 k _ hb
     | none =>
      rw [Blocks.over_none hb] at hk
      have h9:=hB k o hk
      rw [h5.block k (Q9 h9) (fun hm=>h7 k hm hb)]
      exact h9
    ·refine (h6 g o hg).imp id fun h8=>⟨Nat.le_trans hx.size h8,hB.none h8⟩
  | halt y w2=>simp only [Ht] at this
theorem Q90 {kd:Nat→Nat} {i:Nat} {a:Act} {B:Blocks} {K:Act→Blocks→Prop} {K':Act→World→Prop} {Q':Exit→Act→World→Prop} {x:World} (hx:Behind w Wr x) (hB:Has B x)
  (h:∀ a' B' x',Behind w Wr x'→Has B' x'→K a' B'→K' a' x') (hh:Ao P ops w Wr kd i K a B):wpOp P ops Q' i K' a x:=by
 unfold Ao at hh
 unfold wpOp
 split
 ·rename_i ho;simp only [ho] at hh;exact h _ _ _ hx hB hh
 ·rename_i o ho
  simp only [ho] at hh
  obtain ⟨O,hg,hK⟩:=hh
  exact hg.sound hx hB fun v B' x' hx' hB' hO=>h _ _ _ hx' hB' (hK v B' hO)
theorem Vy {kd:Nat→Nat} {Q:Act→Blocks→Prop} {Q':Exit→Act→World→Prop} (hQ:∀ a B x,Behind w Wr x→Has B x→Q a B→Q' .normal a x):∀ (f:Nat) (s:Array Bool) (a:Act) (B:Blocks) (x:World),Behind w Wr x→Has B x →
  Q29 P md ops w Wr kd Q f s a B→wpAny P md ops Q' f s a x
 | 0,_,_,_,_,hx,hB,h=>⟨h.1,hQ _ _ _ hx hB h.2⟩
 | f+1,_,_,_,_,hx,hB,h=>⟨fun h0=>hQ _ _ _ hx hB (h.1 h0),fun i hi=>Q90 hx hB (fun a' B' x' hx' hB'=>Vy hQ f _ a' B' x' hx' hB') (h.2 i hi)⟩
theorem gOpW_mono {kd:Nat→Nat} {i:Nat} {a:Act} {B:Blocks} {K K':Act→Blocks→Prop} (h:∀ a B,K a B→K' a B) (hh:Ao P ops w Wr kd i K a B):Ao P ops w Wr kd i K' a B:=by
 unfold Ao at *
 split
 ·rename_i ho;simp only [ho] at hh;exact h _ _ hh
 ·rename_i o ho
  simp only [ho] at hh
  exact let ⟨O,h1,h2⟩:=hh;⟨O,h1,fun v B' hO=>h _ _ (h2 v B' hO)⟩
theorem MStepW.put {o:Oper} (hs:∀ cs b,o.op≠.select cs b) {a:Act} {d:Option Tmp} {u:Value} (hd:∀ e,d=some e→e∉o.looksAt ops) {k:Nat} {B:Blocks} {O:Value→Blocks→Prop}
  (h:MStepW P ops w Wr o a k B O):MStepW P ops w Wr o (a.put d u) k B O:=by
 have hw:=wanted_put (ops:=ops) o a d u hd
 have he:=execOp_put (ops:=ops) o hs a d u hd
 cases h with
 | old _ _ _ hk h=>exact .old _ _ _ hk (h.put hs hd)
 | many _ R W2 h1 h2 h5 h3 h4=>exact .many _ R W2 (hw.trans h1) h2 h5 (fun x hx hB=>by rw [he];exact h3 x hx hB) h4
theorem MStepW.unput {o:Oper} (hs:∀ cs b,o.op≠.select cs b) {a:Act} {d:Option Tmp} {u:Value} (hd:∀ e,d=some e→e∉o.looksAt ops) {k:Nat} {B:Blocks} {O:Value→Blocks→Prop}
  (h:MStepW P ops w Wr o (a.put d u) k B O):MStepW P ops w Wr o a k B O:=by
 have hw:=wanted_put (ops:=ops) o a d u hd
 have he:=execOp_put (ops:=ops) o hs a d u hd
 cases h with
 | old _ _ _ hk h=>exact .old _ _ _ hk (h.unput hs hd)
 | many _ R W2 h1 h2 h5 h3 h4=>exact .many _ R W2 (hw.symm.trans h1) h2 h5 (fun x hx hB=>by rw [←he];exact h3 x hx hB) h4
theorem MStepW.fin {o:Oper} {a:Act} {k:Nat} {B:Blocks} {O:Value→Blocks→Prop} (h:MStepW P ops w Wr o a k B O) (hf:Fin B) (v:Value) (B':Blocks) (hO:O v B'):Fin B':=by
 cases h with
 | old _ _ _ _ h=>exact h.fin hf v B' hO
 | many=>obtain ⟨Bn,_,hn,_,rfl⟩:=hO;exact hf.over hn
theorem Q1v {W2:List Nat} {B:Blocks} {R:Value→Blocks→Prop} (hf:Fin B) (hne:∀ N,∃ v Bn,R v Bn∧Fin Bn∧∀ g o,Bn g=some o→g∈Wr++W2∨N≤g) (m:Nat):∃ v Bn,R v Bn∧Fin Bn∧∀ g o,Bn g=some o→g∈Wr++W2∨(m≤g∧B g=none):=by
 obtain ⟨N,hN⟩:=hf
 obtain ⟨v,Bn,h1,h2,h3⟩:=hne (max N m)
 exact ⟨v,Bn,h1,h2,fun g o hg=>(h3 g o hg).imp id fun h=>⟨by omega,hN _ (by omega)⟩⟩
theorem MStepW.inhab {o:Oper} {a:Act} {k:Nat} {B:Blocks} {O:Value→Blocks→Prop} (h:MStepW P ops w Wr o a k B O) (hf:Fin B):∃ v B',O v B':=by
 cases h with
 | old _ _ _ _ h=>exact h.inhab hf
 | many _ R W2 _ _ _ _ hne =>
  obtain ⟨v,Bn,h1,h2,h3⟩:=Q1v hf hne w.heap.size
  exact ⟨v,_,Bn,h1,h2,h3,rfl⟩
theorem MStepW.isOld {o:Oper} {a:Act} {k:Nat} {B:Blocks} {O:Value→Blocks→Prop} (h:MStepW P ops w Wr o a k B O) (hk:k≠6):GStep P ops w Wr o a k B O:=by
 cases h with
 | old _ _ _ _ h=>exact h
 | many=>exact absurd rfl hk
theorem gOpW_put {kd:Nat→Nat} {i j:Nat} {oi oj:Oper} (hj:ops[j]?=some oj) (hap:oi.apart ops oj=true) (hok:Ug (kd i) (kd j) oj=true)
  (hsi:∀ cs b,oi.op≠.select cs b) (hsj:∀ cs b,oj.op≠.select cs b) {K:Act→Blocks→Prop} {a:Act} {B:Blocks} (hf:Fin B) {Oi:Value→Blocks→Prop}
  (hi:MStepW P ops w Wr oi a (kd i) B Oi) (H:∀ v B1,Oi v B1→Ao P ops w Wr kd j K (a.put oi.dst v) B1) :
  Ao P ops w Wr kd j (fun a' B'=>Fin B'∧∃ Oi',MStepW P ops w Wr oi a' (kd i) B' Oi'∧∀ v B2,Oi' v B2→K (a'.put oi.dst v) B2) a B:=by
 obtain ⟨h1,h2,h3⟩:=Oper.apart_spec hap
 by_cases hki:kd i=6
 ·
  rw [hki] at hi hok
  have hok':kd j=3∨(kd j=0∧Hi oj=true):=by simpa [Ug] using hok
  have hkj:kd j≠6:=by rcases hok' with h | ⟨h,_⟩<;>omega
  cases hi with
  | old _ _ _ hk=>exact absurd rfl hk
  | many _ R W2 hw hWr hW2 hq hne =>
  unfold Ao at *
  simp only [hj] at *
  have hwp:∀ u,Region.wanted oj (yielded ops (a.put oi.dst u).tmps)=Region.wanted oj (yielded ops a.tmps):=fun u=>wanted_put oj a oi.dst u h1
  have hep:∀ u,execOp (a.put oi.dst u).eval oj=execOp a.eval oj:=fun u=>execOp_put oj hsj a oi.dst u h1
  have back:∀ (u:Value) (B':Blocks),(∀ x,Has B' x→Has B x)→(∀ g∈W2,B' g≠none)→MStepW P ops w Wr oi (a.put oj.dst u) (kd i) B' fun v B2=>∃ Bn,R v Bn∧Fin Bn∧(∀ g o,Bn g=some o→g∈Wr++W2∨(w.heap.size≤g∧B' g=none))∧B2=B'.over Bn:=fun u B' hm hm2=>by
   rw [hki];exact MStepW.put hsi h3 (.many B' R W2 hw hWr (fun g hg=>⟨(hW2 g hg).1,hm2 g hg⟩) (fun x hx hB=>hq x hx (hm x hB)) hne)
  obtain ⟨v0,Bn0,r1,r2,r3⟩:=Q1v hf hne w.heap.size
  obtain ⟨O,hO,_⟩:=H v0 _ ⟨Bn0,r1,r2,r3,rfl⟩
  have hO:=hO.isOld hkj
  generalize kd j=kj at *
  cases hO with
  | skip _ _ hw' =>
   refine ⟨_,.old _ _ _ hkj (.skip kj B ((hwp _).symm.trans hw')),fun u B' hu=>?_⟩
   obtain ⟨rfl,rfl⟩:=hu
   refine ⟨hf,_,back undef _ (fun _ h=>h) (fun g hg=>(hW2 g hg).2),fun v B2 h'=>?_⟩
   obtain ⟨Bn,s1,s2,s3,rfl⟩:=h'
   obtain ⟨O,hO,hK⟩:=H v _ ⟨Bn,s1,s2,s3,rfl⟩
   have hO:=hO.isOld hkj
   rw [←Act.put_comm a v undef h2]
   cases hO with
   | skip=>exact hK _ _ ⟨rfl,rfl⟩
   | quiet _ _ hw2 | read _ _ hw2 | write _ _ _ _ hw2 | alloc _ _ _ hw2 | new _ _ _ hw2 | grow _ _ _ _ _ hw2 =>
    rw [hwp] at hw2 hw';rw [hw'] at hw2;cases hw2
  | quiet _ u hw' hq' =>
   have hp:Hi oj=true:=by rcases hok' with h | h;cases h;exact h.2
   have hr:=fun x hx=>Uv hp (hq' x hx)
   refine ⟨_,.old _ _ _ hkj (.quiet B u ((hwp _).symm.trans hw') (fun x hx=>(Zd hsj h1).1 (hq' x hx))),fun u' B' hu=>?_⟩
   obtain ⟨rfl,rfl⟩:=hu
   refine ⟨hf,_,back _ _ (fun _ h=>h) (fun g hg=>(hW2 g hg).2),fun v B2 h'=>?_⟩
   obtain ⟨Bn,s1,s2,s3,rfl⟩:=h'
   obtain ⟨O,hO,hK⟩:=H v _ ⟨Bn,s1,s2,s3,rfl⟩
   have hO:=hO.isOld hkj
   rw [←Act.put_comm a v _ h2]
   cases hO with
   | skip _ _ hw2=>rw [hwp] at hw2 hw';rw [hw'] at hw2;cases hw2
   | quiet _ u2 hw2 hq2 =>
    have e1:=hr w (Behind.refl w Wr)
    have e2:=Uv hp (hq2 w (Behind.refl w Wr))
    rw [hep] at e1 e2
    rw [e1] at e2
    simp only [Result.ok.injEq,Next.value.injEq,and_true] at e2
    exact hK _ _ ⟨e2,rfl⟩
  | read=>simp at hok'
  | write=>simp at hok'
  | alloc _ sc oc hw' hq' =>
   refine ⟨_,.old _ _ _ hkj (.alloc B sc oc ((hwp _).symm.trans hw') (fun x hx=>by rw [←hep];exact hq' x hx)),fun u' B' hu=>?_⟩
   obtain ⟨b,hb,hbn,rfl,rfl⟩:=hu
   refine ⟨hf.put _ _,_,back _ _ (fun _ h=>h.of_put hbn) (fun g hg hn=>by
    have hgb:g≠b:=fun e=>(hW2 g hg).2 (by rw [e];exact hbn)
    rw [Blocks.put_other _ _ hgb] at hn
    exact (hW2 g hg).2 hn),fun v B2 h'=>?_⟩
   obtain ⟨Bn,s1,s2,s3,rfl⟩:=h'
   have hbb:Bn b=none:=by
    cases hc:Bn b with
    | none=>rfl
    | some o =>
     rcases s3 b o hc with h | ⟨_,h⟩
     ·rcases List.mem_append.1 h with h | h
      ·have:=hWr b h;omega
      ·exact ((hW2 b h).2 hbn).elim
     ·rw [Blocks.put_same] at h;cases h
   have s3':∀ g o,Bn g=some o→g∈Wr++W2∨(w.heap.size≤g∧B g=none):=fun g o hg=>(s3 g o hg).imp id fun h=>⟨h.1,by
    have hgb:g≠b:=fun e=>by subst e;rw [hbb] at hg;cases hg
    have:=h.2
    rwa [Blocks.put_other _ _ hgb] at this⟩
   obtain ⟨O,hO,hK⟩:=H v _ ⟨Bn,s1,s2,s3',rfl⟩
   have hO:=hO.isOld hkj
   have ecomm:(B.put b oc).over Bn=(B.over Bn).put b oc:=by
    funext k
    by_cases hk:k=b
    ·subst hk;rw [Blocks.over_none hbb,Blocks.put_same,Blocks.put_same]
    ·rw [Blocks.put_other _ _ hk]
     cases hc:Bn k with
     | none=>rw [Blocks.over_none hc,Blocks.over_none hc,Blocks.put_other _ _ hk]
     | some o=>rw [Blocks.over_some hc,Blocks.over_some hc]
   rw [←Act.put_comm a v _ h2,ecomm]
   cases hO with
   | skip _ _ hw2=>rw [hwp] at hw2 hw';rw [hw'] at hw2;cases hw2
   | alloc _ sc2 oc2 hw2 hq2 =>
    have e1:=hq' w (Behind.refl w Wr)
    have e2:=hq2 w (Behind.refl w Wr)
    rw [hep] at e1 e2
    rw [e1] at e2
    simp only [Result.ok.injEq,Next.value.injEq] at e2
    have e3:=Q4h e2.1
    have e4:=Q42 e2.2
    subst e3 e4
    exact hK _ _ ⟨b,hb,by rw [Blocks.over_none hbb];exact hbn,rfl,rfl⟩
  | new=>simp at hok'
  | grow=>simp at hok'
 ·have hiO:=hi.isOld hki
  by_cases hkj:kd j=6
  ·
   have hk0:kd i=0:=by simpa [Ug,hki,hkj] using hok
   unfold Ao at *
   simp only [hj] at *
   rw [hk0] at hiO
   have key:∀ v,Oi v B→(∀ u B',∃ Oi',GStep P ops w Wr oi (a.put oj.dst u) 0 B' Oi'∧∀ v' B2,Oi' v' B2→v'=v∧B2=B') →
     ∃ O,MStepW P ops w Wr oj a (kd j) B O∧∀ u B',O u B'→Fin B'∧∃ Oi',MStepW P ops w Wr oi (a.put oj.dst u) (kd i) B' Oi'∧∀ v B2,Oi' v B2→K ((a.put oj.dst u).put oi.dst v) B2:=fun v hv hs=>by
    obtain ⟨O,hO,hK⟩:=H v B hv
    refine ⟨O,hO.unput hsj h1,fun u B' hu=>⟨hO.fin hf u B' hu,?_⟩⟩
    obtain ⟨Oi',g1,g2⟩:=hs u B'
    refine ⟨Oi',.old _ _ _ hki (by rw [hk0];exact g1),fun v' B2 h'=>?_⟩
    obtain ⟨rfl,rfl⟩:=g2 v' B2 h'
    rw [←Act.put_comm a v' u h2]
    exact hK u _ hu
   cases hiO with
   | skip _ _ hw=>exact key undef ⟨rfl,rfl⟩ fun u B'=>⟨_,.skip 0 B' ((wanted_put oi a oj.dst u h3).trans hw),fun _ _ h=>h⟩
   | quiet _ v hw hq=>exact key v ⟨rfl,rfl⟩ fun u B'=>⟨_,GStep.put hsi h3 (.quiet B' v hw hq),fun _ _ h=>h⟩
  ·have hok':Xz (kd i) (kd j) oj=true:=by simpa [Ug,hki,hkj] using hok
   have H':∀ v B1,Oi v B1→gOp P ops w Wr kd j K (a.put oi.dst v) B1:=fun v B1 hv=>by
    have:=H v B1 hv
    unfold Ao at this
    unfold gOp
    simp only [hj] at this ⊢
    obtain ⟨O,hO,hK⟩:=this
    exact ⟨O,hO.isOld hkj,hK⟩
   have:=Q5g hj hap hok' hsi hsj hf hiO H'
   unfold gOp at this
   unfold Ao
   simp only [hj] at this ⊢
   obtain ⟨O,hO,hK⟩:=this
   refine ⟨O,.old _ _ _ hkj hO,fun v B' hv=>?_⟩
   obtain ⟨hf',Oi',g1,g2⟩:=hK v B' hv
   exact ⟨hf',Oi',.old _ _ _ hki g1,g2⟩
theorem Q6h {kd:Nat→Nat} {Q:Act→Blocks→Prop} {i:Nat} {oi:Oper} {D:Nat→Bool} (hi:ops[i]?=some oi) (hsel:∀ (j:Nat) (o:Oper) cs b,ops[j]?=some o→o.op≠.select cs b) :
  ∀ (fuel:Nat) (s:Array Bool) (a:Act) (B:Blocks) (Oi:Value→Blocks→Prop),
   FreeM md ops kd i oi D s →
   i∈Region.ready md ops s→Fin B→MStepW P ops w Wr oi a (kd i) B Oi →
   (∀ v B',Oi v B'→Q29 P md ops w Wr kd Q fuel (s.setIfInBounds i true) (a.put oi.dst v) B')→(∃ v B',Oi v B')→Q29 P md ops w Wr kd Q (fuel+1) s a B:=by
 intro fuel
 induction fuel with
 | zero =>
  intro s a B Oi _ hr hf hg H hne
  refine ⟨fun h=>(by rw [h] at hr;cases hr),fun j hj=>?_⟩
  by_cases hji:j=i
  ·subst hji
   unfold Ao
   simp only [hi]
   exact ⟨Oi,hg,H⟩
  ·obtain ⟨v,B',hO⟩:=hne
   have:=ready_mono hj hji
   rw [(H v B' hO).1] at this
   cases this
 | succ fuel ih =>
  intro s a B Oi hfree hr hf hg H hne
  have h0:=(mem_ready.1 hr).1
  refine ⟨fun h=>(by rw [h] at hr;cases hr),fun j hj=>?_⟩
  by_cases hji:j=i
  ·subst hji
   unfold Ao
   simp only [hi]
   exact ⟨Oi,hg,H⟩
  ·obtain ⟨hjun,oj,hoj,hall⟩:=mem_ready.1 hj
   have hall':∀ e∈oj.after,Region.binds md e=true→s.getD e.on true=true:=fun e he hb=>Q52 (hall e he hb)
   have hd:=hfree.not h0 hoj hall'
   obtain ⟨hap,hok⟩:=hfree.ok j oj hoj hji hjun hd
   have h2:=gOpW_put hoj hap hok (fun cs b=>hsel i oi cs b hi) (fun cs b=>hsel j oj cs b hoj) hf hg (fun v B1 hO=>(H v B1 hO).2 j (ready_mono hj hji))
   refine gOpW_mono (fun a' B' h3=>?_) h2
   obtain ⟨hf',Oi',hg',hK⟩:=h3
   refine ih (s.setIfInBounds j true) a' B' Oi' (hfree.set hjun hd) (ready_mono hr (Ne.symm hji)) hf' hg' (fun v B2 hO=>?_) (hg'.inhab hf')
   rw [Array.setIfInBounds_comm _ _ hji];exact hK v B2 hO
def Kc (P:Program) (ops:Array Oper) (w:World) (Wr:List Nat) (kd:Nat→Nat) (Q:Act→Blocks→Prop):List Oper→Nat→Act→Blocks→Prop
 | [],_,a,B=>Q a B
 | o::rest,k,a,B=>∃ O,MStepW P ops w Wr o a (kd k) B O∧∀ v B',O v B'→Kc P ops w Wr kd Q rest (k+1) (a.put o.dst v) B'
theorem lexW_of {kd:Nat→Nat} {Q:Act→Blocks→Prop}:∀ (l1 l2:List Oper) (k:Nat) (a:Act) (B:Blocks),((List.range l1.length).all fun j=>kd (k+j) != 6)=true →
  Jh P ops w Wr kd (fun a' B'=>Kc P ops w Wr kd Q l2 (k+l1.length) a' B') l1 k a B→Kc P ops w Wr kd Q (l1++l2) k a B
 | [],l2,k,a,B,_,h=>h
 | o::l1,l2,k,a,B,hk,h=>by
  obtain ⟨O,hg,hK⟩:=h
  have hk0:kd k≠6:=by
   have:=List.all_eq_true.1 hk 0 (by simp)
   simpa using this
  refine ⟨O,.old _ _ _ hk0 hg,fun v B' hv=>lexW_of l1 l2 (k+1) _ B' (List.all_eq_true.2 fun j hj=>?_) ?_⟩
  ·have:=List.all_eq_true.1 hk (j+1) (by simp at hj ⊢;omega)
   rwa [show k+(j+1)=k+1+j by omega] at this
  ·have:=hK v B' hv
   rw [show k+(o::l1).length=k+1+l1.length by simp;omega] at this
   exact this
theorem Q46 {kd kd':Nat→Nat} {Q:Act→Blocks→Prop} (hs:Region.noSelect ops=true):∀ (ord:List Nat) (l:List Oper) (k f:Nat) (s:Array Bool) (a:Act) (B:Blocks),l.length=ord.length→(∀ (p i:Nat),ord[p]?=some i→l[p]?=ops[i]?)→(∀ (p i:Nat),ord[p]?=some i→kd' (k+p)=kd i)→Fin B →
  ordM md ops kd ord s=true→Kc P ops w Wr kd' (fun a' B'=>Fin B'→Q29 P md ops w Wr kd Q f (setsM ord s) a' B') l k a B→Q29 P md ops w Wr kd Q (ord.length+f) s a B
 | [],l,k,f,s,a,B,hl,_,_,hf,_,h=>by
  rw [List.length_eq_zero_iff.1 hl] at h
  rw [List.length_nil,Nat.zero_add]
  exact h hf
 | i::ord,l,k,f,s,a,B,hl,hops,hkd,hf,hB,h=>by
  cases l with
  | nil=>simp at hl
  | cons o l =>
   have h0:ops[i]?=some o:=by simpa using (hops 0 i rfl).symm
   simp only [ordM,Bool.and_eq_true] at hB
   obtain ⟨O,hg,hK⟩:=h
   have hk0:kd' k=kd i:=by simpa using hkd 0 i rfl
   rw [hk0] at hg
   rw [show (i::ord).length+f=(ord.length+f)+1 by simp;omega]
   refine Q6h h0 (Region.noSelect_spec hs) (ord.length+f) s a B O (Q9g h0 hB.1.2) (by simpa using hB.1.1) hf hg (fun v B' hO=>?_) (hg.inhab hf)
   exact Q46 hs ord l (k+1) f _ _ B' (by simpa using hl) (fun p j hp=>by have:=hops (p+1) j (by simpa using hp);simpa using this) (fun p j hp=>by have:=hkd (p+1) j (by simpa using hp);rwa [show k+(p+1)=k+1+p by omega] at this) (hg.fin hf v B' hO) hB.2 (hK v B' hO)
def orderB (md:Region.Mode) (l:List Oper) (kinds:List Nat) (ord:List Nat):Bool :=
 Region.noSelect l.toArray&&Q5m l.length ord&&decide (ord.length=l.length)&&ordM md l.toArray (fun k=>kinds.getD k 0) ord (Array.replicate l.toArray.size false)&&(Region.ready md l.toArray (setsM ord (Array.replicate l.toArray.size false))).isEmpty
theorem lexW_mono {kd:Nat→Nat}:∀ {Q1 Q2:Act→Blocks→Prop},(∀ a B,Q1 a B→Q2 a B)→∀ (l':List Oper) (k:Nat) (a:Act) (B:Blocks),Kc P ops w Wr kd Q1 l' k a B→Kc P ops w Wr kd Q2 l' k a B:=by
 intro Q1 Q2 hQ l'
 induction l' with
 | nil=>intro k a B hq;exact hQ _ _ hq
 | cons o l' ih =>
  intro k a B hq
  obtain ⟨O,hg,hK⟩:=hq
  exact ⟨O,hg,fun v B' hO=>ih _ _ _ (hK v B' hO)⟩
theorem U2 {id:Nat} {Q:Exit→Act→World→Prop} {a:Act} {l:List Oper} (kinds:List Nat) (Wr:List Nat) (B:Blocks) (ord:List Nat) (hf:Fin B) (hB:Has B w) (hm:P.follows .mixedOrders=true) (hc:orderB .any l kinds ord=true)
  (h:Kc P l.toArray w Wr (kdOf kinds ord) (fun a' B'=>∀ x,Behind w Wr x→Has B' x→Q .normal a' x) (Vv l ord) 0 a B):(Code.region id l.toArray true).wp P Q a w:=by
 simp only [orderB,Bool.and_eq_true,decide_eq_true_eq] at hc
 obtain ⟨⟨⟨⟨c1,c2⟩,c3⟩,c4⟩,c5⟩:=hc
 obtain ⟨g1,g2⟩:=Q7f (l:=l) c2
 refine wp_region_any hm (Vy (w:=w) (Wr:=Wr) (kd:=fun k=>kinds.getD k 0) (Q:=fun a' B'=>∀ x,Behind w Wr x→Has B' x→Q .normal a' x) (fun a' B' x hx hB' h'=>h' x hx hB') _ _ _ B _ (Behind.drew w Wr) hB ?_)
 have hlen:l.toArray.size=ord.length+0:=by simp;omega
 rw [hlen]
 refine Q46 (md:=.any) (P:=P) (w:=w) (Wr:=Wr) (kd':=kdOf kinds ord) c1 ord (Vv l ord) 0 0 _ a B g1 g2 (fun p i hp=>kdOf_at p i hp) hf (by rw [Nat.add_zero] at hlen;rw [←hlen];exact c4) ?_
 refine lexW_mono (fun a' B' h' hf'=>?_) _ _ _ _ h
 exact ⟨by rw [Nat.add_zero] at hlen;rw [←hlen];simpa using c5,h'⟩
theorem Xw {kd:Nat→Nat} {Q:Act→Blocks→Prop} {B:Blocks} {rest:List Oper} {k d:Nat} {c:Call} {ty:TypeId} {pos:String} {after:Array Edge} {a:Act} {f:FuncId} {vs:Array Value} (W2:List Nat) (R:Value→Blocks→Prop) (hk:kd k=6) (hWr:∀ g∈Wr,g<w.heap.size) (hf:Fin B) (hBn:∀ g o,B g=some o→g∈Wr∨w.heap.size≤g) (hW2:∀ g∈W2,w.heap.size≤g∧B g≠none)
  (hrun:∀ x,(execOp a.eval ⟨some d,.call c,ty,pos,after,none⟩).run P x = .ok (.enter f vs) x)
  (hc:∀ x,Behind w Wr x→Has B x→Calls P f vs x fun e w'=>∃ v,e = .returned v∧Behind x (Wr++W2) w'∧R v (Od (Wr++W2) x w'))
  (h:∀ v Bn,R v Bn→Fin Bn→(∀ g o,Bn g=some o→g∈Wr++W2∨(w.heap.size≤g∧B g=none))→Qk P ops d ty pos v (fun a'=>Kc P ops w Wr kd Q rest (k+1) a' (B.over Bn)) a) :
  Kc P ops w Wr kd Q (⟨some d,.call c,ty,pos,after,none⟩::rest) k a B:=by
 have hm:∀ x,Behind w Wr x→Has B x→Ht P R Wr W2 x ((execOp a.eval ⟨some d,.call c,ty,pos,after,none⟩).run P x):=fun x hx hB=>by
  rw [hrun]
  refine ⟨rfl,(hc x hx hB).mono ?_⟩
  rintro e w' ⟨v,rfl,hB',hR⟩
  refine ⟨v,Od (Wr++W2) x w',rfl,hR,At _ _,Q8c _ _,hB',fun g o hg=>?_,fun g hg=>?_⟩
  ·unfold Od at hg
   split at hg
   ·rename_i h;exact h
   ·cases hg
  ·rw [Yv (.inl hg)]
   have h1:g<x.heap.size:=by
    rcases List.mem_append.1 hg with hg | hg
    ·have:=hWr g hg;have:=hx.size;omega
    ·cases hb:B g with
     | none=>exact ((hW2 g hg).2 hb).elim
     | some o=>exact Q9 (hB g o hb)
   have h3:=hB'.size
   rw [Array.getElem?_eq_getElem (show g<w'.heap.size by omega)]
   simp
 have hin:∀ N,∃ v Bn,R v Bn∧Fin Bn∧∀ g o,Bn g=some o→g∈Wr++W2∨N≤g:=fun N=>by
  obtain ⟨x,hx,hB,hN⟩:=Vf hf hBn N
  obtain ⟨e,w',_,⟨v,rfl,hB',hR⟩,_⟩:=hc x hx hB []
  refine ⟨v,Od (Wr++W2) x w',hR,At _ _,fun g o hg=>?_⟩
  unfold Od at hg
  split at hg
  ·rename_i h;exact h.imp id (fun e=>by omega)
  ·cases hg
 have g:MStepW P ops w Wr ⟨some d,.call c,ty,pos,after,none⟩ a (kd k) B (fun v B'=>∃ Bn,R v Bn∧Fin Bn∧(∀ g o,Bn g=some o→g∈Wr++W2∨(w.heap.size≤g∧B g=none))∧B'=B.over Bn):=by
  rw [hk]
  exact .many B R W2 rfl hWr hW2 hm hin
 refine ⟨_,g,fun v B' hO=>?_⟩
 obtain ⟨Bn,h1,h2,h3,rfl⟩:=hO
 exact Kp (h v Bn h1 h2 h3)
theorem Q98 {kd:Nat→Nat} {Q:Act→Blocks→Prop} {B:Blocks} {rest:List Oper} {k d:Nat} {op:Op} {ty:TypeId} {pos:String} {after:Array Edge} {a:Act} (W2:List Nat) (R:Value→Blocks→Prop) (hk:kd k=6) (hWr:∀ g∈Wr,g<w.heap.size) (hf:Fin B) (hBn:∀ g o,B g=some o→g∈Wr∨w.heap.size≤g) (hW2:∀ g∈W2,w.heap.size≤g∧B g≠none)
  (hc:∀ x,Behind w Wr x→Has B x→∃ v w',(execOp a.eval ⟨some d,op,ty,pos,after,none⟩).run P x = .ok (.value v) w'∧Behind x (Wr++W2) w'∧R v (Od (Wr++W2) x w'))
  (h:∀ v Bn,R v Bn→Fin Bn→(∀ g o,Bn g=some o→g∈Wr++W2∨(w.heap.size≤g∧B g=none))→Qk P ops d ty pos v (fun a'=>Kc P ops w Wr kd Q rest (k+1) a' (B.over Bn)) a) :
  Kc P ops w Wr kd Q (⟨some d,op,ty,pos,after,none⟩::rest) k a B:=by
 have hm:∀ x,Behind w Wr x→Has B x→Ht P R Wr W2 x ((execOp a.eval ⟨some d,op,ty,pos,after,none⟩).run P x):=fun x hx hB=>by
  obtain ⟨v,w',hr,hB',hR⟩:=hc x hx hB
  rw [hr]
  refine ⟨Od (Wr++W2) x w',hR,At _ _,Q8c _ _,hB',fun g o hg=>?_,fun g hg=>?_⟩
  ·unfold Od at hg
   split at hg
   ·rename_i h;exact h
   ·cases hg
  ·rw [Yv (.inl hg)]
   have h1:g<x.heap.size:=by
    rcases List.mem_append.1 hg with hg | hg
    ·have:=hWr g hg;have:=hx.size;omega
    ·cases hb:B g with
     | none=>exact ((hW2 g hg).2 hb).elim
     | some o=>exact Q9 (hB g o hb)
   have h3:=hB'.size
   rw [Array.getElem?_eq_getElem (show g<w'.heap.size by omega)]
   simp
 have hin:∀ N,∃ v Bn,R v Bn∧Fin Bn∧∀ g o,Bn g=some o→g∈Wr++W2∨N≤g:=fun N=>by
  obtain ⟨x,hx,hB,hN⟩:=Vf hf hBn N
  obtain ⟨v,w',_,hB',hR⟩:=hc x hx hB
  refine ⟨v,Od (Wr++W2) x w',hR,At _ _,fun g o hg=>?_⟩
  unfold Od at hg
  split at hg
  ·rename_i h;exact h.imp id (fun e=>by omega)
  ·cases hg
 have g:MStepW P ops w Wr ⟨some d,op,ty,pos,after,none⟩ a (kd k) B (fun v B'=>∃ Bn,R v Bn∧Fin Bn∧(∀ g o,Bn g=some o→g∈Wr++W2∨(w.heap.size≤g∧B g=none))∧B'=B.over Bn):=by
  rw [hk]
  exact .many B R W2 rfl hWr hW2 hm hin
 refine ⟨_,g,fun v B' hO=>?_⟩
 obtain ⟨Bn,h1,h2,h3,rfl⟩:=hO
 exact Kp (h v Bn h1 h2 h3)
theorem Yh {kd:Nat→Nat} {Q:Act→Blocks→Prop} {B:Blocks} {l:List Oper} {k:Nat} {a:Act} (n:Nat) (hn:n≤l.length) (hk:((List.range n).all fun j=>kd (k+j) != 6)=true)
  (h:Jh P ops w Wr kd (fun a' B'=>Kc P ops w Wr kd Q (l.drop n) (k+n) a' B') (l.take n) k a B):Kc P ops w Wr kd Q l k a B:=by
 have e:(l.take n).length=n:=by rw [List.length_take];omega
 have:=lexW_of (P:=P) (ops:=ops) (w:=w) (Wr:=Wr) (kd:=kd) (Q:=Q) (l.take n) (l.drop n) k a B (by rw [e];exact hk) (by rw [e];exact h)
 rw [List.take_append_drop] at this
 exact this
end
end Go.Proofs.YtcpehljpegfckaaGreatDoor
