/- Texts of this claim,joined: Base,Plus. -/
import Derived.WalkKit
import Derived.StillTailTactics
import Derived.Deep.QuietTactic
import Derived.BigQuiet
import Derived.Deep.Quiet
import Derived.StillTail
/- Small laws on worlds,rows of cells and slices. -/
namespace Go.Proofs.YtcpehljpegfckaaGreatDoor
section
open Go.RowKit
def Row (w:World) (g:Nat) (E:TypeId) (xs:List Value):Prop:=w.heap[g]?=some (.cells xs.toArray E (0,0))
theorem Row.lt {w:World} {g:Nat} {E:TypeId} {xs:List Value} (h:Row w g E xs):g<w.heap.size:=(Array.getElem?_eq_some_iff.1 h).1
theorem Row.cell? {w:World} {g:Nat} {E:TypeId} {xs:List Value} (h:Row w g E xs) (i:Nat):w.cell? ⟨g,i,none⟩=xs[i]?:=by
 rw [cell_of_row w g i xs.toArray E (0,0) h];simp
theorem Row.cell {w:World} {g:Nat} {E:TypeId} {xs:List Value} (h:Row w g E xs) {i:Nat} {v:Value} (hi:xs[i]?=some v):w.cell? ⟨g,i,none⟩=some v:=by
 rw [h.cell?,hi]
theorem Row.free {w:World} {g:Nat} {E:TypeId} {xs:List Value} (h:Row w g E xs) (i:Nat):w.frozen? ⟨g,i,none⟩=false :=
 frozen_of_row w g i xs.toArray E h
theorem Row.set {w:World} {g:Nat} {E:TypeId} {xs:List Value} (h:Row w g E xs) (i:Nat) (v:Value):Row (w.setCell ⟨g,i,none⟩ v) g E (xs.set i v):=by
 unfold Row at *
 rw [heap_setCell_same w g i xs.toArray E v h];simp
theorem Row.setOther {w:World} {g:Nat} {E:TypeId} {xs:List Value} (h:Row w g E xs) (a:Addr) (ha:a.block≠g) (v:Value):Row (w.setCell a v) g E xs:=by
 unfold Row at *
 rw [heap_setCell_other w a g v (by omega)];exact h
theorem Row.alloc {w:World} {g:Nat} {E:TypeId} {xs:List Value} (h:Row w g E xs) (o:Obj):Row (w.alloc o) g E xs:=by
 have:=h.lt
 unfold Row at *
 rw [heap_alloc_old w o this];exact h
theorem Row.drew {w:World} {g:Nat} {E:TypeId} {xs:List Value} (h:Row w g E xs):Row w.drew g E xs:=h
theorem Row.drewN {w:World} {g:Nat} {E:TypeId} {xs:List Value} (h:Row w g E xs) (n:Nat):Row (w.drewN n) g E xs:=h
theorem Row.below {w w':World} {g B:Nat} {E:TypeId} {xs:List Value} (h:Row w g E xs) (hb:Below B w w') (hg:g<B):Row w' g E xs:=by
 unfold Row at *
 rw [hb.block g hg];exact h
theorem Row.grown {w w':World} {g:Nat} {r:Option Nat} {E:TypeId} {xs:List Value} (h:Row w g E xs) (hb:w.grownBy w' r) (hg:r≠some g):Row w' g E xs:=by
 have:=h.lt
 unfold Row at *
 rw [hb.block g this (fun e=>hg e.symm)];exact h
theorem Row.new (w:World) (E:TypeId) (xs:List Value):Row (w.alloc (.cells xs.toArray E)) w.heap.size E xs:=heap_alloc_new w _
theorem Row.ofOwns {w:World} {base g n:Nat} {E:TypeId} {xs:List Value} (h:w.ownsRow base E 1 (.slice (some ⟨g,0,none⟩) n n) n xs):Row w g E xs:=by
 rcases h.2 with ⟨h',_⟩ | ⟨g',cap',cur,h',_,hg,_,_,hs,htake⟩
 ·simp at h'
 ·simp only [Value.slice.injEq,Option.some.injEq,Addr.mk.injEq,and_true,true_and] at h'
  obtain ⟨rfl,rfl⟩:=h'
  have:cur.toList=xs:=by
   rw [←htake,List.take_of_length_le]
   simp;omega
  subst this
  simpa [Row] using hg
theorem Q8 {B:Nat} {w w':World} (h:Below B w w') {b o:Nat} {v:Value} (hb:b<B) (hv:w.cell? ⟨b,o,none⟩=some v):w'.cell? ⟨b,o,none⟩=some v:=by
 rw [h.cell (p:=⟨b,o,none⟩) hb];exact hv
theorem Jv {w:World} {a b:Addr} {v x:Value} (hb:w.cell? b=some x) (h:b.block≠a.block):(w.setCell a v).cell? b=some x:=by
 rw [←hb]
 exact World.cell?_of_block (w:=w) (Below.heap_setCell w a v b.block h)
theorem Jr {w:World} {a b:Addr} {v:Value} {x:Bool} (hb:w.frozen? b=x) (h:b.block≠a.block):(w.setCell a v).frozen? b=x:=by
 rw [←hb]
 exact World.frozen?_of_block (w:=w) (Below.heap_setCell w a v b.block h)
theorem _root_.Go.RowKit.Below.drewN {B:Nat} {a w:World} (h:Below B a w) (n:Nat):Below B a (w.drewN n):=⟨h.os,h.tape,h.output,h.size,h.block⟩
theorem Z9 {w w':World} {r:Option Nat} {B:Nat} (h:w.grownBy w' r) (hB:B≤w.heap.size) (hr:∀ k,r=some k→B≤k):Below B w w' :=
 (Below.refl B w).grown h hB hr
theorem J7 {a b:Int} (h:a≠b):(a == b)=false:=beq_eq_false_iff_ne.2 h
theorem beq_yes {a b:Int} (h:a=b):(a == b)=true:=beq_iff_eq.2 h
theorem Um {k:IntKind} {a b:Int} (h:a=b):Ending.returned (.int k a) = .returned (.int k b):=by rw [h]
theorem ret_str {a b:ByteArray} (h:a=b):Ending.returned (.string a) = .returned (.string b):=by rw [h]
def u8s (l:List Nat):List Value:=l.map fun d=>.int .u8 (d:Nat)
def J5 (l:List Nat):List Value:=l.map fun d=>.int .u32 (d:Nat)
def Qm (l:List Int):List Value:=l.map fun d=>.int .i64 d
theorem Q1k (l:List Nat) (i d:Nat) (h:l[i]?=some d):(u8s l)[i]?=some (.int .u8 (d:Nat)):=by simp [u8s,h]
theorem u8s_set (l:List Nat) (i d:Nat):(u8s l).set i (.int .u8 (d:Nat))=u8s (l.set i d):=by simp [u8s,List.map_set]
theorem Qp (l:List Nat) (i d:Nat) (h:l[i]?=some d):(J5 l)[i]?=some (.int .u32 (d:Nat)):=by simp [J5,h]
theorem Jf (l:List Nat) (i d:Nat):(J5 l).set i (.int .u32 (d:Nat))=J5 (l.set i d):=by simp [J5,List.map_set]
theorem Jb (l:List Int) (i:Nat) (d:Int) (h:l[i]?=some d):(Qm l)[i]?=some (.int .i64 d):=by simp [Qm,h]
theorem Q86 (l:List Int) (i:Nat) (d:Int):(Qm l).set i (.int .i64 d)=Qm (l.set i d):=by simp [Qm,List.map_set]
theorem Q31 (z:Value) (n:Nat):(madeCells #[z] n).toList=List.replicate n z:=by
 apply List.ext_getElem
 ·simp [madeCells]
 ·intro i h1 h2;simp [madeCells,Nat.mod_one]
theorem Zu (n:Nat):(madeCells #[Value.int .u32 0] n).toList=J5 (List.replicate n 0):=by
 rw [Q31];simp [J5,List.map_replicate]
theorem u8s_zeros (n:Nat):(madeCells #[Value.int .u8 0] n).toList=u8s (List.replicate n 0):=by
 rw [Q31];simp [u8s,List.map_replicate]
theorem Q2t (n:Nat):(madeCells #[Value.int .i64 0] n).toList=Qm (List.replicate n 0):=by
 rw [Q31];simp [Qm,List.map_replicate]
def Aj (l:List Nat):ByteArray:=⟨(l.map UInt8.ofNat).toArray⟩
theorem Q8t (l:List Nat):(Aj l).size=l.length:=by simp [Aj,ByteArray.size]
theorem Hc {P:Program} {w:World} {g:Nat} {E:TypeId} {xs:List Nat} (hR:Row w g E (u8s xs)) (src e dst n cap:Nat) (hn:n≤xs.length)
  (hs:P.underlying src=some (.slice e)) (he:P.underlying e=some (.int .u8)) (hd:P.underlying dst=some .string) :
  (convert src dst (.slice (some ⟨g,0,none⟩) n cap)).run P w = .ok (.string (Aj (xs.take n))) w:=by
 have h:=run_convert_bytes_arg (P:=P) w src e hs he g 0 n cap ((xs.take n).map Int.ofNat) (by simp;omega) (fun i hi=>by
  rw [Nat.zero_add]
  have he:((xs.take n).map Int.ofNat).getD i 0=((xs[i]'(by omega):Nat):Int):=by
   simp [List.getD_eq_getElem?_getD,hi,show i<xs.length by omega]
  rw [he]
  exact hR.cell (Q1k xs i _ (List.getElem?_eq_getElem (by omega)))) dst hd
 rw [h]
 congr 2
 simp [strOfNums,Aj,Function.comp_def]
/-! ### Regions that draw their order -/
theorem Oy {P:Program} {ops:Array Oper} {w:World} {Q:Act→Prop}:∀ (l:List Oper) (a:Act),
  wpQuiet P ops (fun w'=>w'=w) Q l a→wpStill P ops w Q l a
 | [],_,h=>h
 | o::rest,a,h=>by
  unfold wpQuiet at h
  unfold wpStill
  by_cases hw:Region.wanted o (yielded ops a.tmps)=true
  ·simp only [hw,if_true] at h ⊢
   obtain ⟨v,h1,h2⟩:=h
   have h3:=h1 w rfl
   have h4:=Oy rest _ h2
   unfold Oper.quietAt at h3
   unfold Oper.still
   generalize (execOp a.eval o).run P w=r at *
   cases r with
   | ok n w' =>
    cases n<;>simp only [Oper.quietUpon] at h3<;>simp only [Oper.stillUpon]
    case value u=>obtain ⟨e1,e2⟩:=h3;subst e1;subst e2;exact ⟨rfl,h4⟩
    case skip=>obtain ⟨e1,e2⟩:=h3;subst e1;subst e2;exact ⟨rfl,h4⟩
    case enter f args=>obtain ⟨e1,hc⟩:=h3;subst e1;exact ⟨rfl,v,hc,h4⟩
   | halt x w'=>simp only [Oper.quietUpon] at h3
  ·simp only [Bool.not_eq_true] at hw
   simp only [hw,Bool.false_eq_true,if_false] at h ⊢
   exact Oy rest _ h
theorem Vz {P:Program} {id:Nat} {Q:Exit→Act→World→Prop} {a:Act} {w:World} {l:List Oper} (n:Nat) (hm:P.follows .mixedOrders=true) (hB:Region.lexTailB .any l.toArray n=true)
  (h:wpQuiet P l.toArray (fun w'=>w'=w.drew) (fun a'=>wpList P l.toArray Q (l.drop n) a' w.drew) (l.take n) a):(Code.region id l.toArray true).wp P Q a w :=
 wp_region_still_tail n hm hB (Oy _ _ h)
end
/- Regions that draw their order,whose operations read and whose callees lay blocks of their own: one walk serves every order. -/
section
open Go.RowKit
section
variable {P:Program} {ops:Array Oper} {md:Region.Mode} {C:World→Prop}
def HeadQ (P:Program) (md:Region.Mode) (ops:Array Oper) (C:World→Prop) (n:Nat) (L:Array Bool→Act→Prop):Nat→Array Bool→Act→Prop
 | 0,s,a=>L s a
 | f+1,s,a=>Region.ready md ops s≠[]∧∀ i∈Region.ready md ops s,i<n∧qOp P ops C i (HeadQ P md ops C n L f (s.setIfInBounds i true)) a
theorem HeadQ.any {n g:Nat} {L:Array Bool→Act→Prop} {Q':Exit→Act→World→Prop} (hL:∀ s a w,C w→L s a→wpAny P md ops Q' g s a w) :
  ∀ (f:Nat) (s:Array Bool) (a:Act) (w:World),C w→HeadQ P md ops C n L f s a→wpAny P md ops Q' (f+g) s a w
 | 0,s,a,w,hw,h=>by rw [Nat.zero_add];exact hL _ _ _ hw h
 | f+1,s,a,w,hw,h=>by
  rw [show f+1+g=(f+g)+1 by omega]
  exact ⟨fun h0=>absurd h0 h.1,fun i hi=>wpOp_of_qOp hw (fun a' w' hw' h'=>HeadQ.any hL f _ a' w' hw' h') (h.2 i hi).2⟩
theorem HeadQ.first {n i:Nat} {oi:Oper} {v:Value} {L:Array Bool→Act→Prop} (hi:ops[i]?=some oi) (hsel:∀ (j:Nat) (o:Oper) cs b,ops[j]?=some o→o.op≠.select cs b)
  (hs:Region.sinkB md ops n=true) (hc:Region.chainB md ops n=true) (hn:n<ops.size) (hin:i<n) (hdone:∀ s a,L s a→∀ j∈Region.ready md ops s,n≤j) (f:Nat) :
  ∀ (s:Array Bool) (a:Act),HeadInv md ops n s →
   (∀ j oj,ops[j]?=some oj→j≠i→s.getD j true=false→(∀ e∈oj.after,Region.binds md e=true→e.on≠i)→oi.apart ops oj=true) →
   i∈Region.ready md ops s→YieldsIn P ops C oi v a→HeadQ P md ops C n L f (s.setIfInBounds i true) (a.put oi.dst v)→HeadQ P md ops C n L (f+1) s a:=by
 induction f with
 | zero =>
  intro s a inv _ hr hy H
  refine ⟨List.ne_nil_of_mem hr,fun j hj=>?_⟩
  have hjn:j<n:=Nat.lt_of_not_le fun h=>tail_waits hs hc hn inv _ i rfl hin (mem_ready.1 hr).1 j h hj
  refine ⟨hjn,?_⟩
  rcases Decidable.em (j=i) with rfl | hji
  ·exact hy.qOp hi H
  ·exact absurd (hdone _ _ H j (ready_mono hj hji)) (by omega)
 | succ f ih =>
  intro s a inv hfree hr hy H
  have hun:=(mem_ready.1 hr).1
  refine ⟨List.ne_nil_of_mem hr,fun j hj=>?_⟩
  have hjn:j<n:=Nat.lt_of_not_le fun h=>tail_waits hs hc hn inv _ i rfl hin hun j h hj
  refine ⟨hjn,?_⟩
  rcases Decidable.em (j=i) with rfl | hji
  ·exact hy.qOp hi H
  ·obtain ⟨hjun,oj,hoj,hall⟩:=mem_ready.1 hj
   have hnot:∀ e∈oj.after,Region.binds md e=true→e.on≠i:=fun e he hb heq=>by
    have:=hall e he hb
    rw [heq,getD_both hun] at this
    cases this
   have h2:=qOp_put hoj (hfree j oj hoj hji hjun hnot) (fun cs b=>hsel i oi cs b hi) (fun cs b=>hsel j oj cs b hoj) hy (H.2 j (ready_mono hj hji)).2
   refine qOp_mono (fun a' h3=>ih (s.setIfInBounds j true) a' (inv.set hj hjn) (fun k ok hk hki hu hno=>hfree k ok hk hki ?_ hno) (ready_mono hr (Ne.symm hji)) h3.1 ?_) h2
   ·rcases Decidable.em (j=k) with rfl | hjk
    ·exact hjun
    ·rwa [getD_set_ne true hjk] at hu
   ·rw [Array.setIfInBounds_comm _ _ hji];exact h3.2
theorem HeadQ.lex {n g:Nat} {Lq:Act→Prop} (hsel:Region.noSelect ops=true) (hs:Region.sinkB md ops n=true) (hc:Region.chainB md ops n=true) (hn:n<ops.size) :
  ∀ (l:List Oper) (k:Nat) (s:Array Bool) (a:Act),(∀ j,j<l.length→l[j]?=ops[k+j]?)→k+l.length=n→HeadInv md ops n s→Region.lexHead md ops g l.length k s=true →
  wpQuiet P ops C Lq l a→HeadQ P md ops C n (fun s' a'=>Region.seqB md ops g n s'=true∧Lq a') l.length s a
 | [],k,s,a,_,hk,_,hB,h=>by
  obtain rfl:k=n:=by simpa using hk
  exact ⟨by simpa [Region.lexHead] using hB,h⟩
 | o::l,k,s,a,hl,hk,inv,hB,h=>by
  have h0:ops[k]?=some o:=by simpa using (hl 0 (by simp)).symm
  simp only [List.length_cons,Region.lexHead,Bool.and_eq_true] at hB
  have hkn:k<n:=by simp only [List.length_cons] at hk;omega
  have hr':k∈Region.ready md ops s:=by simpa using hB.1.1
  obtain ⟨v,hy,hK⟩:=yieldsIn_of_qOp h0 (show qOp P ops C k (wpQuiet P ops C Lq l) a by unfold qOp;simp only [h0];exact h)
  exact HeadQ.first h0 (Region.noSelect_spec hsel) hs hc hn hkn (fun _ _ hL=>seqB_ready hL.1) l.length s a inv (Region.free_spec h0 hB.1.2) hr' hy
   (HeadQ.lex hsel hs hc hn l (k+1) _ _ (fun j hj=>by have:=hl (j+1) (by simp;omega);simpa [Nat.add_assoc,Nat.add_comm 1 j] using this) (by simp only [List.length_cons] at hk;omega) (inv.set hr' hkn) hB.2 hK)
end
structure Extra where
 blocks:Array Obj
 drawn:Nat
 deriving Inhabited
def plus (w:World) (p:Extra):World:={ w with heap:=w.heap++p.blocks,drawn:=p.drawn }
theorem W7 {w w':World} (h:Below w.heap.size w w'):∃ p,w'=plus w p:=by
 refine ⟨⟨w'.heap.extract w.heap.size,w'.drawn⟩,?_⟩
 obtain ⟨h1,h2,h3,h4,h5⟩:=h
 cases w' with
 | mk heap tape drawn os output =>
  simp only at h1 h2 h3 h4 h5
  subst h1 h2 h3
  unfold plus
  congr
  apply Array.ext_getElem?
  intro i
  rcases Nat.lt_or_ge i w.heap.size with hi | hi
  ·rw [Array.getElem?_append_left hi];exact h5 i hi
  ·rw [Array.getElem?_append_right hi,Array.getElem?_extract]
   rcases Nat.lt_or_ge i heap.size with hj | hj
   ·rw [if_pos (by simp;omega)];congr 1;omega
   ·rw [if_neg (by simp;omega)];exact Array.getElem?_eq_none hj
theorem Ko (w:World) (p:Extra):Below w.heap.size w (plus w p) :=
 ⟨rfl,rfl,rfl,by simp [plus],fun k hk=>by simp only [plus];exact Array.getElem?_append_left hk⟩
theorem Q4v (w:World) (p:Extra):w.heap.size≤(plus w p).heap.size:=(Ko w p).size
theorem Ou {w:World} {b o:Nat} {v:Value} (h:w.cell? ⟨b,o,none⟩=some v) (hb:b<w.heap.size) (p:Extra):(plus w p).cell? ⟨b,o,none⟩=some v:=Q8 (Ko w p) hb h
theorem Ww {P:Program} {f:FuncId} {args:Array Value} {w:World} {p:Extra} {v:Value} (h:Calls P f args (plus w p) fun e w'=>e = .returned v∧Below (plus w p).heap.size (plus w p) w') :
  Calls P f args (plus w p) fun e w''=>e = .returned v∧∃ q,w''=plus w q :=
 h.mono fun _ _ ⟨he,hb⟩=>⟨he,W7 ((Ko w p).trans (hb.mono (Q4v w p)))⟩
end
end Go.Proofs.YtcpehljpegfckaaGreatDoor
