/- Texts of this claim,joined: DF5. -/
import Derived.Test.YtcpehljpegfckaaGreatDoorMT24
import Derived.Test.YtcpehljpegfckaaGreatDoorMT40
import Derived.RangeFuncBox
import Derived.Maps.AppendAt
/- vars.First. -/
namespace Go.Proofs.YtcpehljpegfckaaGreatDoor
open Go.RowKit Go.Shelf
attribute [local go_sem] Oper.semAt_some
def Vi (o:Nat→Bool):Nat:=(Jt o).getD 0 0
theorem Q1p {P:Program} {fn:Func} {p:Tmp} {ty:TypeId} (h:fn.results=#[.cell p ty]) (tmps:Array Value) (w:World) (b:Nat) (v:Value)
  (hp:tmps.getD p undef = .pointer (some ⟨b,0,none⟩)) (ha:(isAgg ty).run P w = .ok false w) (hc:w.cell? ⟨b,0,none⟩=some v) :
  (results fn tmps).run P w = .ok v w:=by
 have hp':tmps[p]?.getD undef = .pointer (some ⟨b,0,none⟩):=by simpa using hp
 simp [results,h,hp',asAddr,Vd (P:=P) w ty b 0 v ha hc]
theorem intAgg (w:World):(isAgg 3).run Tryz.prog w = .ok false w:=by unfold isAgg;rw [Sem.run_bind,run_underlying Tryz.underlying3 w];rfl
set_option maxRecDepth 100000 in
set_option maxHeartbeats 2000000 in
theorem gFirst_in (n:Nat) (hn:3≤n) (o:Nat→Bool) (ho:∀ v,13≤v→o v=false) {N:Nat} (w:World) (hT:TzTab N w) (hN:N≤w.heap.size) :
  CallsIn Fence.wide n Tryz.prog 91 #[Qt o] w fun e w'=>e = .returned (.int .i64 (Vi o:Nat))∧Below w.heap.size w w':=by
 have h1:1≤n:=by omega
 have hhi:=Q69 ho
 unfold Qt Jz
 rw [hhi]
 refine callsIn_of_wp_marks Tryz.func91 rfl trivial ?_ rfl
 simp only [Tryz.ntmps91,List.size_toArray,List.length_cons,List.length_nil,Nat.reduceAdd,Nat.reduceSub,Array.replicate_succ,Array.replicate_zero,List.push_toArray,List.append_toArray,List.nil_append,List.cons_append]
 have KM:=fun x=>Q10 o x
 unfold Qt Jz at KM
 rw [hhi] at KM
 gi_wp2
 refine ⟨trivial,CallsIn.mono (callsIn_wide.2 (KM _)) ?_⟩
 rintro e w' ⟨rfl,rfl⟩
 clear KM
 gi_wp2
 have bO:=(Boxed.new (w.alloc (.cells #[.int .u64 (loW o:Nat),.int .u64 0] 55)) 3 (.int .i64 0)).alloc (.cells #[.int .u64 (loW o:Nat),.int .u64 ((0:Nat):Int)] 55)
 have hB0:Below w.heap.size w (((w.alloc (.cells #[.int .u64 (loW o:Nat),.int .u64 0] 55)).alloc (.cells #[.int .i64 0] 3)).alloc (.cells #[.int .u64 (loW o:Nat),.int .u64 ((0:Nat):Int)] 55)):=Yq w _ _ _
 have hbox:=(Yg w (.cells #[.int .u64 (loW o:Nat),.int .u64 0] 55) (.cells #[.int .i64 0] 3) (.cells #[.int .u64 (loW o:Nat),.int .u64 ((0:Nat):Int)] 55)).2.2
 rw [World.size_alloc] at bO
 refine wpIn_rangeFunc_ownG rfl h1 (gf:=123) (lb:=#[.pointer (some ⟨w.heap.size+1+1,0,none⟩)]) rfl trivial (enters_of Tryz.func123 (by kernel_rfl) rfl)
  (Wg (n-1) (by omega) (w.heap.size+1+1) w.heap.size o ho _ (by simp) (by simp;omega) hbox ((hT.on (hB0.mono hN) (Nat.le_refl _)).on (Below.refl _ _) hN)) belowK_t (belowK_b (by simp;omega)) (Below.refl _ _) (fun _=>rfl)
  (fun pre W=>(pre=[]∧Boxed W (w.heap.size+1) 3 (.int .i64 0))∧Below w.heap.size w W)
  (fun c pre W=>((c = .ret∧pre.length=1)∧Boxed W (w.heap.size+1) 3 (.int .i64 ((pre.getD 0 0:Nat):Int)))∧Below w.heap.size w W)
  (OwnFrom.and (OwnFrom.and (ownFrom_pure _ (fun pre:List Nat=>pre=[])) (Own.from (boxed_own (w.heap.size+1) 3 (fun _:List Nat=>.int .i64 0)) _)) (ownFrom_below (Nat.le_refl _) (by simp;omega)))
  (fun c=>OwnFrom.and (OwnFrom.and (ownFrom_pure _ (fun pre:List Nat=>c = .ret∧pre.length=1)) (Own.from (boxed_own (w.heap.size+1) 3 (fun pre:List Nat=>.int .i64 ((pre.getD 0 0:Nat):Int))) _)) (ownFrom_below (Nat.le_refl _) (by simp;omega)))
  ⟨⟨rfl,bO⟩,hB0⟩
  (fun x=>{ tmps:=#[.agg #[.int .u64 (loW o:Nat),.int .u64 0],.pointer (some ⟨w.heap.size,0,none⟩),.pointer (some ⟨w.heap.size+1,0,none⟩),.int .i64 (x:Int),.agg #[.int .u64 (loW o:Nat),.int .u64 0],.func (.func 123) #[] #[.pointer (some ⟨w.heap.size+1+1,0,none⟩)],.int .i64 (x:Int),undef],defers:=[] }) ?assign ?body ?done ?stop
 case assign =>
  intro l x W K hK
  gi_wp2
  exact hK
 case body =>
  rintro l pre x W ⟨⟨rfl,hv⟩,hB⟩ hlt
  have hc:=hv.cell
  have hf:=hv.frozen
  gi_wp2
  exact ⟨(KeepsOthers.setCell _ _ _).from _,⟨⟨rfl,rfl⟩,hv.set _⟩,hB.setCell (p:=⟨w.heap.size+1,0,none⟩) (by simp) _⟩
 case done =>
  rintro D ys W hD rfl ⟨⟨hy,hv⟩,hB⟩ hK
  have hc:=hv.cell
  have hf:=hv.frozen
  have hne:w.heap.size+1≠D:=by simp at hD;omega
  have hK2:(W.setCell ⟨w.heap.size+1,0,none⟩ (.int .i64 0)).heap[D]?=some (.deferred (some [])):=(KeepsOthers.setCell _ _ _).same D _ hK rfl
  have hv2:Boxed ((W.setCell ⟨w.heap.size+1,0,none⟩ (.int .i64 0)).putObj D (.deferred none)) (w.heap.size+1) 3 (.int .i64 0):=(World.putObj_heap_other hne).trans (hv.set _)
  have hB2:Below w.heap.size w (W.setCell ⟨w.heap.size+1,0,none⟩ (.int .i64 0)):=hB.setCell (p:=⟨w.heap.size+1,0,none⟩) (by simp) _
  have h0:Vi o=0:=by unfold Vi;rw [hy];rfl
  gi_wp2
  refine ⟨by simp,.inl ⟨_,_,rfl,run_takeDeferred hK2,?_⟩⟩
  exact ⟨_,Q1p (p:=2) rfl _ _ (w.heap.size+1) _ rfl (intAgg _) hv2.cell,by rw [h0];rfl,hB2.trans (belowK_b (w:=w) (Nat.le_refl _) _ D _ _ (by simp at hD;omega) hK2 rfl rfl)⟩
 case stop =>
  rintro D c pre W hD ⟨hpf,hne⟩ ⟨⟨⟨rfl,hl⟩,hv⟩,hB⟩ hK
  have hneD:w.heap.size+1≠D:=by simp at hD;omega
  have hv2:Boxed (W.putObj D (.deferred none)) (w.heap.size+1) 3 (.int .i64 ((pre.getD 0 0:Nat):Int)):=(World.putObj_heap_other hneD).trans hv
  have h0:Vi o=pre.getD 0 0:=by
   obtain ⟨r,hr⟩:=hpf
   unfold Vi
   rw [←hr]
   cases pre with
   | nil=>exact absurd rfl hne
   | cons a b=>rfl
  gi_wp2
  refine ⟨by simp,.inl ⟨_,_,rfl,run_takeDeferred hK,?_⟩⟩
  exact ⟨_,Q1p (p:=2) rfl _ _ (w.heap.size+1) _ rfl (intAgg _) hv2.cell,by rw [h0],hB.trans (belowK_b (w:=w) (Nat.le_refl _) W D _ _ (by simp at hD;omega) hK rfl rfl)⟩
theorem gFirst (o:Nat→Bool) (ho:∀ v,13≤v→o v=false) {N:Nat} (w:World) (hT:TzTab N w) (hN:N≤w.heap.size) :
  Calls Tryz.prog 91 #[Qt o] w fun e w'=>e = .returned (.int .i64 (Vi o:Nat))∧Below w.heap.size w w' :=
 (callsIn_wide (n:=5)).1 (gFirst_in 5 (by omega) o ho w hT hN)
end Go.Proofs.YtcpehljpegfckaaGreatDoor
