/- Texts of this claim,joined: EC3. -/
import Derived.Test.YtcpehljpegfckaaGreatDoorMT42
import Derived.Deep.DeepCutAuto
/- censustop.chapter. -/
namespace Go.Proofs.YtcpehljpegfckaaGreatDoor
open Go.RowKit
def Wf:List (List Int):=[[1,2],[-1,3]]
theorem Tryz.sizeTheory:(Tryz.prog.info? 24).map (·.size)=some 2:=by kernel_rfl
set_option maxHeartbeats 1600000 in
set_option maxRecDepth 100000 in
theorem gChapter (w:World):Calls Tryz.prog 15 #[] w fun e w'=>∃ g,e = .returned (.agg #[.int .i64 3,.slice (some ⟨g,0,none⟩) 2 2])∧ThAt w'.heap.size w' (some ⟨g,0,none⟩) Wf∧Below w.heap.size w w':=by
 go_enter Tryz.func15,Tryz.ntmps15
 go_upto_region 1 with fail
 refine Qg ?_
 intro w1 hw1
 have S1:=Lib.hid (show w1.heap[w.heap.size]?=some (.cells #[.int .i64 0,.slice none 0 0] 24 (0,0)) by rw [hw1];exact Qn _ _)
 have HL1:=Lib.hid (show Below w.heap.size w w1 by rw [hw1];exact Qe _ _)
 have hs1:w.heap.size<w1.heap.size:=Q9 S1.out
 clear hw1
 have q0:=Q8 (Yq w1 (.cells #[.int .i64 1,.int .i64 2] 3) (.cells #[.int .i64 (-1),.int .i64 3] 3) (.cells #[.slice (some ⟨w1.heap.size,0,none⟩) 2 2,.slice (some ⟨w1.heap.size+1,0,none⟩) 2 2] 51)) hs1 (Q5 S1.out 0 rfl)
 have q1:=Q8 (Yq w1 (.cells #[.int .i64 1,.int .i64 2] 3) (.cells #[.int .i64 (-1),.int .i64 3] 3) (.cells #[.slice (some ⟨w1.heap.size,0,none⟩) 2 2,.slice (some ⟨w1.heap.size+1,0,none⟩) 2 2] 51)) hs1 (Q5 S1.out 1 rfl)
 have K:=(Q4 (Yq w1 (.cells #[.int .i64 1,.int .i64 2] 3) (.cells #[.int .i64 (-1),.int .i64 3] 3) (.cells #[.slice (some ⟨w1.heap.size,0,none⟩) 2 2,.slice (some ⟨w1.heap.size+1,0,none⟩) 2 2] 51))).keep S1.out (by simp)
 have f0:=Qd K 0
 have f1:=Qd K 1
 go_wp2_with fail
 refine bodyPost_ret (Qs (p:=0) rfl _ _ w.heap.size _ _ (0,0) _ rfl (Zg K) Tryz.underlying24 rfl Tryz.sizeTheory) rfl ?_
 have hT:=Yg w1 (.cells #[.int .i64 1,.int .i64 2] 3) (.cells #[.int .i64 (-1),.int .i64 3] 3) (.cells #[.slice (some ⟨w1.heap.size,0,none⟩) 2 2,.slice (some ⟨w1.heap.size+1,0,none⟩) 2 2] 51)
 have hbe:=(behindSet (w:=((w1.alloc (.cells #[.int .i64 1,.int .i64 2] 3)).alloc (.cells #[.int .i64 (-1),.int .i64 3] 3)).alloc (.cells #[.slice (some ⟨w1.heap.size,0,none⟩) 2 2,.slice (some ⟨w1.heap.size+1,0,none⟩) 2 2] 51)) (b:=w.heap.size) (o:=0) (v:=.int .i64 3)).trans (behindSet (b:=w.heap.size) (o:=1) (v:=.slice (some ⟨w1.heap.size+1+1,0,none⟩) 2 2)) (fun _ hk=>.inl hk)
 have h1:=hbe.keep hT.1 (by simp;omega)
 have h2:=hbe.keep hT.2.1 (by simp;omega)
 have h3:=hbe.keep hT.2.2 (by simp;omega)
 refine ⟨_,rfl,?_,HL1.out.trans ((Yq w1 _ _ _).mono HL1.out.size |>.trans (hbe.below_of (fun k hk=>by simp at hk;omega) (by simp;omega)))⟩
 intro i xs hi
 have hil:=(List.getElem?_eq_some_iff.1 hi).1
 simp only [Wf,List.length_cons,List.length_nil] at hil
 rcases (show i=0∨i=1 by omega) with rfl | rfl
 ·obtain rfl:[1,2]=xs:=by simpa [Wf] using hi
  refine ⟨_,0,some ⟨w1.heap.size,0,none⟩,2,Q9 h3,rfl,Q5 h3 0 rfl,fun j v hv=>?_⟩
  have hjl:=(List.getElem?_eq_some_iff.1 hv).1
  simp [Qm] at hjl
  rcases (show j=0∨j=1 by omega) with rfl | rfl
  ·obtain rfl:Value.int .i64 1=v:=by simpa [Qm] using hv
   exact ⟨_,0,Q9 h1,rfl,Q5 h1 0 rfl⟩
  ·obtain rfl:Value.int .i64 2=v:=by simpa [Qm] using hv
   exact ⟨_,0,Q9 h1,rfl,Q5 h1 1 rfl⟩
 ·obtain rfl:[-1,3]=xs:=by simpa [Wf] using hi
  refine ⟨_,0,some ⟨w1.heap.size+1,0,none⟩,2,Q9 h3,rfl,Q5 h3 1 rfl,fun j v hv=>?_⟩
  have hjl:=(List.getElem?_eq_some_iff.1 hv).1
  simp [Qm] at hjl
  rcases (show j=0∨j=1 by omega) with rfl | rfl
  ·obtain rfl:Value.int .i64 (-1)=v:=by simpa [Qm] using hv
   exact ⟨_,0,Q9 h2,rfl,Q5 h2 0 rfl⟩
  ·obtain rfl:Value.int .i64 3=v:=by simpa [Qm] using hv
   exact ⟨_,0,Q9 h2,rfl,Q5 h2 1 rfl⟩
end Go.Proofs.YtcpehljpegfckaaGreatDoor
