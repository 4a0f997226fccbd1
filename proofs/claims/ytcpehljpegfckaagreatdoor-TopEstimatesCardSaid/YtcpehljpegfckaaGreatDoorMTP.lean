/- The statement TopEstimates: the tied card. -/
import Derived.Test.YtcpehljpegfckaaGreatDoorMT16
import Derived.Test.YtcpehljpegfckaaGreatDoorMT51
import Derived.Test.YtcpehljpegfckaaGreatDoorTie
import Derived.Test.YtcpehljpegfckaaGreatDoorCards
namespace Go.Proofs.YtcpehljpegfckaaGreatDoor.topEstimates
open Go.ChangeShapes Go.WideShapes Go.ChangeAt Go.RowKit
set_option maxRecDepth 100000 in
theorem lifted (os:Os) (started:os.Started) (H:Type) (enc:TypeId × Value→H) :
  ReturnsInHanded {} Tryz.checked os 3 .any (fun w args=>(Rows.topEstimatesSpec.pre enc Tryz.prog Tryz.f3 [] false w args∧laidMetH Tryz.prog Rows.topEstimatesRow.laid w)∧sizedMet enc Tryz.prog Tryz.f3 (OpenSpec.ofChange Rows.topEstimatesSpec) false w args)
   (Rows.topEstimatesSpec.post enc Tryz.prog Tryz.f3 false true false false):=by
 refine returnsInHanded_of_change_and (C:=Tryz.checked) (X:=fun w _=>laidMetH Tryz.prog Rows.topEstimatesRow.laid w) (fun _ _ _ hh h=>h.of_heap hh) Tryz.own started (by kernel_rfl) Tryz.func3
  (ChangeSpec.witness_shaped (enc:=enc) (C:=Tryz.checked) (os:=os) (X:=fun w _=>laidMetH Tryz.prog Rows.topEstimatesRow.laid w) false (World.laidAll Tryz.prog os Rows.topEstimatesRow.laid) #[.agg #[.int .i64 0,.slice none 0 0],.bool false,.int .u8 0,.int .u8 0] 8 (World.laidAll_os _ _ _)
   (World.shaped_of_ZipB (by kernel_rfl) (by kernel_rfl)) (by kernel_rfl) (by kernel_rfl) (by kernel_rfl)
   (by rw [MakeChecks.laidMetH_plain _ _ _ (by kernel_rfl)];exact laidMet_laidAll _ (by kernel_rfl) (by kernel_rfl))) ?_
 intro W base args ds gs before hval0 hW _ hwt hL _
 have hval:∀ (j:Nat) t v,Tryz.f3.params[j]?=some t→args[j]?=some v→Value.okWide Tryz.prog W .any base t v:=hval0
 have hW':=hW
 obtain ⟨p,q,hA0,hV,rfl,hfz,hnd⟩:=hW
 have hA:DataW.TrodAll enc Tryz.prog W 0 (fun _=>true) true Tryz.f3.params.toList args.toList ds p:=hA0
 rw [Tryz.params3] at hA hval
 obtain ⟨v0,v1,v2,v3,d0,d1,d2,d3,p0,p1,p2,p3,rfl,rfl,rfl,h0,h1,h2,h3⟩:=trodAll_four hA
 obtain ⟨rfl,rfl⟩:=trodVars_none hV
 clear hA0 hval0 hA hV
 simp only [List.append_nil] at hW'
 obtain ⟨n0,L0,aL0,cL0,rfl,A0⟩:=Q7t (hval 0 24 v0 rfl rfl) h0
 obtain ⟨b1,rfl⟩:=open_bool (hval 1 4 v1 rfl rfl)
 obtain ⟨k2,rfl,kb2⟩:=open_u8 (hval 2 5 v2 rfl rfl) h2
 obtain ⟨k3,rfl,kb3⟩:=open_u8 (hval 3 5 v3 rfl rfl) h3
 have hT:=Q71 hL
 refine (topEst n0 L0 aL0 cL0 b1 k2 k3 kb2 kb3 W hT.1 hT.2 (Nat.le_refl _) A0).mono fun e W' ⟨he,hB⟩=>?_
 subst he
 have hlt:∀ x∈p0++p1++p2++p3,x.block<W.heap.size:=fun x hx=>by simpa using hW'.lt x hx
 refine ⟨_,rfl,[d0,d1,d2,d3],[],p0++p1++p2++p3,[],p0++(p1++(p2++p3)),[],hW',trodAll_mk1 (shut_bool Tryz.underlying4 _),trodAll_mk4 (Hb (by kernel_rfl) (of_decide_eq_true (by kernel_rfl)) h0 hB fun x hx=>hlt x (by simp [hx])) (Hb (by kernel_rfl) (of_decide_eq_true (by kernel_rfl)) h1 hB fun x hx=>hlt x (by simp [hx])) (Hb (by kernel_rfl) (of_decide_eq_true (by kernel_rfl)) h2 hB fun x hx=>hlt x (by simp [hx])) (Hb (by kernel_rfl) (of_decide_eq_true (by kernel_rfl)) h3 hB fun x hx=>hlt x (by simp [hx])),rfl,hB.frame _,fun h=>by cases h⟩
theorem over:Rows.topEstimatesRow.holds Tryz.pinned (OpenSpec.ofChange Rows.topEstimatesSpec) :=
 OpenClaim.holds_of_wide 3 Tryz.f3 rfl rfl rfl rfl rfl rfl rfl ⟨rfl,rfl,rfl,rfl,rfl⟩ rfl rfl rfl rfl rfl (by kernel_rfl) Tryz.func3 (by kernel_rfl)
  (of_decide_eq_true (by kernel_rfl)) (by unfold Func.isWrapper;first | (rw [if_pos (by decide +kernel)];kernel_rfl) | (rw [if_neg (by decide +kernel)];exact ⟨rfl,rfl⟩))
  (fun os started H enc _=>lifted os started H enc)
theorem proved:Rows.TopEstimatesCardSaid :=
 Claim7.holds_tied_plain_at .later [] Rows.topEstimatesCard.laidKinds true Rows.topEstimatesCard.stood.harness true
  over (fun _ h=>by cases h) (by kernel_rfl) (fun _ h=>by cases h) topEstimates_row_tie rfl ⟨rfl,rfl⟩ (by kernel_rfl) rfl
  (fun f fn hf hfn=>by
   obtain rfl:f=3:=Option.some.inj ((show Tryz.prog.funcNamed Rows.topEstimatesRow.func=some 3 by kernel_rfl).symm.trans hf) |>.symm
   obtain rfl:fn=Tryz.f3:=(Option.some.inj (Tryz.func3.symm.trans hfn)).symm
   exact ⟨by kernel_rfl,fun j t ht=>by
    rw [Tryz.params3] at ht
    have hm:t∈([24,4,5,5]:List TypeId):=by simpa using Array.mem_of_getElem? ht
    have hall:(([24,4,5,5]:List TypeId).all fun u=>!Tryz.prog.wantsStandIn u)=true:=by kernel_rfl
    have:=List.all_eq_true.1 hall t hm
    have h3:Tryz.prog.wantsStandIn t=false:=by simpa using this
    exact h3⟩)
  (by kernel_rfl)
#print axioms proved
end Go.Proofs.YtcpehljpegfckaaGreatDoor.topEstimates
