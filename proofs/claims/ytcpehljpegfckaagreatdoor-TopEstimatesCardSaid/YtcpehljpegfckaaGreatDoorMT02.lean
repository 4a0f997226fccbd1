/- Texts of this claim,joined: CK. -/
import Derived.Test.YtcpehljpegfckaaGreatDoorMT01
import Derived.Lib.SlicesCompact
/- Clauses in normal form,in plain Lean: what lit.Clause and compile.normal leave. -/
namespace Go.Proofs.YtcpehljpegfckaaGreatDoor
theorem Q7i {d:Array Int} {m:Nat}:∀ j,j<m→d[j]!∈Lib.compactUpTo d m:=by
 intro j
 induction j with
 | zero=>exact fun h=>List.mem_map.2 ⟨0,List.mem_filter.2 ⟨List.mem_range.2 h,by simp [Lib.keeps]⟩,rfl⟩
 | succ j ih =>
  intro h
  by_cases hk:Lib.keeps d (j+1)=true
  ·exact List.mem_map.2 ⟨j+1,List.mem_filter.2 ⟨List.mem_range.2 h,hk⟩,rfl⟩
  ·have e:d[j+1]! = d[j]!:=by
    apply Decidable.not_not.1
    intro hn
    exact hk (Lib.keeps_pos (m:=j+1) hn)
   rw [e]
   exact ih (by omega)
theorem Q8a {zs:List Int} {x:Int}:x∈Lib.compact zs↔x∈zs:=by
 constructor
 ·intro h
  unfold Lib.compact Lib.compactUpTo at h
  obtain ⟨j,hj,rfl⟩:=List.mem_map.1 h
  have hj':=List.mem_range.1 (List.mem_filter.1 hj).1
  rw [getElem!_pos zs.toArray j (by simpa using hj')]
  simp
 ·intro h
  obtain ⟨j,hj,rfl⟩:=List.mem_iff_getElem.1 h
  have:=Q7i (d:=zs.toArray) (m:=zs.length) j hj
  rw [getElem!_pos zs.toArray j (by simpa using hj)] at this
  simpa [Lib.compact] using this
theorem Q7c {c d:List Int} (h:∀ x,x∈c↔x∈d) (a:Asg):clB a c=clB a d:=by
 unfold clB
 apply Bool.eq_iff_iff.2
 rw [List.any_eq_true,List.any_eq_true]
 exact ⟨fun ⟨x,hx,k⟩=>⟨x,(h x).1 hx,k⟩,fun ⟨x,hx,k⟩=>⟨x,(h x).2 hx,k⟩⟩
theorem Q8g {c:List Int} {x:Int} (hx:x∈c) (hy:-x∈c) (h0:x≠0) (a:Asg):clB a c=true:=by
 unfold clB
 rw [List.any_eq_true]
 cases h:liB a x with
 | true=>exact ⟨x,hx,h⟩
 | false=>exact ⟨-x,hy,by rw [Q1f h0,h];rfl⟩
structure NormOf (L M:List (List Int)):Prop where
 from':∀ d∈M,∃ c∈L,∀ x,x∈d↔x∈c
 kept:∀ c∈L,(∃ d∈M,∀ x,x∈d↔x∈c)∨∃ x,x∈c∧-x∈c∧x≠0
theorem NormOf.th {L M:List (List Int)} (h:NormOf L M) (a:Asg):thB a M=thB a L:=by
 apply Bool.eq_iff_iff.2
 unfold thB
 rw [List.all_eq_true,List.all_eq_true]
 constructor
 ·intro k c hc
  rcases h.kept c hc with ⟨d,hd,e⟩ | ⟨x,h1,h2,h0⟩
  ·rw [←Q7c e a];exact k d hd
  ·exact Q8g h1 h2 h0 a
 ·intro k d hd
  obtain ⟨c,hc,e⟩:=h.from' d hd
  rw [Q7c e a];exact k c hc
theorem NormOf.ok {n:Nat} {L M:List (List Int)} (h:NormOf L M) (hL:Hl n L):Hl n M:=fun d hd x hx=>by
 obtain ⟨c,hc,e⟩:=h.from' d hd
 exact hL c hc x ((e x).1 hx)
theorem NormOf.same {L M M':List (List Int)} (h:NormOf L M) (hs:SameC M' M):NormOf L M' :=
 ⟨fun d hd=>h.from' d ((hs d).1 hd),fun c hc=>(h.kept c hc).imp (fun ⟨d,hd,e⟩=>⟨d,(hs d).2 hd,e⟩) id⟩
theorem NormOf.add {L M:List (List Int)} (h:NormOf L M) {c d:List Int} (e:∀ x,x∈d↔x∈c):NormOf (L++[c]) (M++[d]):=by
 refine ⟨fun b hb=>?_,fun b hb=>?_⟩
 ·rcases List.mem_append.1 hb with hb | hb
  ·obtain ⟨c2,hc,k⟩:=h.from' b hb
   exact ⟨c2,by simp [hc],k⟩
  ·obtain rfl:b=d:=by simpa using hb
   exact ⟨c,by simp,e⟩
 ·rcases List.mem_append.1 hb with hb | hb
  ·exact (h.kept b hb).imp (fun ⟨d2,hd,k⟩=>⟨d2,by simp [hd],k⟩) id
  ·obtain rfl:b=c:=by simpa using hb
   exact .inl ⟨d,by simp,e⟩
theorem NormOf.skip {L M:List (List Int)} (h:NormOf L M) {c:List Int} {x:Int} (h1:x∈c) (h2:-x∈c) (h0:x≠0):NormOf (L++[c]) M:=by
 refine ⟨fun b hb=>?_,fun b hb=>?_⟩
 ·obtain ⟨c2,hc,k⟩:=h.from' b hb
  exact ⟨c2,by simp [hc],k⟩
 ·rcases List.mem_append.1 hb with hb | hb
  ·exact h.kept b hb
  ·obtain rfl:b=c:=by simpa using hb
   exact .inr ⟨x,h1,h2,h0⟩
/-! ### Clauses in a row: the same literals once -/
def Ad:Cp→List Cp→List Cp
 | _,[]=>[]
 | l,c::cs=>if c.1=l.1 then Ad c cs else c::Ad c cs
def Q45:List Cp→List Cp
 | []=>[]
 | c::cs=>c::Ad c cs
theorem Q0n:∀ (l:Cp) (cs:List Cp),(Ad l cs).Sublist cs
 | _,[]=>List.Sublist.refl _
 | l,c::cs=>by
  rw [Ad]
  split
  ·exact (Q0n c cs).cons _
  ·exact (Q0n c cs).cons_cons _
theorem Q4t:∀ (l:Cp) (cs:List Cp),∀ d∈cs,d.1=l.1∨∃ e∈Ad l cs,e.1=d.1
 | l,c::cs,d,hd=>by
  rw [Ad]
  rcases List.mem_cons.1 hd with rfl | hd
  ·by_cases e:d.1=l.1
   ·exact .inl e
   ·rw [if_neg e];exact .inr ⟨d,by simp,rfl⟩
  ·have ih:=Q4t c cs d hd
   by_cases e:c.1=l.1
   ·rw [if_pos e]
    exact ih.imp (fun h=>h.trans e) id
   ·rw [if_neg e]
    rcases ih with h | ⟨k,hk,h⟩
    ·exact .inr ⟨c,by simp,h.symm⟩
    ·exact .inr ⟨k,by simp [hk],h⟩
theorem compC_sub (cs:List Cp):(Q45 cs).Sublist cs:=by
 cases cs with
 | nil=>exact List.Sublist.refl _
 | cons c cs=>exact (Q0n c cs).cons_cons _
theorem Q9e (cs:List Cp):SameC (litsC (Q45 cs)) (litsC cs):=fun c=>by
 constructor
 ·intro h
  obtain ⟨p,hp,rfl⟩:=List.mem_map.1 h
  exact List.mem_map.2 ⟨p,(compC_sub cs).subset hp,rfl⟩
 ·intro h
  obtain ⟨p,hp,rfl⟩:=List.mem_map.1 h
  cases cs with
  | nil=>cases hp
  | cons d cs =>
   rcases List.mem_cons.1 hp with rfl | hp
   ·exact List.mem_map.2 ⟨p,by simp [Q45],rfl⟩
   ·rcases Q4t d cs p hp with e | ⟨k,hk,e⟩
    ·exact List.mem_map.2 ⟨d,by simp [Q45],e.symm⟩
    ·exact List.mem_map.2 ⟨k,by simp [Q45,hk],e⟩
end Go.Proofs.YtcpehljpegfckaaGreatDoor
