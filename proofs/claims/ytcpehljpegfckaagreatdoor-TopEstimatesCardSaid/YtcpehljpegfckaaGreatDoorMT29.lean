/- Texts of this claim,joined: WSmall,WCmp,WShrink,WGrow,WRead,WBuild,WText,WLen. -/
import Derived.Test.YtcpehljpegfckaaGreatDoorRows
import Derived.Test.YtcpehljpegfckaaGreatDoorMT03
import Derived.Test.YtcpehljpegfckaaGreatDoorMT27
import Derived.Test.YtcpehljpegfckaaGreatDoorMT28
import Derived.Test.YtcpehljpegfckaaGreatDoorMTS
import Derived.WalkKit
import Derived.WalkSpells
import Derived.WalkLawsBesides
import Derived.Lib.Hide
import Derived.Lib.Builder
import Derived.Lib.AppendStr
import Derived.Lib.UnsafeStr
/- Of,Pow2,Uint,Len. -/
namespace Go.Proofs.YtcpehljpegfckaaGreatDoor
section
open Go.RowKit Num
theorem Q3x (n:Nat) (hn:nl n≤1099511627776) (w:World) :
  Calls Tryz.prog 31 #[Qj n] w fun e w' =>
   e = .returned (.slice (some ⟨w.heap.size+1,0,none⟩) (Qa W n).length (Qa W n).length)∧Row w' (w.heap.size+1) 72 (J5 (Qa W n))∧Below w.heap.size w w':=by
 have h:=words_any (nb n) (by rw [Up];exact hn) w
 have e:(nb n).size=(Qa 256 n).length:=Up n
 have e2:((nb n).size+3)/4=(Qa W n).length:=by
  have:=congrArg List.length (Q35 n)
  rw [Zw] at this
  rw [e];exact this
 rw [Q5q,e2] at h
 rw [←e2,e,Q35,←e,e2] at h
 exact h
theorem CellsU.ofRow {w:World} {g:Nat} {E:TypeId} {xs:List Nat} (h:Row w g E (J5 xs)):CellsU w (some ⟨g,0,none⟩) xs:=by
 intro i d hd
 exact ⟨g,0,rfl,by rw [Nat.zero_add];exact h.cell (Qp _ _ _ hd)⟩
theorem digs_two (n:Nat) (_hn:n<18446744073709551616):Qc W [n%4294967296,n/4294967296]=n:=by
 simp [Qc,W];omega
set_option maxHeartbeats 400000 in
set_option maxRecDepth 100000 in
theorem of_any (n:Nat) (hn:n<18446744073709551616) (w:World) :
  Calls Tryz.prog 11 #[.int .u64 n] w fun e w'=>e = .returned (Qj n)∧Below w.heap.size w w':=by
 have HD:=Lib.hid (digs_two n hn)
 have HX:Hid (AllLt W [n%4294967296,n/4294967296]):=AllLt.cons (by unfold W;omega) (AllLt.cons (by unfold W;omega) (AllLt.nil _))
 go_enter Tryz.func11,Tryz.ntmps11
 go_wp2_with fail
 refine (Xf (some ⟨w.heap.size+1,0,none⟩) [n%4294967296,n/4294967296] 2 2 rfl HX.out (by omega) _ ?_).mono ?_
 ·have hR:=Row.new (w.alloc (Obj.cells #[Value.string { data:=#[] }] 38)) 72 (J5 [n%4294967296,n/4294967296])
  have e:(J5 [n%4294967296,n/4294967296]).toArray=#[Value.int IntKind.u32 (↑n%4294967296),Value.int IntKind.u32 (↑n/4294967296)]:=by simp [J5]
  have es:(w.alloc (Obj.cells #[Value.string { data:=#[] }] 38)).heap.size=w.heap.size+1:=by simp
  rw [e,es] at hR
  exact CellsU.ofRow hR
 ·rintro e w' ⟨rfl,hb⟩
  rw [HD.out]
  have hB:Below w.heap.size w w':=(((Below.refl _ _).alloc (Nat.le_refl _) _).alloc (by simp) _).trans (hb.mono (by simp;omega))
  have hbox:w'.cell? ⟨w.heap.size,0,none⟩=some (.string { data:=#[] }):=Q8 hb (by simp;omega) (by simp)
  have hboxf:w'.frozen? ⟨w.heap.size,0,none⟩=false:=by rw [hb.frozen (p:=⟨w.heap.size,0,none⟩) (by simp;omega)];simp
  clear hb
  have HB:=Lib.hid hB
  clear hB
  unfold Qj
  go_wp2
  exact bodyPost_ret (v:=Qj n) (by simp [results,Tryz.results11,go_sem,hbox,Qj]) rfl ⟨rfl,HB.out.setCell (Nat.le_refl _) _⟩
end
/- Cmp,Uint,Pow2. -/
section
open Go.RowKit Num
theorem Q5o {a b:Nat} (h:¬ a=b):¬ (nb a).toList=(nb b).toList:=by
 intro e
 rw [ByteArray.toList_eq,ByteArray.toList_eq] at e
 apply h
 apply nb_inj
 have:(nb a).data=(nb b).data:=Array.toList_inj.1 e
 cases ha:nb a;cases hb:nb b
 rw [ha,hb] at this
 simpa using this
set_option maxHeartbeats 800000 in
set_option maxRecDepth 100000 in
theorem Q01 (a b:Nat) (ha:nl a≤1099511627776) (hb:nl b≤1099511627776) (w:World) :
  Calls Tryz.prog 10 #[Qj a,Qj b] w fun e w'=>e = .returned (.int .i64 (H9 a b))∧Below w.heap.size w w':=by
 have hsa:=Up a
 have hsb:=Up b
 unfold Qj
 by_cases h0:a=b
 ·subst h0
  go_enter Tryz.func10,Tryz.ntmps10
  go_wp2_with fail
  go_ret
  exact ⟨Um (cmpI_eq a).symm,((Below.refl _ _).alloc (Nat.le_refl _) _).alloc (by simp) _⟩
 ·have hne:=Q5o h0
  by_cases hl:nl a=nl b
  ·have hlb:((nl a:Int) != nl b)=false:=by simp [hl]
   have HL:=Lib.hid hl
   have H0:=Lib.hid h0
   clear hl h0
   go_enter Tryz.func10,Tryz.ntmps10
   go_wp2_with fail
   go_loopw [5] (fun i wr=>∃ k:Nat,k≤nl a∧i = .int .i64 ((k:Int)-1)∧(∀ j,k≤j→(Qa 256 a).getD j 0=(Qa 256 b).getD j 0) ∧
     wr.cell? ⟨w.heap.size,0,none⟩=some (.string (nb a))∧wr.cell? ⟨w.heap.size+1,0,none⟩=some (.string (nb b))∧Below w.heap.size w wr)
    (fun i _=>(intOf i+1).toNat)
   case atStart =>
    refine ⟨nl a,Nat.le_refl _,rfl,fun j hj=>?_,by simp [go_sem],by simp [go_sem],((Below.refl _ _).alloc (Nat.le_refl _) _).alloc (by simp) _⟩
    have e1:(Qa 256 a).length≤j:=hj
    have e2:(Qa 256 b).length≤j:=by have:=HL.out;unfold nl at *;omega
    simp [List.getD_eq_getElem?_getD,List.getElem?_eq_none e1,List.getElem?_eq_none e2]
   case round =>
    obtain ⟨k,hk,rfl,heq,hca,hcb,hB⟩:=hrel
    have HE:=Lib.hid heq
    have HB:=Lib.hid hB
    clear heq hB
    by_cases hpos:0<k
    ·have hka:k-1<(nb a).size:=by omega
     have hkb:k-1<(nb b).size:=by have:=HL.out;omega
     have hga:=Q59 a (k-1) hka
     have hgb:=Q59 b (k-1) hkb
     have HLT:=Lib.hid (fun (h1:(Qa 256 a).getD (k-1) 0<(Qa 256 b).getD (k-1) 0)=>Q4j HL.out (k-1) (by omega) h1 (fun j hj=>HE.out j (by omega)))
     have HGT:=Lib.hid (fun (h1:(Qa 256 b).getD (k-1) 0<(Qa 256 a).getD (k-1) 0)=>Q4j HL.out.symm (k-1) (by have:=HL.out;omega) h1 (fun j hj=>(HE.out j (by omega)).symm))
     have HNX:Hid ((Qa 256 a).getD (k-1) 0=(Qa 256 b).getD (k-1) 0→∀ j,k-1≤j→(Qa 256 a).getD j 0=(Qa 256 b).getD j 0):=by
      intro h1 j hj
      by_cases hjk:j=k-1
      ·rw [hjk];exact h1
      ·exact HE.out j (by omega)
     generalize (Qa 256 a).getD (k-1) 0=da at *
     generalize (Qa 256 b).getD (k-1) 0=db at *
     go_wp2_with fail
     go_quiet (fail)
     by_cases h1:da<db
     ·go_wp2
      go_ret
      exact ⟨Um (Q4z (HLT.out h1)).symm,HB.out.drewN _⟩
     ·go_wp2_with fail
      go_quiet (fail)
      by_cases h2:db<da
      ·go_wp2
       go_ret
       exact ⟨Um (cmpI_gt (HGT.out h2)).symm,(HB.out.drewN _).drewN _⟩
      ·go_wp2
       go_roundw
       case rel=>exact ⟨k-1,by omega,by go_num,HNX.out (by omega),by simpa using hca,by simpa using hcb,HB.out.drewN _⟩
       case measure=>simp [intOf];omega
    ·obtain rfl:k=0:=by omega
     exact absurd (eq_of_all HL.out (fun j=>HE.out j (Nat.zero_le _))) H0.out
  ·have hlb:((nl a:Int) != nl b)=true:=by simp;omega
   clear h0
   rcases Nat.lt_or_gt_of_ne hl with h1 | h1
   ·have HR:=Lib.hid (Q4z (Q67 h1))
    clear hl
    go_enter Tryz.func10,Tryz.ntmps10
    go_wp2_with fail
    go_ret
    exact ⟨Um HR.out.symm,((Below.refl _ _).alloc (Nat.le_refl _) _).alloc (by simp) _⟩
   ·have HR:=Lib.hid (cmpI_gt (Q67 h1))
    clear hl
    go_enter Tryz.func10,Tryz.ntmps10
    go_wp2_with fail
    go_ret
    exact ⟨Um HR.out.symm,((Below.refl _ _).alloc (Nat.le_refl _) _).alloc (by simp) _⟩
end
/- shrink,grow. -/
section
open Go.RowKit Num
def Oj (cells:List Nat) (n b k:Nat):List Nat:=cells.take k++(shr W b ((cells.take n).drop k)).1++cells.drop n
theorem Q68 (cells:List Nat) (n b:Nat) (hn:n≤cells.length):Oj cells n b n=cells:=by
 unfold Oj
 rw [List.drop_eq_nil_of_le (by simp;omega)]
 simp [shr]
theorem We (l:List Nat) (b k:Nat) (hk:0<k) (hl:k≤l.length) :
  shr W b (l.drop (k-1))=(((shr W b (l.drop k)).2*W+l.getD (k-1) 0)/b::(shr W b (l.drop k)).1,((shr W b (l.drop k)).2*W+l.getD (k-1) 0)%b):=by
 rw [List.drop_eq_getElem_cons (i:=k-1) (by omega),show k-1+1=k by omega]
 simp only [shr]
 rw [List.getD_eq_getElem?_getD,List.getElem?_eq_getElem (by omega)]
 rfl
theorem Q6i (cells:List Nat) (n b k:Nat) (hn:n≤cells.length) (hk:0<k) (hkn:k≤n) :
  (Oj cells n b k).set (k-1) (((shr W b ((cells.take n).drop k)).2*W+cells.getD (k-1) 0)/b)=Oj cells n b (k-1):=by
 have hl:(cells.take n).length=n:=by simp;omega
 have hg:(cells.take n).getD (k-1) 0=cells.getD (k-1) 0:=by rw [Ya,if_pos (by omega)]
 unfold Oj
 rw [We (cells.take n) b k hk (by omega),hg]
 have h1:cells.take k=cells.take (k-1)++[cells[k-1]'(by omega)]:=by
  have:=List.take_succ_eq_append_getElem (i:=k-1) (l:=cells) (by omega)
  rwa [show k-1+1=k by omega] at this
 rw [h1,List.append_assoc,List.append_assoc,List.set_append_right _ _ (by rw [List.length_take];omega)]
 have h2:k-1-(cells.take (k-1)).length=0:=by rw [List.length_take];omega
 rw [h2]
 simp
theorem Q97 (cells:List Nat) (n b k:Nat) (hn:n≤cells.length) (hk:0<k) (hkn:k≤n):(Oj cells n b k)[k-1]?=some (cells.getD (k-1) 0):=by
 unfold Oj
 rw [List.append_assoc,List.getElem?_append_left (by simp;omega),List.getElem?_take,if_pos (by omega),List.getD_eq_getElem?_getD,List.getElem?_eq_getElem (by omega)]
 rfl
theorem Q9h (r d:Nat) (hr:r<4294967296) (hd:d<4294967296) :
  bits BinOp.or IntKind.u64 ((r:Int)*4294967296) (d:Nat)=(r:Int)*4294967296+d:=by
 have e:(r:Int)*4294967296=((r*4294967296:Nat):Int):=by omega
 rw [e,u64_or_nat _ _ (by omega) (by omega),Nat.or_comm]
 have:=Vc 32 d r (by omega)
 rw [show (2:Nat)^32=4294967296 by decide] at this
 rw [this];omega
set_option maxHeartbeats 400000 in
set_option maxRecDepth 100000 in
theorem Q39 (g E n c b:Nat) (cells:List Nat) (hn:n≤cells.length) (hl:AllLt W cells) (hb0:0<b) (hb:b<4294967296) (hs:n≤1099511627776) (w:World) (hR:Row w g E (J5 cells)) :
  Calls Tryz.prog 32 #[.slice (some ⟨g,0,none⟩) n c,.int .u32 b] w fun e w' =>
   e = .returned (.int .u32 (Qc W (cells.take n)%b:Nat))∧Row w' g E (J5 (Oj cells n b 0))∧w.grownBy w' (some g):=by
 have HR:=Lib.hid hR
 have HL:=Lib.hid hl
 clear hR hl
 go_enter Tryz.func32,Tryz.ntmps32
 go_wp2_with fail
 go_loopw [5,6] (fun r i wr=>∃ k:Nat,k≤n∧i = .int .i64 ((k:Int)-1)∧r = .int .u64 ((shr W b ((cells.take n).drop k)).2:Nat)∧Row wr g E (J5 (Oj cells n b k))∧w.grownBy wr (some g))
  (fun _ i _=>(intOf i+1).toNat)
 case atStart =>
  refine ⟨n,Nat.le_refl _,rfl,?_,by rw [Q68 _ _ _ hn];exact HR.out,World.grownBy.refl _ _⟩
  rw [List.drop_eq_nil_of_le (by simp;omega)];rfl
 case round =>
  obtain ⟨k,hk,rfl,rfl,hR,hG⟩:=hrel
  clear HR
  have HRem:=Lib.hid (Ar W b hb0 ((cells.take n).drop 0)).2
  have hrl:=(Ae W b hb0 ((cells.take n).drop k)).2
  by_cases hpos:0<k
  ·have hd:=HL.out.getD (by decide) (k-1)
   unfold W at hd
   have hc:wr.cell? ⟨g,k-1,none⟩=some (.int .u32 (cells.getD (k-1) 0:Nat)):=hR.cell (Qp _ _ _ (Q97 _ _ _ _ hn hpos hk))
   have hf:wr.frozen? ⟨g,k-1,none⟩=false:=hR.free _
   have HR:=Lib.hid hR
   have HG:=Lib.hid hG
   clear hR hG
   have HST:=Lib.hid (Q6i cells n b k hn hpos hk)
   have HSP:=Lib.hid (congrArg Prod.snd (We (cells.take n) b k hpos (by simp;omega)))
   rw [show (cells.take n).getD (k-1) 0=cells.getD (k-1) 0 by rw [Ya,if_pos (by omega)]] at HSP
   generalize cells.getD (k-1) 0=d at *
   generalize (shr W b ((cells.take n).drop k)).2=r at *
   have hO:=Q9h r d (by omega) hd
   have hq:(r*4294967296+d)/b<4294967296:=by
    rw [Nat.div_lt_iff_lt_mul hb0]
    have:(r+1)*4294967296≤b*4294967296:=Nat.mul_le_mul_right _ hrl
    omega
   have HQ:Hid (((r:Int)*4294967296+d)/b%4294967296=(((r*4294967296+d)/b:Nat):Int)):=by
    have:((r:Int)*4294967296+d)/b=(((r*4294967296+d)/b:Nat):Int):=by simp
    rw [this];generalize (r*4294967296+d)/b=z at *;unfold Hid;omega
   clear hq
   go_wp2_with fail
   go_roundw
   case rel =>
    refine ⟨k-1,by omega,by go_num,?_,?_,?_⟩
    ·rw [HSP.out];simp [W]
    ·rw [HQ.out]
     have:=HR.out.set (k-1) (.int .u32 ((r*4294967296+d)/b:Nat))
     rw [Jf] at this
     have h2:=HST.out
     unfold W at h2
     rw [h2] at this
     exact this
    ·exact ⟨HG.out.os,HG.out.tape,HG.out.output,by simpa using HG.out.size,fun i hi hne=>by
      rw [Below.heap_setCell _ _ _ _ (fun e=>hne (by rw [e]))];exact HG.out.block i hi hne⟩
   case measure=>simp [intOf];omega
  ·obtain rfl:k=0:=by omega
   have HR:=Lib.hid hR
   have HG:=Lib.hid hG
   clear hR hG
   have hlt:(shr W b ((cells.take n).drop 0)).2<4294967296:=by omega
   generalize hgen:(shr W b ((cells.take n).drop 0)).2=r at *
   have HE:=Lib.hid hgen
   clear hgen
   go_wp2
   go_ret
   refine ⟨?_,HR.out,HG.out⟩
   rw [List.drop_zero] at HRem
   rw [←HRem.out]
   exact Um (by omega)
end
/- grow. -/
section
open Go.RowKit Num
theorem Q43 {w:World} {base E n cap:Nat} {a:Option Addr} {xs:List Value} (h:w.ownsRow base E 1 (.slice a n cap) n xs) (hn:0<n):∃ g,a=some ⟨g,0,none⟩∧base≤g∧g<w.heap.size:=by
 rcases h.2 with ⟨h1,h2⟩ | ⟨g,c,cur,h1,h2,h3,_⟩
 ·omega
 ·simp only [Value.slice.injEq] at h1
  exact ⟨g,h1.1,h2,(Array.getElem?_eq_some_iff.1 h3).1⟩
end
/- Read. -/
section
open Go.RowKit Num
def SlW (base E:Nat) (ys:List Nat) (v:Value) (w:World):Prop :=
 ∃ a cap,v = .slice a ys.length cap∧w.ownsRow base E 1 (.slice a ys.length cap) ys.length (J5 ys)
theorem SlW.of {base E:Nat} {ys:List Nat} {v:Value} {w:World} (h:w.ownsRow base E 1 v ys.length (J5 ys)):SlW base E ys v w:=by
 rcases h.2 with ⟨rfl,h2⟩ | ⟨g,c,cur,rfl,_⟩
 ·exact ⟨none,0,by rw [h2],by rw [h2] at h ⊢;exact h⟩
 ·exact ⟨_,_,rfl,h⟩
theorem CellsU.ofOwns {w:World} {base E n cap:Nat} {a:Option Addr} {xs:List Nat} (h:w.ownsRow base E 1 (.slice a n cap) n (J5 xs)):CellsU w a xs:=by
 intro i d hd
 have hl:xs.length=n:=by have:=h.1;simpa [J5] using this
 have hi:i<n:=by rw [←hl];exact (List.getElem?_eq_some_iff.1 hd).1
 obtain ⟨g,rfl,_,_⟩:=Q43 h (by omega)
 exact ⟨g,0,rfl,by rw [Nat.zero_add,h.cellAt i (by omega)];exact Qp _ _ _ hd⟩
end
/- strings.Builder: copyCheck,WriteByte at this dump (turned from the guide's worked walks). -/
section
open Go.RowKit Num
theorem Tryz.sizeBuilder:(Tryz.prog.info? 83).map (·.size)=some 2:=by kernel_rfl
theorem Tryz.liesBuilder:liesAt Tryz.prog Tryz.prog.depth 83 (2/Tryz.prog.cellsOf 83) 0 83 1=true:=by kernel_rfl
set_option maxHeartbeats 1000000 in
set_option maxRecDepth 100000 in
theorem Q24 (b:Nat) (w:World) (h0:w.cell? ⟨b,0,none⟩=some (.pointer (some ⟨b,0,none⟩))) :
  Calls Tryz.prog 67 #[.pointer (some ⟨b,0,none⟩)] w fun e w'=>e = .returned (.tuple #[])∧w'=w:=by
 obtain ⟨j,hj,_⟩:=Option.map_eq_some_iff.1 Tryz.sizeBuilder
 go_enter Tryz.func67,Tryz.ntmps67
 go_wp2
 rw [Lib.run_neq_ptr_same w _ Tryz.underlying81 hj]
 go_wp2
 go_end0
 exact ⟨rfl,rfl⟩
set_option maxHeartbeats 1000000 in
set_option maxRecDepth 100000 in
theorem Q1b (b:Nat) (w:World) (h0:w.cell? ⟨b,0,none⟩=some (.pointer none)) (hsh:w.shape? b=some (83,2)) (hfz:w.frozen? ⟨b,0,none⟩=false) :
  Calls Tryz.prog 67 #[.pointer (some ⟨b,0,none⟩)] w fun e w'=>e = .returned (.tuple #[])∧w'=w.setCell ⟨b,0,none⟩ (.pointer (some ⟨b,0,none⟩)):=by
 obtain ⟨j,hj,hjs⟩:=Option.map_eq_some_iff.1 Tryz.sizeBuilder
 go_enter Tryz.func67,Tryz.ntmps67
 go_wp2
 rw [Lib.run_to_unsafe w ⟨b,0,none⟩ Tryz.underlying81 Tryz.underlying167 hj (by rw [hjs];decide) hsh (Nat.zero_lt_succ 1)]
 simp only [Result.andThen]
 rw [Oper.upon_value]
 go_wp2
 rw [run_callFunc_extern Tryz.func100 (by kernel_rfl) (by kernel_rfl) (by kernel_rfl) (e:=Extern.AbiNoEscape.same) (by kernel_rfl)]
 rw [Lib.run_noEscape]
 simp only [Result.andThen]
 rw [Oper.upon_value]
 go_wp2
 rw [Lib.run_from_unsafe w ⟨b,0,none⟩ Tryz.underlying167 Tryz.underlying81 hj hsh Tryz.liesBuilder]
 simp only [Result.andThen]
 rw [Oper.upon_value]
 go_wp2
 go_end0
 exact ⟨rfl,rfl⟩
theorem Q3n (B b:Nat) (bs:List Value) (w:World) (h:Lib.IsBuilder 83 5 B b bs w) :
  Calls Tryz.prog 67 #[.pointer (some ⟨b,0,none⟩)] w fun e w'=>e = .returned (.tuple #[])∧(Lib.BuilderAt 83 5 B b (.pointer (some ⟨b,0,none⟩)) bs w'∧Below B w w'):=by
 rcases h with h | h
 ·refine (Q1b b w h.cell0 h.shape h.frozen0).mono ?_
  rintro e w' ⟨rfl,rfl⟩
  exact ⟨rfl,h.used _,(Below.refl B w).setCell (p:=⟨b,0,none⟩) h.1 _⟩
 ·refine (Q24 b w h.cell0).mono ?_
  rintro e w' ⟨rfl,rfl⟩
  exact ⟨rfl,h,Below.refl B _⟩
set_option maxHeartbeats 1000000 in
set_option maxRecDepth 100000 in
theorem Q3t (B b:Nat) (bs:List Value) (c:Int) (w:World) (h:Lib.IsBuilder 83 5 B b bs w) (hlen:bs.length+1≤140737488355328) (hBw:B≤w.heap.size) :
  Calls Tryz.prog 33 #[.pointer (some ⟨b,0,none⟩),.int .u8 c] w fun e w'=>e = .returned .nilIface∧(Lib.BuilderAt 83 5 B b (.pointer (some ⟨b,0,none⟩)) (bs++[.int .u8 c]) w'∧Below B w w'):=by
 obtain ⟨i0,hi,hz0,hz1,hz2⟩:=info_parts Tryz.infoU8
 go_enter Tryz.func33,Tryz.ntmps33
 go_wp2_with (go_at_call 67;refine (Q3n B b bs _ h).mono ?_)
 rintro e w1 ⟨rfl,h1,hb1⟩
 obtain ⟨hB,v,hbk,hown,hne⟩:=h1
 have c0:w1.cell? ⟨b,0,none⟩=some (.pointer (some ⟨b,0,none⟩)):=by rw [Lib.cell_of_heap hbk];rfl
 have c1:w1.cell? ⟨b,1,none⟩=some v:=by rw [Lib.cell_of_heap hbk];rfl
 go_wp2_with (at_builtin;refine wpList_append_own _ rfl _ _ 46 rfl B 5 i0 (.int .u8 0) 1 1 Tryz.underlying46 hi hz0 hz1 hz2 rfl (by decide) _ _ _ rfl (hown.alloc _) ⟨w1.heap.size,0,none⟩ 1 1 [.int .u8 c] rfl rfl ?c1 ?c2 ?c3 ?c4 ?c5 ?_)
 case c1 =>
  intro j u hj
  match j,hj with
  | 0,hj=>simp at hj;subst hj;simp [Addr.add]
 case c2=>intro u hu;simp at hu;subst hu;rfl
 case c3=>unfold maxLen;omega
 case c4=>omega
 case c5=>have:=hb1.size;simp;omega
 intro v' w2 hown' hgrow _
 have hlt:b<w1.heap.size:=by
  rcases Nat.lt_or_ge b w1.heap.size with h' | h'
  ·exact h'
  ·simp [Array.getElem?_eq_none h'] at hbk
 have hb2:w2.heap[b]?=some (.cells #[.pointer (some ⟨b,0,none⟩),v] 83 (0,0)):=by
  rw [hgrow.block b (by simp;omega) (fun e=>hne e.symm),Lib.alloc_old w1 _ b hlt]
  exact hbk
 have d0:w2.cell? ⟨b,0,none⟩=some (.pointer (some ⟨b,0,none⟩)):=by rw [Lib.cell_of_heap hb2];rfl
 have d1:w2.cell? ⟨b,1,none⟩=some v:=by rw [Lib.cell_of_heap hb2];rfl
 have f1:w2.frozen? ⟨b,1,none⟩=false:=Lib.frozen_of_heap hb2 1
 obtain ⟨g,cap,rfl⟩:∃ g cap,v' = .slice (some ⟨g,0,none⟩) (bs.length+1) cap:=by
  rcases hown'.2 with ⟨_,h0⟩ | ⟨g,cap,cur,hv,_⟩
  ·omega
  ·exact ⟨g,cap,hv⟩
 go_wp2
 go_ret
 refine ⟨rfl,?_,?_⟩
 ·exact Lib.BuilderAt.put (T:=83) (e:=5) hB hb2 (bs':=bs++[.int .u8 c]) (by simpa using hown') (by decide)
 ·exact ((hb1.alloc (by have:=hb1.size;omega) _).grown hgrow (by have:=hb1.size;simp;omega) (fun k hk=>(hown.lt k hk).1)).setCell (p:=⟨b,1,none⟩) hB _
end
/- Text. -/
section
open Go.RowKit Num
def Q6w:Value→Nat | .slice _ n _=>n | _=>0
def SlB (base E:Nat) (cs:List Nat) (v:Value) (w:World):Prop :=
 ∃ a cap,v = .slice a cs.length cap∧w.ownsRow base E 1 (.slice a cs.length cap) cs.length (u8s cs)
theorem SlB.of {base E:Nat} {ys:List Nat} {v:Value} {w:World} (h:w.ownsRow base E 1 v ys.length (u8s ys)):SlB base E ys v w:=by
 rcases h.2 with ⟨rfl,h2⟩ | ⟨g,c,cur,rfl,_⟩
 ·exact ⟨none,0,by rw [h2],by rw [h2] at h ⊢;exact h⟩
 ·exact ⟨_,_,rfl,h⟩
def Kg (out:List Nat):List UInt8:=((out.map (·+48)).map UInt8.ofNat).reverse
theorem Q3p (out:List Nat) (k:Nat) (h0:0<k) (hk:k≤out.length) (hd:AllLt 10 out) :
  Lib.byteCells ((Kg out).take (out.length-k))++[.int .u8 (out.getD (k-1) 0+48:Nat)]=Lib.byteCells ((Kg out).take (out.length-(k-1))):=by
 have hlen:(Kg out).length=out.length:=by simp [Kg]
 rw [show out.length-(k-1)=(out.length-k)+1 by omega,List.take_succ_eq_append_getElem (by omega),Lib.byteCells_append]
 congr 1
 have hg:(Kg out)[out.length-k]'(by omega)=UInt8.ofNat (out.getD (k-1) 0+48):=by
  unfold Kg
  rw [List.getElem_reverse]
  simp only [List.length_map,List.getElem_map]
  rw [List.getD_eq_getElem?_getD,List.getElem?_eq_getElem (by omega)]
  congr 2
  simp only [Option.getD_some]
  congr 1
  omega
 rw [hg]
 have:=hd.getD (by omega) (k-1)
 simp only [Lib.byteCells,List.map_cons,List.map_nil,UInt8.toNat_ofNat']
 congr 3
 omega
set_option maxHeartbeats 4000000 in
set_option maxRecDepth 100000 in
theorem text_any (N:Nat) (hN:nl N≤1073741824) (w:World) :
  Calls Tryz.prog 16 #[Qj N] w fun e w'=>e = .returned (.string (dec N))∧Below w.heap.size w w':=by
 have hdl:=dlen_le N
 have hwl:=Xg N
 obtain ⟨i0,hi,hz0,hz1,hz2⟩:=info_parts Tryz.infoU8
 unfold Qj
 go_enter Tryz.func16,Tryz.ntmps16
 go_wp2_with fail
 refine (Q3x N (by omega) _).mono ?_
 rintro e w1 ⟨rfl,hR,hb⟩
 have es:(w.alloc (Obj.cells #[Value.string (nb N)] 38)).heap.size=w.heap.size+1:=by simp
 rw [es] at hR hb
 rw [es]
 have hB:Below w.heap.size w w1:=((Below.refl _ _).alloc (Nat.le_refl _) _).trans (hb.mono (by omega))
 have hsz:w.heap.size+2<w1.heap.size:=by simpa using hR.lt
 have HR:=Lib.hid hR
 have HB:=Lib.hid hB
 clear hR hB hb es
 go_wp2_with fail
 go_loopw [3,4] (fun l o wr=>∃ (n:Nat) (cells out:List Nat),l = .slice (some ⟨w.heap.size+2,0,none⟩) n (Qa W N).length∧Row wr (w.heap.size+2) 72 (J5 cells)∧n≤cells.length∧AllLt W cells∧Canon (cells.take n) ∧
   SlB (w.heap.size+3) 5 (out.map (·+48)) o wr∧Qa 10 N=out++Qa 10 (Qc W (cells.take n))∧Below w.heap.size w wr∧w.heap.size+2<wr.heap.size∧n≤(Qa W N).length)
  (fun _ o _=>(Qa 10 N).length-Q6w o)
 case atStart =>
  refine ⟨(Qa W N).length,Qa W N,[],by rfl,HR.out,Nat.le_refl _,Ja (by decide) N,by rw [List.take_of_length_le (Nat.le_refl _)];exact Xn (by decide) N,
   ⟨none,0,rfl,World.ownsRow_nil _ _ _ _⟩,by rw [List.take_of_length_le (Nat.le_refl _),Qw (by decide)];rfl,HB.out,hsz,Nat.le_refl _⟩
 case round =>
  obtain ⟨n,cells,out,rfl,hR,hn,hl,hcan,⟨a,cap,rfl,hown⟩,heq,hB,hsz2,hn40⟩:=hrel
  clear HR HB hsz
  have hol:out.length≤(Qa 10 N).length:=by rw [heq];simp
  have HEQ:=Lib.hid heq
  have HB:=Lib.hid hB
  have HL:=Lib.hid hl
  have HC:=Lib.hid hcan
  have HO:=Lib.hid hown
  clear heq hB hl hcan hown
  by_cases hpos:0<n
  ·have HSH:=Lib.hid (Ar W 1000000000 (by omega) (cells.take n))
   have HSL:=Lib.hid (shr_lt W 1000000000 (by omega) (cells.take n) (HL.out.take n))
   have hsl:=Wl W 1000000000 (cells.take n)
   go_wp2_with fail
   refine (Q39 (w.heap.size+2) 72 n (Qa W N).length 1000000000 cells hn HL.out (by omega) (by omega) (by omega) wr hR).mono ?_
   rintro e w2 ⟨rfl,hR2,hg2⟩
   have HPOS:Hid (0<Qc W (cells.take n)):=(U9 _ HC.out).2 (by rw [List.length_take];omega)
   have hB2:Below w.heap.size w w2:=HB.out.grown hg2 (by omega) (by simp)
   have HO2:=Lib.hid (HO.out.kept hg2 (by
    right;intro e
    have:=(HO.out.lt _ e).1
    omega))
   have hs2:=hg2.size
   have HB2:=Lib.hid hB2
   clear hR hg2 hB2 HO HB
   unfold Oj at hR2
   rw [List.take_zero,List.nil_append,List.drop_zero] at hR2
   obtain ⟨M,hM⟩:∃ M,M=Qc W (cells.take n):=⟨_,rfl⟩
   have hqd:=(Ar W 1000000000 (by omega) (cells.take n)).1
   rw [←hM] at HPOS hqd
   have HEQ2:Hid (Qa 10 N=out++Qa 10 (M%1000000000+10^9*(M/1000000000))):=by
    have:=HEQ.out
    rw [←hM] at this
    rw [show (10:Nat)^9=1000000000 by decide,Nat.mod_add_div]
    exact this
   rw [←hM]
   clear hM HEQ HC
   have hp9:M%1000000000<10^9:=Nat.mod_lt _ (by decide)
   have hpq:0<M%1000000000∨0<M/1000000000:=by have:=HPOS.out;omega
   generalize M%1000000000=p at *
   generalize M/1000000000=q at *
   generalize (shr W 1000000000 (cells.take n)).1=Q at *
   clear HPOS HSH
   obtain ⟨cells2,hc2⟩:∃ c,c=Q++cells.drop n:=⟨_,rfl⟩
   have hl2:n≤cells2.length:=by rw [hc2];simp;rw [hsl,List.length_take];omega
   have HL2:Hid (AllLt W cells2):=by rw [hc2];exact HSL.out.append (HL.out.drop n)
   have ht2:Qc W (cells2.take n)=q:=by
    rw [hc2,List.take_append_of_le_length (by rw [hsl,List.length_take];omega),List.take_of_length_le (by rw [hsl,List.length_take];omega)]
    exact hqd
   rw [←hc2] at hR2
   have HR2:=Lib.hid hR2
   have HT2:=Lib.hid ht2
   have HP:=Lib.hid hpq
   have HP9:=Lib.hid hp9
   clear hc2 hR2 hqd hsl HSL HL ht2 hpq hp9 hn
   go_wp2_with fail
   go_loop [3] (fun l=>∃ m:Nat,l = .slice (some ⟨w.heap.size+2,0,none⟩) m (Qa W N).length∧m≤n∧Qc W (cells2.take m)=q)
    (fun l=>Q6w l)
   case atStart=>exact ⟨n,rfl,Nat.le_refl _,HT2.out⟩
   case round =>
    obtain ⟨m,rfl,hmn,hqm⟩:=hrel
    have HQ:=Lib.hid hqm
    clear hqm HT2
    by_cases hgo:0<m∧cells2.getD (m-1) 0=0
    ·obtain ⟨hm0,hz⟩:=hgo
     have hc:w2.cell? ⟨w.heap.size+2,m-1,none⟩=some (.int .u32 (cells2.getD (m-1) 0:Nat)) :=
      HR2.out.cell (Qp _ _ _ (by rw [List.getD_eq_getElem?_getD,List.getElem?_eq_getElem (by omega)];rfl))
     rw [hz] at hc
     have hq':=W0 cells2 (m-1) (by omega) hz
     rw [show m-1+1=m by omega,HQ.out] at hq'
     have HQ':=Lib.hid hq'.symm
     clear hz hq'
     go_wp2_with fail
     go_round
     case rel=>exact ⟨m-1,by rfl,by omega,HQ'.out⟩
     case measure=>simp [Q6w];omega
    ·have HC:Hid (Canon (cells2.take m)):=Wt _ _ (by omega) (by
      rcases Nat.eq_zero_or_pos m with h | h
      ·exact .inl h
      ·exact .inr (fun h2=>hgo ⟨h,h2⟩))
     have hmq:0<q↔0<m:=by
      rw [←HQ.out,U9 _ HC.out,List.length_take];omega
     have hc:0<m→w2.cell? ⟨w.heap.size+2,m-1,none⟩=some (.int .u32 (cells2.getD (m-1) 0:Nat)):=fun h =>
      HR2.out.cell (Qp _ _ _ (by rw [List.getD_eq_getElem?_getD,List.getElem?_eq_getElem (by omega)];rfl))
     have hzd:0<m→((cells2.getD (m-1) 0:Int) == 0)=false:=fun h=>J7 (fun h2=>hgo ⟨h,by omega⟩)
     clear hgo
     generalize cells2.getD (m-1) 0=d at *
     have HMQ:=Lib.hid hmq
     clear hmq
     by_cases hm0:0<m
     all_goals
      first
       | (have hc:=hc hm0;have hzd:=hzd hm0)
       | (clear hc hzd)
      go_wp2_with fail
      try clear hc
      go_loopw [4,5,6] (fun o pv kv wr=>∃ (j p':Nat) (out':List Nat),j≤9∧kv = .int .i64 (9-(j:Int))∧pv = .int .u32 (p':Nat)∧SlB (w.heap.size+3) 5 (out'.map (·+48)) o wr ∧
        Qa 10 N=out'++Qa 10 (p'+10^j*q)∧p'<10^j∧Below w.heap.size w wr∧Row wr (w.heap.size+2) 72 (J5 cells2)∧out'.length=out.length+(9-j)∧(j=9→p'=p)∧w.heap.size+2<wr.heap.size)
       (fun _ _ kv _=>(9-intOf kv).toNat)
      case atStart=>exact ⟨9,p,out,Nat.le_refl _,rfl,rfl,⟨a,cap,by simp,HO2.out⟩,HEQ2.out,HP9.out,HB2.out,HR2.out,by omega,fun _=>rfl,by omega⟩
      case round =>
       obtain ⟨j,p',out',hj,rfl,rfl,⟨a',cap',rfl,hown'⟩,heq',hp',hB',hR',hlen',hj9,hsz'⟩:=hrel
       rw [List.length_map] at hown' ⊢
       have HOW:=Lib.hid hown'
       have HE:=Lib.hid heq'
       have HB3:=Lib.hid hB'
       have HR3:=Lib.hid hR'
       have HJ:=Lib.hid hj9
       have HPP:=Lib.hid hp'
       have HLN:=Lib.hid hlen'
       have hol':out'.length≤(Qa 10 N).length:=by rw [heq'];simp
       have hp32:p'<1000000000:=Nat.lt_of_lt_of_le hp' (Nat.le_trans (Nat.pow_le_pow_right (by omega) hj) (by decide))
       clear hown' heq' hB' hR' hj9 hp' hlen'
       by_cases hcont:0<j∧(0<m∨0<p')
       ·obtain ⟨hj0,hmp⟩:=hcont
        have hmp2:0<p'∨0<q:=hmp.elim (fun h=>.inr (HMQ.out.2 h)) .inl
        obtain ⟨j',hj'⟩:∃ j',j=j'+1:=⟨j-1,by omega⟩
        have HE2:Hid (Qa 10 N=(out'++[p'%10])++Qa 10 (p'/10+10^j'*q)) :=
         text_step out' N p' q j' (by have:=HE.out;rwa [hj'] at this) hmp2
        have HP2:Hid (p'/10<10^j'):=Q8q p' j' (by have:=HPP.out;rwa [hj'] at this)
        have HL2':Hid ((out'++[p'%10]).length=out.length+(9-j')):=by
         unfold Hid;have:=HLN.out;simp;omega
        have hjj:(9-(j:Int))+1=9-(j':Int):=by omega
        clear hmp2 HE
        have hm1:0<m∨¬ 0<m:=by omega
        have hp1:¬ 0<m→0<p':=fun h=>hmp.resolve_left h
        clear hmp
        first
         | (have hp1:=hp1 hm0)
         | (clear hp1)
        go_wp2_with (at_builtin;refine wpList_append_own _ rfl _ _ 46 rfl (w.heap.size+3) 5 i0 (.int .u8 0) 1 1 Tryz.underlying46 hi hz0 hz1 hz2 rfl (by decide) _ _ _ rfl (HOW.out.alloc _) ⟨wr.heap.size,0,none⟩ 1 1 [.int .u8 (48+p'%10)] rfl rfl ?_ ?_ ?_ ?_ ?_ ?_)
        ·exact cell_one_new _ _ _
        ·intro u hu;simp at hu;subst hu;rfl
        ·unfold maxLen;omega
        ·omega
        ·simp;omega
        intro v' w3 hown3 hgrow _
        have hB4:Below w.heap.size w w3:=(HB3.out.alloc (by omega) _).grown hgrow (by simp;omega) (fun i hi=>by have:=(HOW.out.lt i hi).1;omega)
        have HB4:=Lib.hid hB4
        have hR4:Row w3 (w.heap.size+2) 72 (J5 cells2):=(HR3.out.alloc _).grown hgrow (fun e=>by have:=(HOW.out.lt _ e).1;omega)
        have HR4:=Lib.hid hR4
        have hs3:w.heap.size+2<w3.heap.size:=hR4.lt
        have hS3:SlB (w.heap.size+3) 5 ((out'++[p'%10]).map (·+48)) v' w3:=by
         apply SlB.of
         have e:u8s ((out'++[p'%10]).map (·+48))=u8s (List.map (fun x=>x+48) out')++[Value.int IntKind.u8 (48+↑p'%10)]:=by
          simp [u8s];omega
         rw [e]
         simpa using hown3
        have HS3:=Lib.hid hS3
        clear hown3 hgrow hB4 hR4 hS3
        go_wp2_with fail
        go_roundw
        case rel=>exact ⟨j',p'/10,out'++[p'%10],by omega,by rw [←hjj];go_num,by go_num,HS3.out,HE2.out,HP2.out,HB4.out,HR4.out,HL2'.out,fun h=>by omega,hs3⟩
        case measure=>simp [intOf];omega
       ·have hfin:p'+10^j*q=q∧out.length<out'.length:=by
         have hL:=HLN.out
         rcases Nat.eq_zero_or_pos j with h | h
         ·subst h
          have:=HPP.out
          simp at this
          rw [this];simp;omega
         ·have h1:¬ (0<m∨0<p'):=fun h2=>hcont ⟨h,h2⟩
          have hm1:¬ 0<m:=fun h2=>h1 (.inl h2)
          have hq0:q=0:=by have:=HMQ.out;omega
          have hp0:p'=0:=by omega
          refine ⟨by rw [hq0,hp0];simp,?_⟩
          by_cases h9:j=9
          ·have:=HJ.out h9
           have:=HP.out
           omega
          ·omega
        have HFE:Hid (Qa 10 N=out'++Qa 10 (Qc W (cells2.take m))):=by
         unfold Hid
         have:=HE.out
         rw [hfin.1] at this
         rw [HQ.out];exact this
        have hlt:=hfin.2
        clear hfin
        by_cases hj0:0<j
        ·have h1:¬ (0<m∨0<p'):=fun h2=>hcont ⟨hj0,h2⟩
         first
          | (exfalso;omega)
          | (have hp0:¬ 0<p':=fun h2=>h1 (.inr h2)
             clear hcont h1
             go_wp2_with fail
             go_roundw
             case rel=>exact ⟨m,cells2,out',rfl,HR3.out,by omega,HL2.out,HC.out,SlB.of (by simpa using HOW.out),HFE.out,HB3.out,hsz',by omega⟩
             case measure=>simp [Q6w];omega)
        ·clear hcont
         go_wp2_with fail
         go_roundw
         case rel=>exact ⟨m,cells2,out',rfl,HR3.out,by omega,HL2.out,HC.out,SlB.of (by simpa using HOW.out),HFE.out,HB3.out,hsz',by omega⟩
         case measure=>simp [Q6w];omega
  ·obtain rfl:n=0:=by omega
   have HEQ2:Hid (Qa 10 N=out):=by
    have:=HEQ.out
    rw [List.take_zero,digs_nil,Ym,List.append_nil] at this
    exact this
   rw [List.length_map] at HO ⊢
   clear HEQ HC HL
   obtain ⟨wo,rfl⟩:∃ wo:World,wo=wr:=⟨_,rfl⟩
   have hbw0:Lib.IsBuilder 83 5 wo.heap.size wo.heap.size (Lib.byteCells ((Kg out).take (out.length-out.length))) (wo.alloc (.cells #[.pointer none,.slice none 0 0] 83)):=by
    rw [Nat.sub_self,List.take_zero]
    exact .inl ⟨Nat.le_refl _,_,heap_alloc_new wo _,World.ownsRow_nil _ _ _ _,by simp [Value.ownBlock]⟩
   have HBW:=Lib.hid hbw0
   clear hbw0
   go_wp2_with fail
   go_loopw [8] (fun i wr=>∃ k:Nat,k≤out.length∧i = .int .i64 ((k:Int)-1)∧Lib.IsBuilder 83 5 wo.heap.size wo.heap.size (Lib.byteCells ((Kg out).take (out.length-k))) wr∧Below wo.heap.size wo wr)
    (fun i _=>(intOf i+1).toNat)
   case atStart=>exact ⟨out.length,Nat.le_refl _,rfl,HBW.out,(Below.refl _ _).alloc (Nat.le_refl _) _⟩
   case round =>
    obtain ⟨k,hk,rfl,hbw,hBx⟩:=hrel
    have HBX:=Lib.hid hBx
    have hxs:=hBx.size
    have hbl:(Lib.byteCells ((Kg out).take (out.length-k))).length≤out.length:=by
     simp [Lib.byteCells,List.length_take];omega
    have HBW2:=Lib.hid hbw
    clear HBW hBx hbw
    by_cases hk0:0<k
    ·obtain ⟨g,rfl,hg1,hg2⟩:=Q43 HO.out (by omega)
     have hcell:wr.cell? ⟨g,k-1,none⟩=some (.int .u8 (out.getD (k-1) 0+48:Nat)):=by
      refine Q8 HBX.out hg2 ?_
      rw [HO.out.cellAt (k-1) (by omega)]
      refine Q1k _ _ _ ?_
      rw [List.getElem?_map,List.getElem?_eq_getElem (by omega),List.getD_eq_getElem?_getD,List.getElem?_eq_getElem (by omega)]
      rfl
     have HNX:=Lib.hid (Q3p out k hk0 hk (HEQ2.out▸Ja (by omega) N))
     generalize out.getD (k-1) 0+48=c at *
     go_wp2_with fail
     refine (Q3t wo.heap.size wo.heap.size _ c wr HBW2.out (by omega) hxs).mono ?_
     rintro e w4 ⟨rfl,hb4,hB4⟩
     rw [HNX.out] at hb4
     have HB4:=Lib.hid (HBX.out.trans hB4)
     have HW4:Hid (Lib.IsBuilder 83 5 wo.heap.size wo.heap.size (Lib.byteCells ((Kg out).take (out.length-(k-1)))) w4):=.inr hb4
     clear hb4 hB4 HBW2 HBX
     go_wp2_with fail
     go_roundw
     case rel=>exact ⟨k-1,by omega,by go_num,HW4.out,HB4.out⟩
     case measure=>simp [intOf];omega
    ·obtain rfl:k=0:=by omega
     rw [Nat.sub_zero,List.take_of_length_le (by simp [Kg])] at HBW2
     have HD:=Lib.hid (text_dec N out HEQ2.out)
     have HBF:Hid (Below w.heap.size w wr):=HB.out.trans (HBX.out.mono (by omega))
     by_cases hL:out.length=0
     ·have hb:((out.length:Int) == 0)=true:=beq_yes (by omega)
      have HOE:Hid (out=[]):=List.eq_nil_of_length_eq_zero hL
      clear hL
      go_wp2_with fail
      go_ret
      refine ⟨ret_str ?_,HBF.out⟩
      unfold dec
      rw [HD.out,if_pos HOE.out];rfl
     ·have hb:((out.length:Int) == 0)=false:=J7 (by omega)
      have HOE:Hid (¬ out=[]):=fun e=>hL (by rw [e];rfl)
      clear hL
      go_wp2_with fail
      refine (Tryz.Builder_String_any wo.heap.size wo.heap.size (Kg out) wr HBW2.out hxs).mono ?_
      rintro e w4 ⟨rfl,hB4⟩
      have HB4:Hid (Below w.heap.size w w4):=HBF.out.trans (hB4.mono (by omega))
      clear hB4
      go_wp2_with fail
      go_ret
      refine ⟨ret_str ?_,HB4.out⟩
      unfold dec Aj
      rw [HD.out,if_neg HOE.out]
      simp [Kg,List.map_reverse]
end
/- The walk of Len. -/
section
open Go.RowKit Num
set_option maxHeartbeats 400000 in
set_option maxRecDepth 100000 in
theorem len_any (n:Nat) (hn:nl n≤1099511627776) (w:World) :
  Calls Tryz.prog 84 #[Qj n] w fun e w'=>e = .returned (.int .i64 (Xd n:Nat))∧Below w.heap.size w w':=by
 have hs:=Up n
 unfold Qj
 by_cases h0:n=0
 ·subst h0
  go_enter Tryz.func84,Tryz.ntmps84
  go_wp2_with fail
  go_ret
  exact ⟨rfl,(Below.refl _ _).alloc (Nat.le_refl _) _⟩
 ·have hp:0<nl n:=Nat.pos_of_ne_zero (fun h=>h0 (Q1q.1 h))
  have HD:=Lib.hid (Q96 n h0)
  have hk:nl n-1<(nb n).size:=by omega
  have hg:=Q59 n (nl n-1) hk
  have h1:=(Ja (B:=256) (by omega) n).getD (by omega) (nl n-1)
  have HBL:Hid (Lib.bitLen ((Qa 256 n).getD (nl n-1) 0)=Xd ((Qa 256 n).getD (nl n-1) 0)):=(show Lib.bitLen _=(Qa 2 _).length from Num.bitLen_eq ((Qa 256 n).getD (nl n-1) 0) (by omega))
  have hb8:Xd ((Qa 256 n).getD (nl n-1) 0)≤8:=Qz (by omega) 8 _ h1
  generalize (Qa 256 n).getD (nl n-1) 0=d at *
  have hne:((nl n:Int) == 0)=false:=by simp;omega
  clear h0
  go_enter Tryz.func84,Tryz.ntmps84
  go_wp2_with fail
  refine (Tryz.bits_Len8 d _ (by omega) (by omega)).mono ?_
  rintro e w' ⟨rfl,rfl⟩
  rw [Int.toNat_natCast,HBL.out]
  go_wp2
  go_ret
  refine ⟨?_,(Below.refl _ _).alloc (Nat.le_refl _) _⟩
  rw [HD.out]
  go_num
end
end Go.Proofs.YtcpehljpegfckaaGreatDoor
