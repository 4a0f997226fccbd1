/- Texts of this claim,joined: EOpn. -/
import Derived.Test.YtcpehljpegfckaaGreatDoorRows
import Derived.Test.YtcpehljpegfckaaGreatDoorMTS
import Derived.Test.YtcpehljpegfckaaGreatDoorMT15
import Derived.Test.YtcpehljpegfckaaGreatDoorMT11
import Derived.ProofKit
import Derived.OpenShut
import Derived.Lib.SmallJoins
import Derived.LaidMore
import Derived.HandedShaped
import Derived.SevenTiedAt
import Derived.Lay
import Derived.Deep.Slices
import Derived.Deep.Strs
/- From the walk to the row: the arguments opened;what the listed variables hold. -/
namespace Go.Proofs.YtcpehljpegfckaaGreatDoor
open Go.ChangeShapes Go.WideShapes Go.ChangeAt Go.RowKit Go.Deep
theorem Tryz.own:ownKnob Tryz.prog.godebug=none:=by kernel_rfl
theorem Tryz.laidOut:laidOutB Tryz.prog=true:=by kernel_rfl
section
variable {H:Type} {enc:TypeId × Value→H}
theorem Hb {t:TypeId} (hr:Tryz.prog.readableRec t=true) (ht:t<Tryz.prog.types.size) {W W':World} {v:Value} {d:DataW H} {p:List MemPlace} (h:DataW.Trod enc Tryz.prog W 0 (fun _=>true) true t v d p)
  (hb:Below W.heap.size W W') (hlt:∀ x∈p,x.block<W.heap.size):DataW.Trod enc Tryz.prog W' 0 (fun b=>decide (b<W.heap.size)) true t v d p :=
 Below.trod Tryz.laidOut hr ht h hb hlt
set_option maxRecDepth 100000 in
theorem open_u8 {W:World} {base:Nat} {v:Value} {d:DataW H} {p:List MemPlace} (hv:Value.okWide Tryz.prog W .any base 5 v) (h:DataW.Trod enc Tryz.prog W 0 (fun _=>true) true 5 v d p):∃ n:Nat,v = .int .u8 (n:Nat)∧n<256:=by
 obtain ⟨n,rfl⟩:=okWide_int Tryz.underlying5 hv
 obtain ⟨fuel,hf⟩:=h
 obtain ⟨n',h1,_,h2⟩:=DataW.trod_int Tryz.underlying5 hf
 have h3:n=n':=by simpa [Value.cells] using h1
 subst h3
 simp [Lit.wf,IntKind.min,IntKind.max,IntKind.signed,IntKind.bits] at h2
 obtain ⟨m,rfl⟩:=Int.eq_ofNat_of_zero_le h2.1
 exact ⟨m,rfl,by omega⟩
set_option maxRecDepth 100000 in
theorem open_bool {W:World} {base:Nat} {v:Value} (hv:Value.okWide Tryz.prog W .any base 4 v):∃ b,v = .bool b:=okWide_bool Tryz.underlying4 hv
theorem spot_none {W:World} {base:Nat} {a:Addr} {k:Nat} {cs:List Value} (h:W.cells? base a (k+1)=some cs):a.spot=none:=by
 obtain ⟨_,hlen,hc⟩:=World.cells?_some h
 have g0:=hc 0 (by omega)
 obtain ⟨v,hv⟩:∃ v,cs[0]?=some v:=⟨_,List.getElem?_eq_getElem (by omega)⟩
 rw [hv] at g0
 have:=World.cell?_spot g0
 simpa [Addr.add] using this
set_option maxRecDepth 100000 in
theorem open_row {W:World} {n:Nat} {v:Value} {y:DataW H × List MemPlace} (h:DataW.trod enc Tryz.prog W 0 (fun _=>true) true n 51 [v]=some y) :
  ∃ (zs:List Int) (a:Option Addr) (c:Nat),v = .slice a zs.length c∧AtN W.heap.size W a (Qm zs)∧zs.length≤c:=by
 rcases open_ints Tryz.underlying51 Tryz.underlying3 (by kernel_rfl) h with ⟨hcs,_⟩ | ⟨⟨b,o,sp⟩,len,cap,zs,hcs,_,hl,hm,hz,hx,hcell,hwz⟩
 ·cases hcs
  exact ⟨[],none,0,rfl,fun i v hi=>by simp [Qm] at hi,Nat.le_refl _⟩
 ·cases hcs
  simp only [if_true] at hz
  have hlz:(zs.take len).length=len:=by simp;omega
  have hsp:sp=none∨zs=[]:=by
   cases sp with
   | none=>exact .inl rfl
   | some s =>
    right
    cases zs with
    | nil=>rfl
    | cons z zs=>have:=World.cell?_spot (hcell 0 (by simp));simp [Addr.add] at this
  refine ⟨zs.take len,some ⟨b,o,sp⟩,cap,by rw [hlz],fun i v hi=>?_,by omega⟩
  have hi2:i<(zs.take len).length:=by
   have:=(List.getElem?_eq_some_iff.1 hi).1
   simpa [Qm] using this
  have hi3:i<zs.length:=by rw [hlz] at hi2;omega
  have hc:=hcell i hi3
  rcases hsp with rfl | h0
  ·rw [Addr.add_lit] at hc
   refine ⟨b,o,block_lt_of_cell hc,rfl,?_⟩
   have e:(Qm (zs.take len))[i]?=some (.int .i64 (zs.getD i 0)):=by
    refine Jb _ _ _ ?_
    rw [List.getElem?_take,if_pos (by omega),List.getD_eq_getElem?_getD,List.getElem?_eq_getElem hi3];rfl
   rw [e] at hi
   cases hi
   exact hc
  ·rw [h0] at hi3;simp at hi3
set_option maxRecDepth 100000 in
theorem open_cls {W:World} {n:Nat} {v:Value} {y:DataW H × List MemPlace} (h:DataW.trod enc Tryz.prog W 0 (fun _=>true) true n 22 [v]=some y) :
  ∃ (L:List (List Int)) (a:Option Addr) (c:Nat),v = .slice a L.length c∧ThAt W.heap.size W a L:=by
 have hcell1:Tryz.prog.cellsOf 51=1:=by kernel_rfl
 rcases open_slice Tryz.underlying22 h with ⟨hcs,_⟩ | ⟨⟨b,o,sp⟩,len,cap,m,n',D,Pl,hcs,_,hl,hm,hmm,hx,hel⟩
 ·cases hcs
  exact ⟨[],none,0,rfl,fun i x hi=>by simp at hi⟩
 ·cases hcs
  simp only [if_true] at hmm
  subst hmm
  have hsp:0<len→sp=none:=fun h0=>by
   obtain ⟨cs',h1,_⟩:=hel 0 (by omega)
   rw [hcell1] at h1
   simpa [Addr.add] using spot_none h1
  have key:∀ i,i<len→∃ xs:List Int,∃ (p:Option Addr) (c:Nat),sp=none∧W.cell? ⟨b,o+i,none⟩=some (.slice p xs.length c)∧AtN W.heap.size W p (Qm xs):=fun i hi=>by
   obtain ⟨cs',h1,h2⟩:=hel i (by omega)
   rw [hcell1] at h1
   obtain rfl:sp=none:=hsp (by omega)
   obtain ⟨_,hlen,hc⟩:=World.cells?_some h1
   match cs',hlen with
   | [c0],_ =>
    obtain ⟨zs,p,c,rfl,hp,_⟩:=open_row h2
    have g0:=hc 0 (by omega)
    simp only [Addr.add_lit,Nat.add_zero,Nat.mul_one,List.getElem?_cons_zero] at g0
    exact ⟨zs,p,c,rfl,g0,hp⟩
  obtain ⟨f,hfx⟩:=choose_lt (α:=List Int) (p:=fun i xs=>∃ (p:Option Addr) (c:Nat),sp=none∧W.cell? ⟨b,o+i,none⟩=some (.slice p xs.length c)∧AtN W.heap.size W p (Qm xs)) key
  have hlen:((List.range len).map f).length=len:=by simp
  refine ⟨(List.range len).map f,some ⟨b,o,sp⟩,m,by rw [hlen],fun i x hi=>?_⟩
  have hi2:i<len:=by
   have:=(List.getElem?_eq_some_iff.1 hi).1
   simpa using this
  have e:((List.range len).map f)[i]?=some (f i):=by simp [hi2]
  rw [e] at hi
  cases hi
  obtain ⟨p,c,rfl,g0,hp⟩:=hfx i hi2
  exact ⟨b,o,p,c,block_lt_of_cell g0,rfl,g0,hp⟩
set_option maxRecDepth 100000 in
theorem Q7t {W:World} {base:Nat} {v:Value} {d:DataW H} {p:List MemPlace} (hv:Value.okWide Tryz.prog W .any base 24 v) (h:DataW.Trod enc Tryz.prog W 0 (fun _=>true) true 24 v d p) :
  ∃ (n:Int) (L:List (List Int)) (a:Option Addr) (c:Nat),v = .agg #[.int .i64 n,.slice a L.length c]∧ThAt W.heap.size W a L:=by
 obtain ⟨cs,rfl,hsz⟩:=okWide_struct Tryz.underlying24 hv
 rw [show Tryz.prog.cellsOf 24=2 by kernel_rfl] at hsz
 obtain ⟨l⟩:=cs
 match l,hsz with
 | [c0,c1],_ =>
 obtain ⟨fuel,hf⟩:=h
 have e1:Tryz.prog.cellsOf 3=1:=by kernel_rfl
 have e3:Tryz.prog.cellsOf 22=1:=by kernel_rfl
 obtain ⟨z0,z1,m2,_,hl2,g0,g1⟩:=trod_struct2 Tryz.underlying24 hf
 simp only [Value.cells,e1,e3,List.drop_zero,List.drop_succ_cons,List.take_succ_cons,List.take_zero] at g0 g1
 obtain ⟨k,hk,_,_⟩:=DataW.trod_int Tryz.underlying3 g0
 cases hk
 obtain ⟨L,aL,cL,rfl,hL⟩:=open_cls g1
 exact ⟨k,L,aL,cL,rfl,hL⟩
end
theorem Tryz.gPow:Tryz.prog.globalNamed "internal/strconv.uint64pow10" = some ((Tryz.prog.globalNamed "internal/strconv.uint64pow10").getD 0):=by kernel_rfl
theorem Tryz.tPow:(Tryz.prog.globals[(Tryz.prog.globalNamed "internal/strconv.uint64pow10").getD 0]?).map (·.type)=some 243:=by kernel_rfl
theorem Tryz.cellsU64:Tryz.prog.cellsOf 28=1:=by kernel_rfl
theorem Tryz.cellsPow:Tryz.prog.cellsOf 243=20:=by kernel_rfl
theorem Tryz.gBru:Tryz.prog.globalNamed "math/bits.deBruijn64tab" = some ((Tryz.prog.globalNamed "math/bits.deBruijn64tab").getD 0):=by kernel_rfl
theorem Tryz.tBru:(Tryz.prog.globals[(Tryz.prog.globalNamed "math/bits.deBruijn64tab").getD 0]?).map (·.type)=some 202:=by kernel_rfl
theorem Tryz.cellsU8:Tryz.prog.cellsOf 5=1:=by kernel_rfl
theorem Tryz.cellsBru:Tryz.prog.cellsOf 202=64:=by kernel_rfl
theorem Q71 {W:World} (h:laidMetH Tryz.prog [("math/bits.deBruijn32tab", Rows.laid_math_bits_deBruijn32tab),("math/bits.deBruijn64tab", Rows.laid_math_bits_deBruijn64tab),("internal/strconv.uint64pow10", Rows.laid_internal_strconv_uint64pow10)] W):Pow10 W.heap.size W∧TzTab W.heap.size W:=by
 rw [MakeChecks.laidMetH_plain _ _ _ (by kernel_rfl)] at h
 obtain ⟨ps,⟨_,_,_,_,_,_,_,_,_,_,⟨g2,t2,cs2,fuel2,p2,q2,hg2,ht2,hvar2,hd2,⟨g',t',cs,fuel,p,q,hg',ht',hvar,hd,_,_⟩,_⟩,_⟩,_,_⟩:=h
 obtain rfl:=Option.some.inj (Tryz.gPow.symm.trans hg')
 obtain rfl:=Option.some.inj (Tryz.tPow.symm.trans ht')
 obtain rfl:=Option.some.inj (Tryz.gBru.symm.trans hg2)
 obtain rfl:=Option.some.inj (Tryz.tBru.symm.trans ht2)
 constructor
 ·refine Lib.tabBelow_of_tabIs ?_
  have hc:=Lib.cells_of_tab (k:=.u64) (zs:=Lib.pow10Tab) Tryz.underlying243 Tryz.underlying28 Tryz.cellsU64 Tryz.cellsPow (show DataW.trod _ Tryz.prog W 0 _ false fuel 243 cs.toList=some (Lib.tabData .u64 Lib.pow10Tab,p) from hd)
  unfold Lib.TabIs
  rw [hvar,←hc]
 ·refine Lib.tabBelow_of_tabIs ?_
  have hc:=Lib.cells_of_tab (k:=.u8) (zs:=Lib.deBruijn64tab.map fun k=>((k:Nat):Int)) Tryz.underlying202 Tryz.underlying5 Tryz.cellsU8 Tryz.cellsBru (show DataW.trod _ Tryz.prog W 0 _ false fuel2 202 cs2.toList=some (Lib.tabData .u8 (Lib.deBruijn64tab.map fun k=>((k:Nat):Int)),p2) from hd2)
  unfold Lib.TabIs
  rw [hvar2,←hc]
end Go.Proofs.YtcpehljpegfckaaGreatDoor
