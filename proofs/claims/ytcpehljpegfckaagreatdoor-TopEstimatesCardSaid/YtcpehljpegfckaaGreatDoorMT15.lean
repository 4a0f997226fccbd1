/- Texts of this claim,joined: DF1. -/
import Derived.Test.YtcpehljpegfckaaGreatDoorMT14
import Derived.Lib.TrailingZeros
import Derived.Laws.Bits64b
import Derived.Deep.DeepCutAuto
/- bits.TrailingZeros64,by the table that its package lays. -/
namespace Go.Proofs.YtcpehljpegfckaaGreatDoor
open Go.RowKit
def TzTab (B:Nat) (w:World):Prop:=Lib.TabBelow Tryz.prog B w "math/bits.deBruijn64tab" .u8 (Lib.deBruijn64tab.map fun k=>((k:Nat):Int))
theorem TzTab.on {B B':Nat} {w w':World} (h:TzTab B w) (hb:Below B w w') (hB:B≤B'):TzTab B' w':=fun x hx=>h x (hb.trans (hx.mono hB))
theorem TzTab.cell {B:Nat} {w:World} (h:TzTab B w) (i:Nat) (hi:i<64):w.cell? ⟨0,i,none⟩=some (.int .u8 (Lib.deBruijn64tab.getD i 0:Nat)):=by
 have h1:=Lib.TabIs.cell h.here (g:=0) (by kernel_rfl) i (by simpa [Lib.deBruijn64tab] using hi)
 rw [h1]
 congr 2
 rw [List.getD_eq_getElem?_getD,List.getElem?_map,List.getD_eq_getElem?_getD]
 cases Lib.deBruijn64tab[i]?<;>rfl
theorem wrapU64 (n:Int):IntKind.u64.wrap n=n%18446744073709551616:=by simp [IntKind.wrap,IntKind.signed,IntKind.bits]
theorem tzKey (x a:Nat) (hx:x<18446744073709551616) (hx0:x≠0) (hlow:x &&& (18446744073709551616-x)=a) :
  IntKind.u64.wrap (bits BinOp.and IntKind.u64 (x:Int) (IntKind.u64.wrap (-(x:Int)))*285870213051353865)/288230376151711744=((a*285870213051353865%18446744073709551616/288230376151711744:Nat):Int):=by
 have e1:IntKind.u64.wrap (-(x:Int))=((18446744073709551616-x:Nat):Int):=by rw [wrapU64];omega
 rw [e1,u64_and_nat x _ hx (by omega),hlow,wrapU64]
 omega
set_option maxHeartbeats 1600000 in
set_option maxRecDepth 100000 in
theorem tzCore (x k idx:Nat) (w:World) (hx0:((x:Int) == 0)=false)
  (key:IntKind.u64.wrap (bits BinOp.and IntKind.u64 (x:Int) (IntKind.u64.wrap (-(x:Int)))*285870213051353865)/288230376151711744=(idx:Int))
  (hi:idx<64) (hk:k<64) (hcell:w.cell? ⟨0,idx,none⟩=some (.int .u8 k)) :
  Calls Tryz.prog 124 #[.int .u64 x] w fun e w'=>e = .returned (.int .i64 k)∧w'=w:=by
 go_enter Tryz.func124,Tryz.ntmps124
 go_wp2_with (simp only [key])
 go_ret
 exact ⟨rfl,rfl⟩
theorem gTz {B:Nat} (x:Nat) (hx:x<18446744073709551616) (h0:x≠0) (w:World) (hT:TzTab B w) :
  Calls Tryz.prog 124 #[.int .u64 x] w fun e w'=>e = .returned (.int .i64 (Lib.ctz 64 x:Nat))∧w'=w:=by
 obtain ⟨hlow,hk⟩:=Lib.lowest_bit 64 x h0 hx
 obtain ⟨hi,htab⟩:=Lib.deBruijn64_at _ hk
 have hcell:=hT.cell _ hi
 rw [htab] at hcell
 exact tzCore x _ _ w (by simp;omega) (tzKey x _ hx h0 hlow) hi hk hcell
end Go.Proofs.YtcpehljpegfckaaGreatDoor
