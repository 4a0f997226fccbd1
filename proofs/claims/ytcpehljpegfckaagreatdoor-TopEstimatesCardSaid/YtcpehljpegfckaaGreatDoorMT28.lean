/- Texts of this claim,joined: WWords,WFrom. -/
import Derived.Test.YtcpehljpegfckaaGreatDoorRows
import Derived.Test.YtcpehljpegfckaaGreatDoorMT03
import Derived.Test.YtcpehljpegfckaaGreatDoorMT26
import Derived.WalkKit
import Derived.WalkSpells
import Derived.WalkLawsBesides
import Derived.Lib.Hide
/- The walk of words. -/
namespace Go.Proofs.YtcpehljpegfckaaGreatDoor
section
open Go.RowKit Num
theorem Tryz.infoU32:(Tryz.prog.info? 72).map (fun i=>(i.zero,i.size,i.bytes))=some (some (.int .u32 0),1,4):=by kernel_rfl
set_option maxHeartbeats 400000 in
set_option maxRecDepth 100000 in
theorem words_any (s:ByteArray) (hs:s.size≤1099511627776) (w:World) :
  Calls Tryz.prog 31 #[.agg #[.string s]] w fun e w' =>
   e = .returned (.slice (some ⟨w.heap.size+1,0,none⟩) ((s.size+3)/4) ((s.size+3)/4))∧Row w' (w.heap.size+1) 72 (J5 (wds (bts s) ((s.size+3)/4)))∧Below w.heap.size w w':=by
 obtain ⟨i0,hi,hz0,hz1,hz2⟩:=info_parts Tryz.infoU32
 go_enter Tryz.func31,Tryz.ntmps31
 go_wp2_with (at_make;refine wpList_make_full _ rfl (.tmp 9) (.tmp 9) 73 rfl (w.heap.size+1) 72 i0 (.int .u32 0) 1 Tryz.underlying73 hi hz0 hz1 .i64 .i64 _ _ ((s.size+3)/4) rfl rfl (by omega) (by omega) (by rw [hz2];omega) (by unfold maxLen;omega) (by simp) ?_)
 intro w1 hown hgr
 have hR:=Row.ofOwns hown
 have hb:Below (w.heap.size+1) (w.alloc (Obj.cells #[Value.string s] 38)) w1:=Z9 hgr (by simp) (by simp)
 have hbox:w1.cell? ⟨w.heap.size,0,none⟩=some (.string s):=Q8 hb (by omega) (by simp)
 have hB:Below w.heap.size w w1:=((Below.refl _ _).alloc (Nat.le_refl _) _).trans (hb.mono (by omega))
 clear hown hgr hb
 rw [Zu] at hR
 have HR:=Lib.hid hR
 have HB:=Lib.hid hB
 clear hR hB
 go_wp2_with fail
 go_loopw [14] (fun i wr=>∃ k:Nat,k≤s.size∧i = .int .i64 k∧Row wr (w.heap.size+1) 72 (J5 (wds ((bts s).take k) ((s.size+3)/4)))∧wr.cell? ⟨w.heap.size,0,none⟩=some (.string s)∧Below w.heap.size w wr)
  (fun i _=>s.size-(intOf i).toNat)
 case atStart =>
  refine ⟨0,Nat.zero_le _,rfl,?_,hbox,HB.out⟩
  have e:List.replicate ((s.size+3)/4) 0=wds ((bts s).take 0) ((s.size+3)/4):=by
   apply List.ext_getElem
   ·simp [wds]
   ·intro i h1 h2;simp [wds,Ky]
  rw [←e];exact HR.out
 case round =>
  obtain ⟨k,hk,rfl,hR,hbox,hB⟩:=hrel
  clear HR HB
  by_cases hlt:k<s.size
  ·have hc:wr.cell? ⟨w.heap.size+1,k/4,none⟩=some (.int .u32 (Ky ((bts s).take k) (k/4):Nat)):=hR.cell (Qp _ _ _ (Aa _ _ _ (by omega)))
   have hf:wr.frozen? ⟨w.heap.size+1,k/4,none⟩=false:=hR.free _
   have HR:=Lib.hid hR
   have HB:=Lib.hid hB
   clear hR hB
   go_wp2_with fail
   refine Vz 16 (by kernel_rfl) (by kernel_rfl) ?_
   simp only [List.take_succ_cons,List.take_zero,List.drop_succ_cons,List.drop_zero]
   repeat (go_big_quiet_step (fail))
   refine wpQuiet_nil ?_
   rw [Q1j (bts s) (bts_lt s) k _ (Q81 s k hlt)]
   go_wp2
   go_roundw
   case rel =>
    refine ⟨k+1,by omega,by go_num,?_,?_,?_⟩
    ·have:=(HR.out.drew).set (k/4) (.int .u32 (Ky ((bts s).take k) (k/4) ||| (bts s).getD k 0*2^(8*(k%4)):Nat))
     rw [Jf,←wds_step _ (bts_lt s) _ _ (by rw [Vn];exact hlt)] at this
     exact this
    ·exact Jv (w:=wr.drew) hbox (by simp)
    ·exact (HB.out.drew).setCell (by simp) _
   case measure=>simp [intOf];omega
  ·have HR:=Lib.hid hR
   have HB:=Lib.hid hB
   clear hR hB
   go_wp2
   go_ret
   refine ⟨rfl,?_,HB.out⟩
   have:=HR.out
   rwa [List.take_of_length_le (by rw [Vn];omega)] at this
end
/- The walk of from. -/
section
open Go.RowKit Num
theorem Tryz.infoU8:(Tryz.prog.info? 5).map (fun i=>(i.zero,i.size,i.bytes))=some (some (.int .u8 0),1,1):=by kernel_rfl
def CellsU (w:World) (a:Option Addr) (xs:List Nat):Prop :=
 ∀ i d,xs[i]?=some d→∃ b o,a=some ⟨b,o,none⟩∧w.cell? ⟨b,o+i,none⟩=some (.int .u32 (d:Nat))
set_option maxHeartbeats 400000 in
set_option maxRecDepth 100000 in
theorem Xf (a:Option Addr) (xs:List Nat) (n c:Nat) (hn:xs.length=n) (hx:AllLt W xs) (hs:n≤1099511627776) (w:World) (hcell:CellsU w a xs) :
  Calls Tryz.prog 24 #[.slice a n c] w fun e w' =>
   e = .returned (Qj (Qc W xs))∧Below w.heap.size w w':=by
 have HC:=Lib.hid hcell
 have HN:=Lib.hid hn
 have HX:=Lib.hid hx
 clear hcell hn hx
 obtain ⟨i0,hi,hz0,hz1,hz2⟩:=info_parts Tryz.infoU8
 go_enter Tryz.func24,Tryz.ntmps24
 go_wp2_with (at_make;refine wpList_make_full _ rfl (.tmp 8) (.tmp 8) 46 rfl (w.heap.size+1) 5 i0 (.int .u8 0) 1 Tryz.underlying46 hi hz0 hz1 .i64 .i64 _ _ (4*n) rfl rfl (by omega) (by omega) (by rw [hz2];omega) (by unfold maxLen;omega) (by simp) ?_)
 intro w1 hown hgr
 have hR:=Row.ofOwns hown
 have hb:Below (w.heap.size+1) (w.alloc (Obj.cells #[Value.string ByteArray.empty] 38)) w1:=Z9 hgr (by simp) (by simp)
 have hbox:w1.cell? ⟨w.heap.size,0,none⟩=some (.string ByteArray.empty):=Q8 hb (by omega) (by simp)
 have hboxf:w1.frozen? ⟨w.heap.size,0,none⟩=false:=by rw [hb.frozen (p:=⟨w.heap.size,0,none⟩) (by simp)];simp
 have hB:Below w.heap.size w w1:=((Below.refl _ _).alloc (Nat.le_refl _) _).trans (hb.mono (by omega))
 clear hown hgr hb
 rw [u8s_zeros] at hR
 have HR:=Lib.hid hR
 have HB:=Lib.hid hB
 clear hR hB
 go_wp2_with fail
 go_loopw [12] (fun i wr=>∃ k:Nat,k≤4*n∧i = .int .i64 k∧Row wr (w.heap.size+1) 5 (u8s (bys xs k))∧wr.cell? ⟨w.heap.size,0,none⟩=some (.string ByteArray.empty)∧wr.frozen? ⟨w.heap.size,0,none⟩=false∧Below w.heap.size w wr)
  (fun i _=>4*n-(intOf i).toNat)
 case atStart=>exact ⟨0,Nat.zero_le _,rfl,by rw [bys_zero,HN.out];exact HR.out,hbox,hboxf,HB.out⟩
 case round =>
  obtain ⟨k,hk,rfl,hR,hbox,hboxf,hB⟩:=hrel
  clear HR HB
  by_cases hlt:k<4*n
  ·have hkx:k/4<xs.length:=by rw [HN.out];omega
   obtain ⟨b,o,rfl,hc⟩:=HC.out (k/4) _ (List.getElem?_eq_getElem hkx)
   have hbl:b<w.heap.size:=by have:=World.block_lt_of_cell? w _ hc;simpa using this
   have hc':=Q8 hB hbl hc
   have hf:wr.frozen? ⟨w.heap.size+1,k,none⟩=false:=hR.free _
   have hcw:wr.cell? ⟨w.heap.size+1,k,none⟩=some (.int .u8 ((0:Nat):Int)):=hR.cell (Q1k _ _ _ (by simp [bys,HN.out,hlt]))
   have hd:xs[k/4]'hkx<4294967296:=HX.out _ (List.getElem_mem hkx)
   have HBY:Hid (W4 xs k=xs[k/4]'hkx/2^(8*(k%4))%256):=byte_of xs k _ (List.getElem?_eq_getElem hkx)
   obtain ⟨d,hdd⟩:∃ d,d=xs[k/4]'hkx:=⟨_,rfl⟩
   rw [←hdd] at hc' hd HBY
   clear hdd hc
   have HR:=Lib.hid hR
   have HB:=Lib.hid hB
   clear hR hB
   go_wp2
   go_roundw
   case rel =>
    refine ⟨k+1,by omega,by go_num,?_,Jv hbox (by simp),Jr hboxf (by simp),HB.out.setCell (by simp) _⟩
    have:=HR.out.set k (.int .u8 (W4 xs k:Nat))
    rw [u8s_set,bys_set,HBY.out] at this
    simpa using this
   case measure=>simp [intOf];omega
  ·obtain rfl:k=4*n:=by omega
   have HR:=Lib.hid hR
   have HB:=Lib.hid hB
   clear hR hB
   go_wp2_with fail
   go_loopw [5] (fun i wx=>∃ k:Nat,k≤4*n∧i = .int .i64 k∧wx=wr∧∀ i,k≤i→i<4*n→W4 xs i=0)
    (fun i _=>(intOf i).toNat)
   case atStart=>exact ⟨4*n,Nat.le_refl _,by go_num,rfl,fun i h1 h2=>by omega⟩
   case round =>
    obtain ⟨k,hk,rfl,rfl,hz⟩:=hrel
    have HZ:=Lib.hid hz
    clear hz
    by_cases hpos:0<k
    ·have hc:wr.cell? ⟨w.heap.size+1,k-1,none⟩=some (.int .u8 (W4 xs (k-1):Nat)) :=
      HR.out.cell (Q1k _ _ _ (by have:=Q5d xs (k-1) (by rw [HN.out];omega);rwa [HN.out] at this))
     by_cases hb0:W4 xs (k-1)=0
     ·rw [hb0] at hc
      go_wp2
      go_roundw
      case rel =>
       refine ⟨k-1,by omega,by go_num,by trivial,fun i h1 h2=>?_⟩
       by_cases h:i=k-1
       ·rw [h];exact hb0
       ·exact HZ.out i (by omega) h2
      case measure=>simp [intOf];omega
     ·have hb1:((W4 xs (k-1):Int) == 0)=false:=by simpa using hb0
      have hcv:=Hc HR.out 46 5 9 k (4*n) (by rw [Wn,HN.out];omega) Tryz.underlying46 Tryz.underlying5 Tryz.underlying9
      have he:=Q4k xs HX.out k (by rw [HN.out];omega) (by rw [HN.out];exact HZ.out) (.inr hb0)
      rw [HN.out] at he
      rw [he] at hcv
      clear he hb0
      go_wp2
      exact bodyPost_ret (v:=Qj (Qc W xs)) (by simp [results,Tryz.results24,go_sem,hbox,Qj,nb]) rfl ⟨rfl,HB.out.setCell (Nat.le_refl _) _⟩
    ·obtain rfl:k=0:=by omega
     have hcv:=Hc HR.out 46 5 9 0 (4*n) (by omega) Tryz.underlying46 Tryz.underlying5 Tryz.underlying9
     have he:=Q4k xs HX.out 0 (by omega) (by rw [HN.out];exact HZ.out) (.inl rfl)
     rw [HN.out] at he
     rw [he] at hcv
     clear he hpos
     go_wp2
     exact bodyPost_ret (v:=Qj (Qc W xs)) (by simp [results,Tryz.results24,go_sem,hbox,Qj,nb]) rfl ⟨rfl,HB.out.setCell (Nat.le_refl _) _⟩
end
end Go.Proofs.YtcpehljpegfckaaGreatDoor
