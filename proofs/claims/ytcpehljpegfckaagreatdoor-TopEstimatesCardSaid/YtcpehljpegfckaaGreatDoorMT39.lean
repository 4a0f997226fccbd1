/- Texts of this claim,joined: KLs. -/
import Derived.Test.YtcpehljpegfckaaGreatDoorMTS
import Derived.Test.YtcpehljpegfckaaGreatDoorMT09
import Derived.Test.YtcpehljpegfckaaGreatDoorMT38
import Derived.Test.YtcpehljpegfckaaGreatDoorMT07
import Derived.Lib.RowBridge
import Derived.Lib.OwnBridge
import Derived.Deep.CutRange
/- Literals of short clauses: order,opposite neighbours. -/
namespace Go.Proofs.YtcpehljpegfckaaGreatDoor
open Go.RowKit Go.Sort
def Still (f:FuncId) (args:Array Value) (v:Value):Prop:=∀ w:World,Calls Tryz.prog f args w fun e w'=>e = .returned v∧w'=w
set_option maxHeartbeats 1600000 in
set_option maxRecDepth 100000 in
theorem sVar (l:Int):Still 85 #[.int .i64 l] (.int .i64 (Y8 l)):=by
 intro w
 by_cases h1:1≤l
 ·by_cases h2:l≤128
  ·have HQ:=Lib.hid (show Y8 l=l from if_pos ⟨h1,h2⟩)
   go_enter Tryz.func85,Tryz.ntmps85
   go_wp2_with fail
   go_ret
   exact ⟨by rw [HQ.out];rfl,rfl⟩
  ·have HQ:=Lib.hid (show Y8 l=0 by unfold Y8;rw [if_neg (by omega),if_neg (by omega)])
   have h3:¬ l≤-1:=by omega
   go_enter Tryz.func85,Tryz.ntmps85
   go_wp2_with fail
   go_ret
   exact ⟨by rw [HQ.out];rfl,rfl⟩
 ·by_cases h2:l≤-1
  ·by_cases h3:-128≤l
   ·have HQ:=Lib.hid (show Y8 l = -l by unfold Y8;rw [if_neg (by omega),if_pos ⟨h2,h3⟩])
    go_enter Tryz.func85,Tryz.ntmps85
    go_wp2_with fail
    go_ret
    exact ⟨by rw [HQ.out];rfl,rfl⟩
   ·have HQ:=Lib.hid (show Y8 l=0 by unfold Y8;rw [if_neg (by omega),if_neg (by omega)])
    go_enter Tryz.func85,Tryz.ntmps85
    go_wp2_with fail
    go_ret
    exact ⟨by rw [HQ.out];rfl,rfl⟩
  ·have HQ:=Lib.hid (show Y8 l=0 by unfold Y8;rw [if_neg (by omega),if_neg (by omega)])
   go_enter Tryz.func85,Tryz.ntmps85
   go_wp2_with fail
   go_ret
   exact ⟨by rw [HQ.out];rfl,rfl⟩
theorem litOk_var (l n:Int) (hn:n≤128) (h0:Y8 l=0):Jk l n=false:=by
 rw [Bool.eq_false_iff];intro h
 rw [Kf] at h
 unfold Y8 at h0
 split at h0
 ·omega
 ·split at h0<;>omega
theorem Q8n (l n:Int) (h0:¬ Y8 l=0):Jk l n=decide (Y8 l≤n):=by
 rw [Bool.eq_iff_iff,Kf,decide_eq_true_eq]
 unfold Y8 at h0 ⊢
 split at h0
 ·omega
 ·split at h0<;>omega
set_option maxHeartbeats 1600000 in
set_option maxRecDepth 100000 in
theorem sValid (l n:Int) (hn:n≤128):Still 56 #[.int .i64 l,.int .i64 n] (.bool (Jk l n)):=by
 intro w
 have KV:=sVar l
 by_cases h0:Y8 l=0
 ·have HQ:=Lib.hid (litOk_var l n hn h0)
  rw [h0] at KV
  clear h0
  go_enter Tryz.func56,Tryz.ntmps56
  go_wp2_with fail
  refine (KV _).mono ?_
  rintro r1 w1 ⟨rfl,rfl⟩
  go_wp2_with fail
  go_ret
  exact ⟨by rw [HQ.out];rfl,rfl⟩
 ·have HQ:=Lib.hid (Q8n l n h0)
  generalize Y8 l=v at *
  have hv:(v != 0)=true:=by simp [bne,J7 h0]
  clear h0
  go_enter Tryz.func56,Tryz.ntmps56
  go_wp2_with fail
  refine (KV _).mono ?_
  rintro r1 w1 ⟨rfl,rfl⟩
  go_wp2_with fail
  refine (KV _).mono ?_
  rintro r2 w2 ⟨rfl,rfl⟩
  go_wp2_with fail
  go_ret
  exact ⟨by rw [HQ.out];rfl,rfl⟩
def Lt:Type:={ x:Int // -128≤x∧x≤128 }
instance:Inhabited Lt:=⟨⟨0,by omega⟩⟩
def Wh (x:Lt):Value:=.int .i64 x.1
def Q3h (x y:Lt):Int:=if Xs x.1=Xs y.1 then x.1-y.1 else Xs x.1-Xs y.1
theorem varI_abs (x:Lt):Y8 x.1=Xs x.1:=by
 obtain ⟨x,h1,h2⟩:=x
 unfold Y8 Xs
 simp only
 split
 ·rw [if_neg (by omega)]
 ·split<;>split<;>omega
set_option maxHeartbeats 1600000 in
set_option maxRecDepth 100000 in
theorem sCompare (x y:Lt):Still 132 #[.int .i64 x.1,.int .i64 y.1] (.int .i64 (Q3h x y)):=by
 intro w
 have KX:=sVar x.1
 have KY:=sVar y.1
 rw [varI_abs] at KX KY
 have hx:=Q1l x.1
 have hy:=Q1l y.1
 have h1:=x.2
 have h2:=y.2
 have HQ:=Lib.hid (show Q3h x y=if Xs x.1=Xs y.1 then x.1-y.1 else Xs x.1-Xs y.1 from rfl)
 generalize Q3h x y=r at *
 generalize x.1=x at *
 generalize y.1=y at *
 generalize Xs x=p at *
 generalize Xs y=q at *
 by_cases h:p=q
 ·subst h
  have HR:=Lib.hid (HQ.out.trans (if_pos rfl))
  have hpq:(p != p)=false:=by simp
  clear HQ
  go_enter Tryz.func132,Tryz.ntmps132
  go_wp2_with fail
  refine (KX _).mono ?_
  rintro r1 w1 ⟨rfl,rfl⟩
  go_wp2_with fail
  refine (KY _).mono ?_
  rintro r1 w1 ⟨rfl,rfl⟩
  go_wp2_with fail
  go_ret
  exact ⟨by rw [HR.out];rfl,rfl⟩
 ·have HR:=Lib.hid (HQ.out.trans (if_neg h))
  have hpq:(p != q)=true:=by simp [bne,J7 h]
  clear HQ h
  go_enter Tryz.func132,Tryz.ntmps132
  go_wp2_with fail
  refine (KX _).mono ?_
  rintro r1 w1 ⟨rfl,rfl⟩
  go_wp2_with fail
  refine (KY _).mono ?_
  rintro r1 w1 ⟨rfl,rfl⟩
  go_wp2_with fail
  go_ret
  exact ⟨by rw [HR.out];rfl,rfl⟩
set_option maxHeartbeats 1600000 in
theorem sOrder1 (x y:Lt):Still 131 #[.int .i64 x.1,.int .i64 y.1] (.int .i64 (Q3h x y)):=by
 intro w
 have KC:=sCompare x y
 generalize Q3h x y=r at *
 generalize x.1=x at *
 generalize y.1=y at *
 go_enter Tryz.func131,Tryz.ntmps131
 go_wp2_with fail
 refine (KC _).mono ?_
 rintro r1 w1 ⟨rfl,rfl⟩
 go_wp2_with fail
 go_ret
 exact ⟨rfl,rfl⟩
set_option maxHeartbeats 1600000 in
theorem sValid1 (x n:Int) (b:Nat) (hn:n≤128) (w:World) (hc:w.cell? ⟨b,0,none⟩=some (.int .i64 n)):Calls Tryz.prog 129 #[.int .i64 x,.pointer (some ⟨b,0,none⟩)] w fun e w'=>e = .returned (.bool (!Jk x n))∧w'=w:=by
 have KC:=sValid x n hn
 generalize Jk x n=r at *
 go_enter Tryz.func129,Tryz.ntmps129
 go_wp2_with fail
 refine (KC _).mono ?_
 rintro r1 w1 ⟨rfl,rfl⟩
 go_wp2_with fail
 go_ret
 exact ⟨rfl,rfl⟩
theorem Q21 (t:List Int) (n:Int) (b:Nat) (hn:n≤128) (N:Nat) (ta:Option Addr) (tc:Nat) (w:World) (hT:AtN N w ta (Qm t)) (hl:t.length≤100000000000000) (hb:b<w.heap.size) (hc:w.cell? ⟨b,0,none⟩=some (.int .i64 n)) :
  Calls Tryz.prog 119 #[.slice ta t.length tc,.func (.func 129) #[] #[.pointer (some ⟨b,0,none⟩)]] w fun e w'=>e = .returned (.bool (t.any fun x=>!Jk x n))∧∃ q,w'=w.drewN q:=by
 by_cases h0:t.length=0
 ·obtain rfl:t=[]:=List.length_eq_zero_iff.1 h0
  exact (Tryz.slices_ContainsFunc_empty (α:=Int) ta tc (.func (.func 129) #[] #[.pointer (some ⟨b,0,none⟩)]) w).mono fun e w' ⟨he,hw⟩=>⟨he,0,hw⟩
 ·obtain ⟨g,o,_,rfl,hcell⟩:=hT.base (by rw [show (Qm t).length=t.length by simp [Qm]];omega)
  have eg:∀ args w,(callFunc 129 args).run Tryz.prog w = .ok (.enter 129 args) w:=enters_of Tryz.func129 (by kernel_rfl) rfl
  have hp:PredAt Tryz.prog 129 #[.pointer (some ⟨b,0,none⟩)] (Value.int .i64) (fun x=>!Jk x n) w:=fun W x hW=>(sValid1 x n b hn W (Q8 hW hb hc)).mono fun e w' ⟨he,hw⟩=>⟨he,0,hw⟩
  have h:=Tryz.slices_ContainsFunc (α:=Int) (Value.int .i64) (fun x=>!Jk x n) 129 #[.pointer (some ⟨b,0,none⟩)] eg g o t.length tc t w hp (Nat.le_refl _) (by omega) (fun j hj=>by
   have:=hcell j (.int .i64 (t.getD j 0)) (Jb _ _ _ (by simp [List.getD,hj]))
   rw [this]
   congr 2
   simp [List.getD,hj])
  rw [List.take_length] at h
  exact h
theorem any_all (t:List Int) (n:Int):(t.any fun x=>!Jk x n)=!(t.all fun x=>Jk x n):=by
 induction t with
 | nil=>rfl
 | cons a t ih=>rw [List.any_cons,List.all_cons,ih];cases Jk a n<;>simp
set_option maxHeartbeats 1600000 in
theorem gValidL (t:List Int) (n:Int) (hn:n≤128) (N:Nat) (ta:Option Addr) (tc:Nat) (w:World) (hT:AtN N w ta (Qm t)) (hl:t.length≤100000000000000) (hw:N≤w.heap.size) :
  Calls Tryz.prog 101 #[.slice ta t.length tc,.int .i64 n] w fun e w'=>e = .returned (.bool (t.all fun x=>Jk x n))∧Below w.heap.size w w':=by
 have hmf:∀ (fn:Fn) (first cap:Array Value) (w:World),(Instr.makeFunc fn first cap).run Tryz.prog w = .ok (.func fn first cap) w:=fun _ _ _ _=>rfl
 have hB:=Qe w (.cells #[.int .i64 n] 3 (0,0))
 have KC:=Q21 t n w.heap.size hn N ta tc (w.alloc (.cells #[.int .i64 n] 3 (0,0))) (hT.below hB hw) hl (by simp) (Q5 (Qn w (.cells #[.int .i64 n] 3 (0,0))) 0 rfl)
 rw [any_all] at KC
 have HB:=Lib.hid hB
 generalize (t.all fun x=>Jk x n)=r at *
 clear hT hB
 go_enter Tryz.func101,Tryz.ntmps101
 go_wp2_with fail
 refine KC.mono ?_
 rintro e w1 ⟨rfl,q,rfl⟩
 go_wp2_with fail
 go_ret
 exact ⟨by simp,⟨HB.out.os,HB.out.tape,HB.out.output,HB.out.size,HB.out.block⟩⟩
theorem Q1h (x y:Lt):ltOf Q3h x y=Q4m x.1 y.1:=by
 have hx:=Q1l x.1
 have hy:=Q1l y.1
 unfold ltOf Q3h
 rw [Bool.eq_iff_iff,decide_eq_true_eq,Q06]
 split<;>omega
theorem swoLt:SWO (ltOf Q3h) where
 irrefl x:=by rw [Q1h,Q7h];omega
 trans x y z h1 h2:=by rw [Q1h,Q06] at *;omega
 ntrans x y z h1 h2:=by rw [Q1h,Q7h] at *;omega
theorem Q1y (ts:List Lt):ts.map Wh=Qm (ts.map (·.1)):=by simp [Qm,Wh,Function.comp_def]
theorem lts_of {t:List Int} (h:∀ x∈t,-128≤x∧x≤128):∃ ts:List Lt,t=ts.map (·.1):=by
 induction t with
 | nil=>exact ⟨[],rfl⟩
 | cons a t ih =>
  obtain ⟨ts,rfl⟩:=ih fun x hx=>h x (by simp [hx])
  exact ⟨⟨a,h a (by simp)⟩::ts,rfl⟩
theorem RowV.cells {w:World} {g n cap:Nat} {X:List Int} (h:RowV (inW w) 3 1 (.slice (some ⟨g,0,none⟩) n cap) n (Qm X)):n≤cap∧g<w.heap.size∧(∀ i,w.frozen? ⟨g,i,none⟩=false)∧∀ i y,X[i]?=some y→w.cell? ⟨g,i,none⟩=some (.int .i64 y):=by
 cases h with
 | @row _ _ _ _ cur hr =>
  refine ⟨hr.le,Q9 hr.blk,fun i=>Qd hr.blk i,fun i y hi=>?_⟩
  have h2:=hr.tk
  have hi':(Qm X)[i]?=some (.int .i64 y):=Jb _ _ _ hi
  rw [←h2,List.getElem?_take] at hi'
  split at hi'
  ·exact Q5 hr.blk i (by simpa using hi')
  ·cases hi'
def Q4p (t:List Int) (w:World) (e:Ending) (w':World):Prop :=
 ∃ v zs,e = .returned v∧zs.Perm t∧(∀ i j,i<j→j<zs.length→Q4m (zs.getD j 0) (zs.getD i 0)=false)∧OwnI w' w.heap.size [] v (Lib.compact zs)∧Below w.heap.size w w'
theorem clone_any (t:List Int) (N:Nat) (ta:Option Addr) (tc:Nat) (w:World) (hT:AtN N w ta (Qm t)) (hl:t.length≤10000000000000) :
  Calls Tryz.prog 73 #[.slice ta t.length tc] w fun e w'=>∃ v,e = .returned v∧w'.ownsRow w.heap.size 3 1 v t.length (Qm t)∧(0<t.length→v≠.slice none 0 0)∧Below w.heap.size w w':=by
 by_cases h0:t.length=0
 ·obtain rfl:t=[]:=List.length_eq_zero_iff.1 h0
  cases ta with
  | none=>exact (Tryz.slices_Clone_int_nil 0 tc w).mono fun e w' ⟨he,hw⟩=>⟨_,he,by subst hw;exact ⟨rfl,.inl ⟨rfl,rfl⟩⟩,fun h=>absurd h (by simp),by rw [hw];exact Below.refl _ _⟩
  | some a=>exact (Tryz.slices_Clone_int_zero a tc w).mono fun e w' ⟨v,he,ho,_,hb⟩=>⟨v,he,ho,fun h=>absurd h (by simp),hb⟩
 ·obtain ⟨g,o,_,rfl,hcell⟩:=hT.base (by rw [show (Qm t).length=t.length by simp [Qm]];omega)
  have h:=Tryz.slices_Clone_int g o t.length tc t w (Nat.le_refl _) (by omega) (fun j hj=>hcell j (.int .i64 (t.getD j 0)) (Jb _ _ _ (by simp [List.getD,hj])))
  rw [List.take_length] at h
  exact h.mono fun e w' ⟨v,he,ho,hn,hb⟩=>⟨v,he,ho,fun _=>hn,hb⟩
theorem Q6p {B:Nat} {w:World} (q:Nat):RowKit.Below B w (w.drewN q):=⟨rfl,rfl,rfl,Nat.le_refl _,fun _ _=>rfl⟩
set_option maxHeartbeats 1600000 in
set_option maxRecDepth 100000 in
theorem ins_none (p:Option Addr) (cap:Nat) (fv:Value) (w:World):Calls Tryz.prog 161 #[.slice p 0 cap,.int .i64 0,.int .i64 0,fv] w fun e w'=>e = .returned (.tuple #[])∧RowKit.Below w.heap.size w w':=by
 go_enter Tryz.func161,Tryz.ntmps161
 go_wp2_with fail
 go_loopw [8] (fun t8 wr=>t8 = .int .i64 1∧Hid (RowKit.Below w.heap.size w wr)) (fun _ _=>0)
 case atStart=>exact ⟨rfl,RowKit.Below.refl _ _⟩
 case round =>
  obtain ⟨rfl,HB⟩:=hrel
  go_wp2_with fail
  exact ⟨rfl,_,by simp [results,Tryz.results161],rfl,HB.out⟩
set_option maxHeartbeats 1600000 in
set_option maxRecDepth 100000 in
theorem pdq_none (p:Option Addr) (cap:Nat) (lim fv:Value) (w:World):Calls Tryz.prog 150 #[.slice p 0 cap,.int .i64 0,.int .i64 0,lim,fv] w fun e w'=>e = .returned (.tuple #[])∧RowKit.Below w.heap.size w w':=by
 go_enter Tryz.func150,Tryz.ntmps150
 go_wp2_with fail
 go_loopw [1,2] (fun t1 t2 wr=>t1 = .int .i64 0∧t2 = .int .i64 0∧Hid (RowKit.Below w.heap.size w wr)) (fun _ _ _=>0)
 case atStart=>exact ⟨rfl,rfl,RowKit.Below.refl _ _⟩
 case round =>
  obtain ⟨rfl,rfl,HB⟩:=hrel
  go_wp2_with fail
  refine (ins_none p cap fv wr).mono ?_
  rintro e w2 ⟨rfl,hb⟩
  have HB2:=Lib.hid (HB.out.trans (hb.mono HB.out.size))
  clear hb HB
  go_wp2_with fail
  exact ⟨rfl,_,by simp [results,Tryz.results150],rfl,HB2.out⟩
set_option maxHeartbeats 1600000 in
set_option maxRecDepth 100000 in
theorem sort_none (p:Option Addr) (cap:Nat) (fv:Value) (w:World):Calls Tryz.prog 130 #[.slice p 0 cap,fv] w fun e w'=>e = .returned (.tuple #[])∧RowKit.Below w.heap.size w w':=by
 have KL:=Tryz.bits_Len 0 w (by omega) (by omega)
 go_enter Tryz.func130,Tryz.ntmps130
 go_wp2_with fail
 refine KL.mono ?_
 rintro e w1 ⟨rfl,rfl⟩
 go_wp2_with fail
 refine (pdq_none p cap _ fv w1).mono ?_
 rintro e w2 ⟨rfl,hb⟩
 have HB:=Lib.hid hb
 clear hb
 go_wp2_with fail
 exact ⟨rfl,_,by simp [results,Tryz.results130],rfl,HB.out⟩
theorem sort_row (ts:List Lt) (base g n cap:Nat) (w:World) (ho:w.ownsRow base 3 1 (.slice (some ⟨g,0,none⟩) n cap) n (ts.map Wh)) (hb:base≤w.heap.size) (hgb:base≤g) (hg:g<w.heap.size) (hn:ts.length=n) (hl:n≤12) (hH:Holds Wh w g 0 ts.toArray) :
  Calls Tryz.prog 130 #[.slice (some ⟨g,0,none⟩) n cap,.func (.func 131) #[] #[]] w fun e w'=>e = .returned (.tuple #[])∧∃ zs:List Int,zs.Perm (ts.map (·.1))∧(∀ i j,i<j→j<zs.length→Q4m (zs.getD j 0) (zs.getD i 0)=false)∧zs.length=n ∧
   w'.ownsRow base 3 1 (.slice (some ⟨g,0,none⟩) n cap) n (Qm zs)∧RowKit.Below base w w':=by
 have eg:∀ args w,(callFunc 131 args).run Tryz.prog w = .ok (.enter 131 args) w:=enters_of Tryz.func131 (by kernel_rfl) rfl
 have hcmp:CmpReads Tryz.prog 131 #[] Wh Q3h g 0 ts.toArray.size w:=fun m os dk _ x y=>(sOrder1 x y _).mono fun e w' ⟨he,hw⟩=>⟨he,0,hw⟩
 have hsz:ts.toArray.size=n:=by simpa using hn
 have h:=Tryz.slices_SortFunc_small_sorted Wh (fun _=>rfl) Q3h swoLt 131 #[] g 0 cap ts.toArray w eg hcmp hH (by rw [hsz];exact hl) (fun k W hk=>(Tryz.bits_Len (k:Int) W (by omega) (by omega)).mono fun e w' ⟨he,hw⟩=>⟨⟨_,he⟩,hw⟩)
 rw [hsz] at h
 refine h.mono ?_
 rintro e w' ⟨he,d',q,hp,hs,rfl⟩
 rw [show putRow Wh w g 0 d'=putRow Wh (Sort.ahead w 0) g 0 d' from rfl,drewN_world Wh (w:=w) (n:=0) (blk:=g) (off:=0) (dk:=d') rfl q]
 obtain ⟨h1,_,h3⟩:=hp
 rw [hsz] at h1
 have hd:d'.toList.length=n:=by simpa using h1
 have e1:d'.extract 0 n=d':=by rw [←h1];exact Array.extract_size
 have e2:ts.toArray.extract 0 n=ts.toArray:=by rw [←hsz];exact Array.extract_size
 rw [e1,e2] at h3
 refine ⟨he,d'.toList.map (·.1),h3.map _,fun i j hij hj=>?_,by simpa using h1,?_,Lib.below_putRow (RowKit.Below.refl _ _) hgb⟩
 ·rw [List.length_map] at hj
  have:=hs i j (Nat.zero_le _) hij (by rw [←h1];simpa using hj)
  rw [Q1h] at this
  have ei:∀ k,k<d'.toList.length→(d'.toList.map (·.1)).getD k 0=(d'[k]!).1:=fun k hk=>by
   have hk':k<d'.size:=by simpa using hk
   rw [getElem!_pos d' k hk']
   simp [List.getD,hk']
  rw [ei j hj,ei i (by omega)]
  exact this
 ·have hp2:=Lib.ownsRow_putRow (enc:=Wh) (q:=0+q) (k:=n) (ys:=d'.toList) ho hd (Nat.le_refl _)
  rw [List.take_of_length_le (by omega)] at hp2
  have hr:=RowV.of_own hp2
  rw [Q1y] at hr
  have e3:d'.toList.toArray=d':=by simp
  rw [e3] at hr
  exact hr.1.own hr.2
theorem Q66 (zs:List Int) (base g n cap:Nat) (w:World) (ho:w.ownsRow base 3 1 (.slice (some ⟨g,0,none⟩) n cap) n (Qm zs)) (hgb:base≤g) (hn:zs.length=n) (hl:n≤10000000000000) :
  Calls Tryz.prog 133 #[.slice (some ⟨g,0,none⟩) n cap] w fun e w'=>∃ v,e = .returned v∧OwnI w' base [] v (Lib.compact zs)∧RowKit.Below base w w':=by
 have hr:=RowV.of_own ho
 obtain ⟨c1,c2,c3,c4⟩:=hr.1.cells
 have hH:Holds (Value.int .i64) w g 0 zs.toArray:=fun j hj=>by
  have hj':j<zs.length:=by simpa using hj
  rw [Nat.zero_add]
  refine ⟨?_,c3 j⟩
  rw [c4 j zs[j] (by simp [hj'])]
  congr 2
  rw [getElem!_pos zs.toArray j hj];simp
 have h:=Tryz.slices_Compact_int g 0 cap zs w hH (by omega) (by omega)
 rw [hn] at h
 refine h.mono ?_
 rintro e w' ⟨rfl,q,rfl⟩
 have hcl:=Lib.compact_length_le zs
 have hp2:=Lib.ownsRow_putRow (enc:=Value.int .i64) (q:=q) (k:=(Lib.compact zs).length) (ys:=Lib.compact zs++List.replicate (n-(Lib.compact zs).length) 0) ho (by simp;omega) (by omega)
 rw [List.take_left] at hp2
 have hr2:=RowV.of_own hp2
 exact ⟨_,rfl,⟨hr2.1,hr2.2,by simp⟩,Lib.below_putRow (RowKit.Below.refl _ _) hgb⟩
set_option maxHeartbeats 1600000 in
theorem gOrder (t:List Int) (ht:∀ x∈t,-128≤x∧x≤128) (N:Nat) (ta:Option Addr) (tc:Nat) (w:World) (hT:AtN N w ta (Qm t)) (hl:t.length≤12) (hw:N≤w.heap.size) :
  Calls Tryz.prog 102 #[.slice ta t.length tc] w (Q4p t w):=by
 have K1:=clone_any t N ta tc w hT (by omega)
 obtain ⟨Post,hPost⟩:∃ P:Ending→World→Prop,P=Q4p t w:=⟨_,rfl⟩
 rw [←hPost]
 have HP:=Lib.hid hPost
 clear hT hPost
 by_cases h0:t.length=0
 ·obtain rfl:t=[]:=List.length_eq_zero_iff.1 h0
  have K2:∀ (v:Value) (w1:World),w1.ownsRow w.heap.size 3 1 v 0 []→∃ a c,v = .slice a 0 c:=fun v w1 h=>by
   obtain ⟨a,c,h2,_⟩:=own_at (M:=[]) (xs:=[]) ⟨(RowV.of_own h).1,(RowV.of_own h).2,by simp⟩
   exact ⟨a,c,h2⟩
  go_enter Tryz.func102,Tryz.ntmps102
  go_wp2_with fail
  refine K1.mono ?_
  rintro e w1 ⟨v,rfl,ho,_,hb⟩
  have HO:=Lib.hid ho
  have HB:=Lib.hid hb
  obtain ⟨a,c,rfl⟩:=K2 v w1 ho
  clear ho hb K1 K2
  go_wp2_with fail
  refine (sort_none a c (.func (.func 131) #[] #[]) w1).mono ?_
  rintro e w2 ⟨rfl,hb2⟩
  have HB2:=Lib.hid hb2
  clear hb2
  go_wp2_with fail
  refine (Tryz.slices_Compact_int_empty a c w2).mono ?_
  rintro e w3 ⟨rfl,rfl⟩
  go_wp2_with fail
  rw [HP.out]
  exact ⟨_,[],rfl,.refl _,fun i j _ h=>by simp at h,⟨(RowV.of_own HO.out).1.keep (Q4 HB2.out) (by simp),(RowV.of_own HO.out).2,by simp⟩,HB.out.trans (HB2.out.mono HB.out.size)⟩
 ·obtain ⟨ts,rfl⟩:=lts_of ht
  have hts:0<(ts.map (·.1)).length:=by omega
  have hnn:ts.length=(ts.map (·.1)).length:=by simp
  generalize hn:(ts.map (·.1)).length=n at *
  go_enter Tryz.func102,Tryz.ntmps102
  go_wp2_with fail
  refine K1.mono ?_
  rintro e w1 ⟨v,rfl,ho,hv,hb⟩
  rw [←Q1y] at ho
  obtain ⟨g,cap,rfl,hg1,hg2,hnc,_,_,hH⟩:=Lib.holds_of_ownsRow ho (hv hts)
  have K2:=sort_row ts w.heap.size g n cap w1 ho hb.size hg1 hg2 hnn hl hH
  have HB:=Lib.hid hb
  clear ho hv hb hH K1
  go_wp2_with fail
  refine K2.mono ?_
  rintro e w2 ⟨rfl,zs,z1,z2,z3,z4,z5⟩
  have K3:=Q66 zs w.heap.size g n cap w2 z4 hg1 z3 (by omega)
  have HZ:=Lib.hid (And.intro z1 z2)
  have HB2:=Lib.hid (HB.out.trans z5)
  clear z1 z2 z4 z5 K2
  go_wp2_with fail
  refine K3.mono ?_
  rintro e w3 ⟨v,rfl,hO,hB3⟩
  have HO:=Lib.hid hO
  have HB3:=Lib.hid (HB2.out.trans hB3)
  clear hO hB3 K3
  go_wp2_with fail
  rw [HP.out]
  exact ⟨_,zs,rfl,HZ.out.1,HZ.out.2,HO.out,HB3.out⟩
set_option maxHeartbeats 1600000 in
set_option maxRecDepth 100000 in
theorem gOpposite (c:List Int) (N:Nat) (ta:Option Addr) (tc:Nat) (w:World) (hT:AtN N w ta (Qm c)) (hl:c.length≤10000000000000) (hw:N≤w.heap.size) (hc:∀ x∈c,-128≤x∧x≤128) :
  Calls Tryz.prog 103 #[.slice ta c.length tc] w fun e w'=>e = .returned (.bool (Q23 c))∧Below w.heap.size w w':=by
 have HT:=Lib.hid hT
 have HYES:=Lib.hid (fun (i:Nat) (h1:0<i) (h2:i<c.length) (h3:c.getD i 0 = -(c.getD (i-1) 0))=>show Q23 c=true from Q2c.2 ⟨i,h1,h2,h3⟩)
 have HNO:=Lib.hid (fun (h:∀ i,0<i→i<c.length→¬ c.getD i 0 = -(c.getD (i-1) 0))=>show Q23 c=false from by
  rw [Bool.eq_false_iff];intro h2
  obtain ⟨i,h3,h4,h5⟩:=Q2c.1 h2
  exact h i h3 h4 h5)
 have HC:=Lib.hid (fun i (hi:i<c.length)=>hc (c.getD i 0) (by simp [List.getD,hi]))
 clear hT hc
 generalize Q23 c=r at *
 go_enter Tryz.func103,Tryz.ntmps103
 go_wp2_with fail
 go_loopw [3] (fun t3 wr=>∃ i:Nat,0<i∧(i≤c.length∨i=1)∧t3 = .int .i64 i∧Hid (∀ k,0<k→k<i→k<c.length→¬ c.getD k 0 = -(c.getD (k-1) 0))∧Hid (Below w.heap.size w wr)) (fun t3 _=>c.length-(intOf t3).toNat)
 case atStart=>exact ⟨1,by omega,.inr rfl,rfl,fun k h1 h2 _=>by omega,Below.refl _ _⟩
 case round =>
  obtain ⟨i,hi0,hi1,rfl,HK,HB⟩:=hrel
  by_cases hlt:i<c.length
  ·have hdd:decide (i<c.length)=true:=by simpa using hlt
   have h1:c[i]?=some (c.getD i 0):=by simp [List.getD,hlt]
   have h2:c[i-1]?=some (c.getD (i-1) 0):=by simp [List.getD,show i-1<c.length by omega]
   obtain ⟨b,o,hb,rfl,k0⟩:=HT.out _ _ (Jb _ _ _ h1)
   obtain ⟨b',o',hb',e,k1⟩:=HT.out _ _ (Jb _ _ _ h2)
   cases e
   have c0:=Lib.hid (Q8 HB.out (show b<w.heap.size by omega) k0)
   have c1:=Lib.hid (Q8 HB.out (show b<w.heap.size by omega) k1)
   have hx:=HC.out i hlt
   have hy:=HC.out (i-1) (by omega)
   have HY:=Lib.hid (HYES.out i hi0 hlt)
   have HN:=Lib.hid (fun (h:¬ c.getD i 0 = -(c.getD (i-1) 0))=>(show ∀ k,0<k→k<i+1→k<c.length→¬ c.getD k 0 = -(c.getD (k-1) 0) from fun k a1 a2 a3=>by
    by_cases hk:k=i
    ·subst hk;exact h
    ·exact HK.out k a1 (by omega) a3))
   have hsz:=HB.out.size
   have ei:(i:Int)-1=((i-1:Nat):Int):=by omega
   clear h1 h2 k0 k1
   generalize c.getD i 0=x at *
   generalize c.getD (i-1) 0=y at *
   go_upto_region 4 with fail
   go_cut [20] from 10 to 20 (fun t20 wx=>∃ bb,t20 = .bool bb∧Hid (bb=decide (x = -y))∧Hid (Below w.heap.size w wx))
   case first =>
    refine Qo (List.replicate 11 0) [] B0 Qu (Qi _) (by kernel_rfl) (by kernel_rfl) ?_
    refine Qb 11 (by kernel_rfl) (by rfl) ?_
    apply Exists.intro
    refine ⟨fun z hz1=>?_,?_⟩
    ·have g1:=Kl hz1.below c0.out (by omega)
     have g2:=Kl hz1.below c1.out (by omega)
     clear hz1
     simp only [List.take_succ_cons,List.take_zero]
     unfold Cx
     repeat (go_big_quiet_step (fail))
     exact wpQuiet_nil rfl
    simp only [List.drop_succ_cons,List.drop_zero]
    refine Qf ?_
    intro x2 hx2 _
    have HB2:=Lib.hid (HB.out.trans (hx2.below.mono hsz))
    clear hx2
    go_wp2_with fail
    go_meet
    case rel =>
     refine ⟨_,rfl,?_,HB2.out⟩
     show _=_
     rw [Bool.eq_iff_iff,beq_iff_eq,decide_eq_true_eq]
   case rest =>
   obtain ⟨bb,rfl,HBB,HB2⟩:=hcut
   cases bb with
   | true =>
    have HR:=Lib.hid (HY.out (of_decide_eq_true HBB.out.symm))
    clear HBB
    go_wp2_with fail
    go_ret
    exact ⟨by rw [HR.out];rfl,HB2.out⟩
   | false =>
    have HR:=Lib.hid (HN.out (of_decide_eq_false HBB.out.symm))
    clear HBB
    go_wp2_with fail
    go_roundw
    case rel=>exact ⟨i+1,by omega,.inl (by omega),by go_num,HR.out,HB2.out⟩
    case measure=>simp [intOf];omega
  ·have hdd:decide (i<c.length)=false:=by simpa using hlt
   have HR:=Lib.hid (HNO.out fun k h1 h2=>HK.out k h1 (by omega) h2)
   go_wp2_with fail
   go_ret
   exact ⟨by rw [HR.out];rfl,HB.out⟩
end Go.Proofs.YtcpehljpegfckaaGreatDoor
