/- Texts of this claim, joined: HG. -/
import Derived.Test.YtmaiofimmjedjaaDoorMW23
import Derived.Test.YtmaiofimmjedjaaDoorMW24

/- The pieces of a formula, all of them, by whatever visitor: what holds on the way. -/
namespace Go.Proofs.YtmaiofimmjedjaaDoor
open Go.RowKit Go.Maps Go.MapKept

def nmE : Array MapEntry := #[⟨.int .i64 4, .string ⟨#[97, 110, 100, 40]⟩, 0⟩, ⟨.int .i64 5, .string ⟨#[111, 114, 40]⟩, 1⟩, ⟨.int .i64 6, .string ⟨#[120, 111, 114, 40]⟩, 2⟩, ⟨.int .i64 8, .string ⟨#[105, 102, 40]⟩, 3⟩]
theorem nm_look {w : World} {b : Nat} (hb : w.heap[b]? = some (.map nmE 4)) (k : Int) (hk : k = 4 ∨ k = 5 ∨ k = 6 ∨ k = 8) : (Instr.lookup 70 (.map (some b)) (.int .i64 k) false).run Tryd.prog w = .ok (.string ⟨(nameI k ++ [40]).toArray⟩) w := by
  rcases hk with rfl | rfl | rfl | rfl
  · exact map_look Tryd.underlying70 hb 4 (by omega) (j := 0) (by rfl)
  · exact map_look Tryd.underlying70 hb 5 (by omega) (j := 1) (by rfl)
  · exact map_look Tryd.underlying70 hb 6 (by omega) (j := 2) (by rfl)
  · exact map_look Tryd.underlying70 hb 8 (by omega) (j := 3) (by rfl)

set_option maxHeartbeats 3200000 in
set_option maxRecDepth 100000 in
theorem gChainsG (w : World) : Calls Tryd.prog 38 #[] w fun e w' => ∃ g, w.heap.size ≤ g ∧ e = .returned (.map (some g)) ∧ Below w.heap.size w w' ∧ w'.heap[g]? = some (.map chE 3) := by
  obtain ⟨Post, hPost⟩ : ∃ P : Ending → World → Prop, P = fun e w' => ∃ g, w.heap.size ≤ g ∧ e = .returned (.map (some g)) ∧ Below w.heap.size w w' ∧ w'.heap[g]? = some (.map chE 3) := ⟨_, rfl⟩
  rw [← hPost]
  have HP := Lib.hid hPost
  clear hPost
  have hmm : ∀ (ty : TypeId) (w : World), (Instr.makeMap ty none).run Tryd.prog w = .ok (.map (some w.heap.size)) (w.alloc (.map #[] 0)) := fun _ _ => rfl
  have h0 : (w.alloc (.map #[] 0)).heap[w.heap.size]? = some (.map #[] 0) := heap_alloc_new w _
  obtain ⟨w1, r1, h1, b1⟩ := map_put Tryd.underlying73 h0 4 (.agg #[.string ⟨#[124]⟩, .int .i64 5]) (by omega) (by rfl)
  obtain ⟨w2, r2, h2, b2⟩ := map_put Tryd.underlying73 h1 5 (.agg #[.string ⟨#[94]⟩, .int .i64 6]) (by omega) (by rfl)
  obtain ⟨w3, r3, h3, b3⟩ := map_put Tryd.underlying73 h2 6 (.agg #[.string ⟨#[38]⟩, .int .i64 4]) (by omega) (by rfl)
  have HC := Lib.hid (show w3.heap[w.heap.size]? = some (.map chE 3) from h3)
  have hb0 := below_one w (.map #[] 0)
  have HB := Lib.hid (show Below w.heap.size w w3 from (hb0.trans (b1.below_of (fun k hk => by simp at hk; omega) hb0.size)).trans (Below.trans (b2.below_of (b := w.heap.size) (fun k hk => by simp at hk; omega) (by have := b1.size; have := hb0.size; omega)) (b3.below_of (fun k hk => by simp at hk; omega) (by have := b1.size; have := b2.size; have := hb0.size; omega))))
  clear h0 h1 h2 h3 b1 b2 b3 hb0
  go_enter Tryd.func38, Tryd.ntmps38
  go_wp2_with fail
  rw [HP.out]
  exact ⟨_, Nat.le_refl _, rfl, HB.out, HC.out⟩

theorem decN_small (v : Nat) (h : v < 1000) : (decN v).length ≤ 3 := by
  unfold decN
  split
  · simp
  split
  · simp
  · simp
structure PcH (N : Nat) (vf : FuncId) (p1 p2 : Value) (n : Int) (gs : List Gt) (a : Option Addr) (g : Gt) (i : Nat) (ip : Option Addr) (J : List Pc → List Nat → World → Prop) (V : List Nat) (w : World) : Prop where
  vis : Vis N vf p1 p2 (pcsI gs g) J
  j : J [] V w
  vl : ∀ b ∈ V, b < w.heap.size
  hN : N ≤ w.heap.size
  c : CircAt N w a gs
  ins : AtN N w ip (ints g.ins)
  ok : OkG n gs i g
  hi : i < gs.length
  gl : gs.length ≤ 4096
  il : g.ins.length ≤ 65536
  n128 : n ≤ 128
  vars : ∀ x, Below N w x → VarsI x
structure PcS (vf : FuncId) (p1 p2 : Value) (n : Int) (gs : List Gt) (a : Option Addr) (ca : Nat) (g : Gt) (ip : Option Addr) (ic : Nat) (J : List Pc → List Nat → World → Prop) (V : List Nat) (w : World) (vb sb pb gb cb : Nat) (d : List Pc) (V' : List Nat) (x : World) : Prop where
  j : J d V' x
  o : Own5 vf p1 p2 n gs a ca g ip ic vb sb pb gb cb V' x
  b : Behind w V x
  n : ∀ b ∈ V', b ∈ V ∨ w.heap.size ≤ b
section
variable {N : Nat} {vf : FuncId} {p1 p2 : Value} {n : Int} {gs : List Gt} {a : Option Addr} {ca : Nat} {g : Gt} {i : Nat} {ip : Option Addr} {ic : Nat} {J : List Pc → List Nat → World → Prop} {V : List Nat} {w : World} {vb sb pb gb cb : Nat} {d : List Pc} {V' : List Nat} {x : World}
theorem PcS.fin (S : PcS vf p1 p2 n gs a ca g ip ic J V w vb sb pb gb cb d V' x) : Vd J d V w (.returned (.tuple #[])) x := ⟨rfl, V', S.j, S.b, S.n⟩
theorem PcS.end_ (S : PcS vf p1 p2 n gs a ca g ip ic J V w vb sb pb gb cb d V' x) {d2 : List Pc} {e : Ending} {x' : World} (h : Vd J d2 V' x e x') : e = .returned (.tuple #[]) ∧ ∃ V2, PcS vf p1 p2 n gs a ca g ip ic J V w vb sb pb gb cb d2 V2 x' ∧ Behind x V' x' := by
  obtain ⟨rfl, V2, h1, h2, h3⟩ := h
  exact ⟨rfl, V2, ⟨h1, S.o.keep h2 h3, S.b.trans h2 S.n, fun b hb => (h3 b hb).elim (S.n b) (fun e => .inr (Nat.le_trans S.b.size e))⟩, h2⟩
theorem PcS.below (H : PcH N vf p1 p2 n gs a g i ip J V w) (S : PcS vf p1 p2 n gs a ca g ip ic J V w vb sb pb gb cb d V' x) {x' : World} (hb : Below x.heap.size x x') : PcS vf p1 p2 n gs a ca g ip ic J V w vb sb pb gb cb d V' x' :=
  ⟨H.vis.later _ _ _ _ S.j hb, S.o.below hb, S.b.of_below hb, S.n⟩
theorem PcS.low (H : PcH N vf p1 p2 n gs a g i ip J V w) (S : PcS vf p1 p2 n gs a ca g ip ic J V w vb sb pb gb cb d V' x) : Below N w x := S.b.below_of (fun b hb => H.vis.ge _ _ _ H.j b hb) H.hN
theorem PcS.circ (H : PcH N vf p1 p2 n gs a g i ip J V w) (S : PcS vf p1 p2 n gs a ca g ip ic J V w vb sb pb gb cb d V' x) : CircAt N x a gs := H.c.below (S.low H) (Nat.le_refl _)
theorem PcS.ins (H : PcH N vf p1 p2 n gs a g i ip J V w) (S : PcS vf p1 p2 n gs a ca g ip ic J V w vb sb pb gb cb d V' x) : AtN N x ip (ints g.ins) := H.ins.below (S.low H) (Nat.le_refl _)
theorem PcS.say (H : PcH N vf p1 p2 n gs a g i ip J V w) (S : PcS vf p1 p2 n gs a ca g ip ic J V w vb sb pb gb cb d V' x) (t : List UInt8) (u : List (List UInt8)) (rest : List Pc) (hL : pcsI gs g = d ++ .s t u :: rest) :
    Calls Tryd.prog 33 #[.string ⟨t.toArray⟩, .pointer (some ⟨vb, 0, none⟩)] x fun e x' => e = .returned (.tuple #[]) ∧ ∃ V2, PcS vf p1 p2 n gs a ca g ip ic J V w vb sb pb gb cb (d ++ [.s t u]) V2 x' ∧ Behind x V' x' :=
  (say_piece H.vis S.o.o2 d t u rest hL S.j).mono fun _ _ h => S.end_ h
theorem PcS.put (H : PcH N vf p1 p2 n gs a g i ip J V w) (S : PcS vf p1 p2 n gs a ca g ip ic J V w vb sb pb gb cb d V' x) (k : Int) (p : Bool) (rest : List Pc) (hL : pcsI gs g = d ++ (putI k p ++ rest)) :
    Calls Tryd.prog 34 #[.int .i64 k, .bool p, .pointer (some ⟨sb, 0, none⟩), .pointer (some ⟨vb, 0, none⟩)] x fun e x' => e = .returned (.tuple #[]) ∧ ∃ V2, PcS vf p1 p2 n gs a ca g ip ic J V w vb sb pb gb cb (d ++ putI k p) V2 x' ∧ Behind x V' x' :=
  (gPut H.vis S.o.o2 d k p rest hL S.j).mono fun _ _ h => S.end_ h
theorem PcS.btw (H : PcH N vf p1 p2 n gs a g i ip J V w) (S : PcS vf p1 p2 n gs a ca g ip ic J V w vb sb pb gb cb d V' x) (sep : List UInt8) (u : List (List UInt8)) (own : Nat) (hown : own ≤ 7) (rest : List Pc) (hL : pcsI gs g = d ++ (betweenI gs sep u own g.ins ++ rest)) :
    Calls Tryd.prog 35 #[.string ⟨sep.toArray⟩, .int .i64 (own : Nat), .pointer (some ⟨gb, 0, none⟩), .pointer (some ⟨sb, 0, none⟩), .pointer (some ⟨pb, 0, none⟩), .pointer (some ⟨cb, 0, none⟩)] x fun e x' => e = .returned (.tuple #[]) ∧ ∃ V2, PcS vf p1 p2 n gs a ca g ip ic J V w vb sb pb gb cb (d ++ betweenI gs sep u own g.ins) V2 x' ∧ Behind x V' x' :=
  (gBetween H.vis S.o d sep u own hown rest hL S.j (Nat.le_trans H.hN S.b.size) (S.circ H) (S.ins H) (fun k hk => by have h1 := H.ok.ins k hk; have h2 := H.hi; omega) H.gl H.il).mono fun _ _ h => S.end_ h
end
end Go.Proofs.YtmaiofimmjedjaaDoor
