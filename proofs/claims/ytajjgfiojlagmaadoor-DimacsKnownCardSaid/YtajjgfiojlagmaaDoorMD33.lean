/- Texts of this claim, joined: EG. -/
import Derived.Test.YtajjgfiojlagmaaDoorMD28
import Derived.Test.YtajjgfiojlagmaaDoorMD32

/- Files in memory, given and Same in a region that draws its order. -/
namespace Go.Proofs.YtajjgfiojlagmaaDoor
open Go.RowKit

theorem RowV.moved {B B' : Blocks} {E : TypeId} {size : Nat} {v : Value} {n : Nat} {xs : List Value} (h : RowV B E size v n xs) (hb : ∀ g ∈ rowBlk v, ∀ o, B g = some o → B' g = some o) : RowV B' E size v n xs := by
  cases h with
  | nil => exact .nil
  | @row g n cap xs cur h => exact .row (h.of (hb g (by simp [rowBlk]) _ h.blk))
theorem rowV_atx {x : World} {E : TypeId} {size : Nat} {p : Option Addr} {n m c : Nat} {xs : List Value} (h : RowV (inW x) E size (.slice p m c) n xs) : AtN x.heap.size x p xs := by
  obtain ⟨a, c', e, _, hA⟩ := rowV_at2 h
  cases e
  exact hA
theorem rows_cls {w : World} {vL : Value} {L : List (List Int)} {cl : List Value} (hL : RowV (inW w) 25 1 vL L.length cl) (hC : ∀ (i : Nat) (u : Value) (xs : List Int), cl[i]? = some u → L[i]? = some xs → RowV (inW w) 3 1 u xs.length (ints xs)) : ∃ aL cL, vL = .slice aL L.length cL ∧ ClsAt w.heap.size w aL L := by
  obtain ⟨a, c, e, _, hA⟩ := rowV_at2 hL
  refine ⟨a, c, e, fun i xs hi => ?_⟩
  have hlen := hL.length
  have hil : i < cl.length := by
    have := (List.getElem?_eq_some_iff.1 hi).1
    omega
  obtain ⟨b, o, hb, ea, hc⟩ := hA i _ (List.getElem?_eq_getElem hil)
  have hr := hC i _ xs (List.getElem?_eq_getElem hil) hi
  obtain ⟨p, c2, e2, _, hA2⟩ := rowV_at2 hr
  rw [e2] at hc
  exact ⟨b, o, p, c2, hb, ea, hc, hA2⟩
theorem DR.file {TW : TypeId} {w : World} {b : Nat} {st : DS} {v : DV} (h : DR TW w b st v) : ∃ aL cL aS cS aW cW, v.L = .slice aL st.L.length cL ∧ v.S = .slice aS st.sh.length cS ∧ v.W = .slice aW st.ws.length cW ∧ FileAt w.heap.size w aL aS aW st.L st.sh st.ws := by
  obtain ⟨cl, hL, hC⟩ := h.rL
  obtain ⟨aL, cL, e1, h1⟩ := rows_cls hL (fun i u xs a b => (hC i u xs a b).1)
  obtain ⟨aS, cS, e2, _, h2⟩ := rowV_at2 h.rS
  obtain ⟨aW, cW, e3, _, h3⟩ := rowV_at2 h.rW
  exact ⟨aL, cL, aS, cS, aW, cW, e1, e2, e3, h1, h2, h3⟩
def RGiven (n : Int) (vL vS : Value) (ws : List (Int × List UInt8)) (v : Value) (Bn : Blocks) : Prop := ∃ p c, v = .agg #[.int .i64 n, vL, vS, .slice p ws.length c] ∧ RowV Bn 59 2 (.slice p ws.length c) ws.length (wts ws)
theorem given_call (n : Int) (vL vS : Value) (hvL : ∃ p m c, vL = .slice p m c) (hvS : ∃ p m c, vS = .slice p m c) (ws : List (Int × List UInt8)) (hws : ws.length ≤ 10000000) {w : World} (a : Option Addr) (c : Nat) (hA : AtN w.heap.size w a (wts ws)) (x : World) (hx : Behind w [] x) :
    Calls Tryd.prog 11 #[.agg #[.int .i64 n, vL, vS, .slice a ws.length c]] x fun e w' => ∃ v, e = .returned v ∧ Behind x [] w' ∧ RGiven n vL vS ws v (newB [] x w') := by
  refine (gGiven n vL vS hvL hvS ws hws x a c ((hA.below hx.below (Nat.le_refl _)).mono hx.size)).mono ?_
  rintro e w' ⟨vW, rfl, ⟨hr, hge⟩, hB⟩
  obtain ⟨p, c', e2⟩ := hr.slice
  subst e2
  exact ⟨_, rfl, behind_of_below hB, p, c', rfl, hr.moved (fun g hg o ho => by rw [newB_in (.inr (hge g hg))]; exact ho)⟩
theorem true_call {f : FuncId} {vs : Array Value} {x : World} (h : Calls Tryd.prog f vs x fun e w' => e = .returned (.bool true) ∧ Below x.heap.size x w') : Calls Tryd.prog f vs x fun e w' => ∃ v, e = .returned v ∧ Behind x [] w' ∧ v = .bool true :=
  h.mono fun e w' ⟨he, hB⟩ => ⟨_, he, behind_of_below hB, rfl⟩
theorem same2_call (n : Int) (L : List (List Int)) (sh : List Int) (ws : List (Int × List UInt8)) (aL aS bL bS : Option Addr) (cL cS dL dS : Nat) (hl : L.length ≤ 100000000) (hll : ∀ xs ∈ L, xs.length ≤ 100000000) (hsl : sh.length ≤ 100000000) (hwl : ws.length ≤ 100000000) {w : World} (hA : ClsAt w.heap.size w aL L ∧ AtN w.heap.size w aS (ints sh)) (hB : ClsAt w.heap.size w bL L ∧ AtN w.heap.size w bS (ints sh))
    {B1 B2 : Blocks} {p q : Option Addr} {c d : Nat} (hp : RowV B1 59 2 (.slice p ws.length c) ws.length (wts ws)) (hq : RowV B2 59 2 (.slice q ws.length d) ws.length (wts ws)) (x : World) (hx : Behind w [] x) (h1 : Has B1 x) (h2 : Has B2 x) :
    Calls Tryd.prog 10 #[.agg #[.int .i64 n, .slice aL L.length cL, .slice aS sh.length cS, .slice p ws.length c], .agg #[.int .i64 n, .slice bL L.length dL, .slice bS sh.length dS, .slice q ws.length d]] x fun e w' => ∃ v, e = .returned v ∧ Behind x [] w' ∧ v = .bool true :=
  true_call (xSame n L sh ws aL aS p bL bS q cL cS c dL dS d hl hll hsl hwl x ⟨(hA.1.below hx.below (Nat.le_refl _)).mono hx.size, (hA.2.below hx.below (Nat.le_refl _)).mono hx.size, rowV_atx (hp.of_has h1)⟩ ⟨(hB.1.below hx.below (Nat.le_refl _)).mono hx.size, (hB.2.below hx.below (Nat.le_refl _)).mono hx.size, rowV_atx (hq.of_has h2)⟩)
end Go.Proofs.YtajjgfiojlagmaaDoor
