/- Texts of this claim, joined: IK. -/
import Derived.Test.YtallcgpiecopcaaDoorMI07

/- The tree form is true in the same sets. Plain. -/
namespace Go.Proofs.YtallcgpiecopcaaDoor
open Go

def oddI (v : Int → Bool) : List Int → Bool → Bool
  | [], o => o
  | k :: r, o => oddI v r (o != v k)
def valG (h : Int → Bool) (v : Int → Bool) (g : Gt) : Bool :=
  if g.k = 1 then true else if g.k = 2 then h g.lit else if g.k = 3 then !(g.ins.any v) else if g.k = 4 then g.ins.all v else if g.k = 5 then g.ins.any v
  else if g.k = 6 then oddI v g.ins false else if g.k = 7 then !(oddI v g.ins false) else if g.k = 8 then (v (g.ins.getD 0 0) && v (g.ins.getD 1 0)) || (!(v (g.ins.getD 0 0)) && v (g.ins.getD 2 0)) else false
def valF (h : Int → Bool) (gs : List Gt) : Nat → Int → Bool
  | 0, _ => false
  | f + 1, i => valG h (valF h gs f) (gI gs i)
def VL (h : Int → Bool) (gs : List Gt) (k : Int) : Bool := valF h gs (k.toNat + 1) k
theorem any_cong {v v' : Int → Bool} : ∀ (l : List Int), (∀ k ∈ l, v k = v' k) → l.any v = l.any v'
  | [], _ => rfl
  | a :: r, h => by rw [List.any_cons, List.any_cons, h a (by simp), any_cong r (fun k hk => h k (by simp [hk]))]
theorem all_cong {v v' : Int → Bool} : ∀ (l : List Int), (∀ k ∈ l, v k = v' k) → l.all v = l.all v'
  | [], _ => rfl
  | a :: r, h => by rw [List.all_cons, List.all_cons, h a (by simp), all_cong r (fun k hk => h k (by simp [hk]))]
theorem odd_cong {v v' : Int → Bool} : ∀ (l : List Int) (o : Bool), (∀ k ∈ l, v k = v' k) → oddI v l o = oddI v' l o
  | [], _, _ => rfl
  | a :: r, o, h => by rw [oddI, oddI, h a (by simp), odd_cong r _ (fun k hk => h k (by simp [hk]))]
theorem valG_cong {h v v' : Int → Bool} {g : Gt} (hv : ∀ k ∈ g.ins, v k = v' k) (h8 : g.k = 8 → g.ins.length = 3) : valG h v g = valG h v' g := by
  unfold valG
  rw [any_cong g.ins hv, all_cong g.ins hv, odd_cong g.ins false hv]
  by_cases e : g.k = 8
  · obtain ⟨a, b, c, hi⟩ := len_three (h8 e)
    rw [hi] at hv ⊢
    simp only [List.getD_cons_zero, List.getD_cons_succ]
    rw [hv a (by simp), hv b (by simp), hv c (by simp)]
  · rw [if_neg e, if_neg e]
theorem valF_steps {n : Int} {h : Int → Bool} {gs : List Gt} (hok : Ok n gs) : ∀ (i : Nat), i < gs.length → ∀ (f f' : Nat), i < f → i < f' → valF h gs f i = valF h gs f' i := by
  intro i
  induction i using Nat.strongRecOn with
  | _ i ih =>
    intro hi f f' h1 h2
    obtain ⟨f, rfl⟩ : ∃ g, f = g + 1 := ⟨f - 1, by omega⟩
    obtain ⟨f', rfl⟩ : ∃ g, f' = g + 1 := ⟨f' - 1, by omega⟩
    unfold valF
    have hx : gs[i]? = some gs[i] := List.getElem?_eq_getElem hi
    rw [gI_of hx]
    refine valG_cong (fun k hk => ?_) (fun e => many_three (hok i _ hx).many e)
    obtain ⟨j, rfl, hj, _⟩ := (hok i _ hx).inp hi hk
    exact ih j hj (by omega) f f' (by omega) (by omega)
theorem VL_eq {n : Int} {h : Int → Bool} {gs : List Gt} (hok : Ok n gs) {i : Nat} {g : Gt} (hg : gs[i]? = some g) : VL h gs i = valG h (VL h gs) g := by
  have hi := (List.getElem?_eq_some_iff.1 hg).1
  unfold VL
  rw [Int.toNat_natCast, valF, gI_of hg]
  refine valG_cong (fun k hk => ?_) (fun e => many_three (hok i _ hg).many e)
  obtain ⟨j, rfl, hj, _⟩ := (hok i _ hg).inp hi hk
  exact valF_steps hok j (by omega) _ _ (by omega) (by simp)
theorem all2_any {v v' : Int → Bool} : ∀ {l m : List Int}, All2 (fun a b => v' b = v a) l m → m.any v' = l.any v ∧ m.all v' = l.all v
  | _, _, .nil => ⟨rfl, rfl⟩
  | _, _, .cons h t => by
    obtain ⟨h1, h2⟩ := all2_any t
    rw [List.any_cons, List.any_cons, List.all_cons, List.all_cons, h, h1, h2]
    exact ⟨rfl, rfl⟩
theorem all2_odd {v v' : Int → Bool} : ∀ {l m : List Int} (o : Bool), All2 (fun a b => v' b = v a) l m → oddI v' m o = oddI v l o
  | _, _, _, .nil => rfl
  | _, _, o, .cons h t => by rw [oddI, oddI, h, all2_odd _ t]
theorem valG_all2 {h v v' : Int → Bool} {g g' : Gt} (hk : g'.k = g.k) (hl : g'.lit = g.lit) (ha : All2 (fun a b => v' b = v a) g.ins g'.ins) (h8 : g.k = 8 → g.ins.length = 3) : valG h v' g' = valG h v g := by
  unfold valG
  rw [hk, hl, (all2_any ha).1, (all2_any ha).2, all2_odd false ha]
  by_cases e : g.k = 8
  · obtain ⟨a, b, c, hi⟩ := len_three (h8 e)
    have hlen := ha.length
    rw [hi] at hlen
    obtain ⟨a', b', c', hi'⟩ := len_three (show g'.ins.length = 3 by rw [hlen]; rfl)
    rw [hi, hi'] at ha
    rw [hi, hi']
    simp only [List.getD_cons_zero, List.getD_cons_succ]
    cases ha with
    | cons h1 t =>
      cases t with
      | cons h2 t =>
        cases t with
        | cons h3 t => rw [h1, h2, h3]
  · rw [if_neg e, if_neg e]
theorem val_tree {n n' : Int} {h : Int → Bool} {G G' : List Gt} (hok : Ok n G) (hok' : Ok n' G') : ∀ (i : Nat), i < G.length → ∀ (b : Nat), Stand G' b (TR G i b) → VL h G' (rootI b (TR G i b)) = VL h G i := by
  intro i
  induction i using Nat.strongRecOn with
  | _ i ih =>
    intro hi b hs
    have hx : G[i]? = some G[i] := List.getElem?_eq_getElem hi
    obtain ⟨g, hg⟩ : ∃ g, g = G[i] := ⟨_, rfl⟩
    rw [← hg] at hx
    have hG := hok i g hx
    have sub : ∀ k ∈ g.ins, ∀ (c : Nat), Stand G' c (TR G k c) → VL h G' (rootI c (TR G k c)) = VL h G k := fun k hk c hc => by
      obtain ⟨j, rfl, hj, _⟩ := hG.inp hi hk
      exact ih j hj (by omega) c hc
    have hT := TR_eq hok hx b
    rw [hT] at hs
    have all : ∀ (l : List Int), (∀ k ∈ l, k ∈ g.ins) → ∀ (c : Nat), Stand G' c (seqI (TR G) l c).1 → All2 (fun a d => VL h G' d = VL h G a) l (seqI (TR G) l c).2 := by
      intro l
      induction l with
      | nil => intro _ _ _; exact .nil
      | cons k r ihl =>
        intro hm c hc
        unfold seqI at hc ⊢
        exact .cons (sub k (hm k (by simp)) c hc.left) (ihl (fun k' hk' => hm k' (by simp [hk'])) _ hc.right)
    have hroot : rootI b (TR G i b) = ((b + (seqI (TR G) g.ins b).1.length : Nat) : Int) := by rw [hT]; unfold rootI; simp; omega
    have hx' : G'[b + (seqI (TR G) g.ins b).1.length]? = some ⟨g.k, g.lit, (seqI (TR G) g.ins b).2⟩ := hs.right 0 _ (by simp)
    rw [hroot, VL_eq hok hx, VL_eq hok' hx']
    exact valG_all2 (g' := ⟨g.k, g.lit, (seqI (TR G) g.ins b).2⟩) rfl rfl (all g.ins (fun _ h => h) b hs.left) (fun e => many_three hG.many e)
theorem eval_tree {n n' : Int} {h : Int → Bool} {G : List Gt} (hok : Ok n G) {i : Nat} (hi : i < G.length) (hok' : Ok n' (TR G i 0)) : VL h (TR G i 0) (((TR G i 0).length - 1 : Nat)) = VL h G i := by
  have e := val_tree (h := h) hok hok' i hi 0 (fun j x hj => by rw [Nat.zero_add]; exact hj)
  have e2 := rootI_nat (b := 0) (TR_pos hok hi 0)
  rw [Nat.zero_add] at e2
  rwa [e2] at e
end Go.Proofs.YtallcgpiecopcaaDoor
