/- Normal forms: ascending variables; a normal form is its own one. Plain. -/
import Derived.Test.YtchamkbnapjidaaDoorSM
import Derived.KernelRfl
namespace Go.Proofs.YtchamkbnapjidaaDoor
open Go

/-- The entry of a variable with this net coefficient. -/
def NLv (f : Nat → Int) (v : Nat) : List (Int × Int) := if 0 < f v then [(f v, (v : Int))] else if f v < 0 then [(-f v, -(v : Int))] else []
def NL (f : Nat → Int) : Nat → List (Int × Int)
  | 0 => []
  | k + 1 => NL f k ++ NLv f k
theorem NL_succ (f : Nat → Int) (k : Nat) : NL f (k + 1) = NL f k ++ NLv f k := rfl
theorem nLoop_step (s : PS) (k : Nat) : nLoop s (List.range (k + 1)) = nStep s (nLoop s (List.range k)) k := by
  unfold nLoop
  rw [List.range_succ, List.foldl_append]; rfl
def netS (s : PS) (v : Nat) : Int := ofS s v s.L.length - ofS s (-(v : Int)) s.L.length
theorem nLoop_NL (s : PS) : ∀ k, (nLoop s (List.range k)).C = (NL (netS s) k).map (·.1) ∧ (nLoop s (List.range k)).L = (NL (netS s) k).map (·.2) ∧ (nLoop s (List.range k)).t = sumAbs ((NL (netS s) k).map (·.1)) ∧
    ((∀ v, v < k → min (ofS s v s.L.length) (ofS s (-(v : Int)) s.L.length) = 0) → (nLoop s (List.range k)).m = s.m)
  | 0 => ⟨rfl, rfl, rfl, fun _ => rfl⟩
  | k + 1 => by
    obtain ⟨i1, i2, i3, i4⟩ := nLoop_NL s k
    rw [nLoop_step]
    generalize nLoop s (List.range k) = st at *
    unfold nStep
    simp only [NL, List.map_append]
    have hf : netS s k = ofS s k s.L.length - ofS s (-(k : Int)) s.L.length := rfl
    refine ⟨?_, ?_, ?_, fun h => ?_⟩
    · unfold NLv
      rw [hf, i1]
      generalize ofS s k s.L.length = p
      generalize ofS s (-(k : Int)) s.L.length = q
      by_cases h1 : q < p
      · rw [if_pos h1, if_pos (show 0 < p - q by omega)]; rfl
      · rw [if_neg h1, if_neg (show ¬ 0 < p - q by omega)]
        by_cases h2 : p < q
        · rw [if_pos h2, if_pos (show p - q < 0 by omega)]; simp; omega
        · rw [if_neg h2, if_neg (show ¬ p - q < 0 by omega)]; simp
    · unfold NLv
      rw [hf, i2]
      generalize ofS s k s.L.length = p
      generalize ofS s (-(k : Int)) s.L.length = q
      by_cases h1 : q < p
      · rw [if_pos h1, if_pos (show 0 < p - q by omega)]; rfl
      · rw [if_neg h1, if_neg (show ¬ 0 < p - q by omega)]
        by_cases h2 : p < q
        · rw [if_pos h2, if_pos (show p - q < 0 by omega)]; rfl
        · rw [if_neg h2, if_neg (show ¬ p - q < 0 by omega)]; simp
    · rw [sumAbs_append, i3]
      unfold NLv
      rw [hf]
      generalize ofS s k s.L.length = p
      generalize ofS s (-(k : Int)) s.L.length = q
      by_cases h1 : q < p
      · rw [if_pos (show 0 < p - q by omega)]; simp [sumAbs_cons, sumAbs, absI]; omega
      · rw [if_neg (show ¬ 0 < p - q by omega)]
        by_cases h2 : p < q
        · rw [if_pos (show p - q < 0 by omega)]; simp [sumAbs_cons, sumAbs, absI]; omega
        · rw [if_neg (show ¬ p - q < 0 by omega)]; simp [sumAbs]; omega
    · rw [i4 (fun v hv => h v (by omega)), h k (by omega)]; omega

theorem NL_len (g : Nat → Int) (m : Int) (K : Nat) : ((NL g K).map (·.1)).length = ((NL g K).map (·.2)).length := by simp
theorem NL_asc (g : Nat → Int) (g0 : g 0 = 0) : ∀ K, ((NL g K).map (·.2)).Pairwise (fun x y => absI x < absI y) ∧ (∀ x ∈ NL g K, x.2 ≠ 0 ∧ absI x.2 < K ∧ 1 ≤ x.1)
  | 0 => ⟨by simp [NL], by simp [NL]⟩
  | K + 1 => by
    obtain ⟨h1, h2⟩ := NL_asc g g0 K
    have hv : ∀ x ∈ NLv g K, absI x.2 = K ∧ x.2 ≠ 0 ∧ 1 ≤ x.1 := fun x hx => by
      have hK : g K ≠ 0 → K ≠ 0 := fun h e => h (e ▸ g0)
      unfold NLv at hx
      split at hx
      · rw [List.mem_singleton] at hx
        subst hx
        have := hK (by omega)
        unfold absI
        simp only
        refine ⟨by rw [if_neg (by omega)], by omega, by omega⟩
      · split at hx
        · rw [List.mem_singleton] at hx
          subst hx
          have := hK (by omega)
          unfold absI
          simp only
          refine ⟨by rw [if_pos (by omega)]; omega, by omega, by omega⟩
        · simp at hx
    refine ⟨?_, fun x hx => ?_⟩
    · rw [NL, List.map_append, List.pairwise_append]
      refine ⟨h1, ?_, fun a ha b hb => ?_⟩
      · unfold NLv; split <;> (try split) <;> simp
      · obtain ⟨x, hx, rfl⟩ := List.mem_map.1 ha
        obtain ⟨y, hy, rfl⟩ := List.mem_map.1 hb
        have := (h2 x hx).2.1
        have := (hv y hy).1
        omega
    · rw [NL] at hx
      rcases List.mem_append.1 hx with h | h
      · have := h2 x h
        refine ⟨this.1, by omega, this.2.2⟩
      · have := hv x h
        refine ⟨this.2.1, by omega, this.2.2⟩
/-- The coefficients of such a sum. -/
theorem NL_of (g : Nat → Int) (g0 : g 0 = 0) (m : Int) : ∀ K (v : Nat), ofS ⟨(NL g K).map (·.1), (NL g K).map (·.2), m⟩ v (NL g K).length = (if v < K ∧ 0 < g v then g v else 0) ∧ ofS ⟨(NL g K).map (·.1), (NL g K).map (·.2), m⟩ (-(v : Int)) (NL g K).length = (if v < K ∧ g v < 0 then -g v else 0)
  | 0, v => ⟨rfl, rfl⟩
  | K + 1, v => by
    obtain ⟨h1, h2⟩ := NL_of g g0 m K v
    have hl : (NL g K).length = ((NL g K).map (·.1)).length := by simp
    have hll : ((NL g K).map (·.1)).length = ((NL g K).map (·.2)).length := by simp
    have hK : g K ≠ 0 → K ≠ 0 := fun h e => h (e ▸ g0)
    unfold ofS at *
    rw [NL]
    unfold NLv
    by_cases p1 : 0 < g K
    · have hK1 := hK (by omega)
      rw [if_pos p1, List.map_append, List.map_append, List.length_append]
      simp only [List.map_cons, List.map_nil, List.length_singleton]
      rw [hl, valS_old _ hll, valS_old _ hll, ← hl, h1, h2]
      by_cases e : K = v
      · subst e
        refine ⟨?_, ?_⟩
        · rw [if_pos (by simp), if_neg (by omega), if_pos (by omega)]; omega
        · rw [if_neg (by simp; omega), if_neg (by omega), if_neg (by omega)]
      · refine ⟨?_, ?_⟩
        · rw [if_neg (by simp; omega)]
          split <;> split <;> first | rfl | omega
        · rw [if_neg (by simp; omega)]
          split <;> split <;> first | rfl | omega
    · rw [if_neg p1]
      by_cases p2 : g K < 0
      · have hK1 := hK (by omega)
        rw [if_pos p2, List.map_append, List.map_append, List.length_append]
        simp only [List.map_cons, List.map_nil, List.length_singleton]
        rw [hl, valS_old _ hll, valS_old _ hll, ← hl, h1, h2]
        by_cases e : K = v
        · subst e
          refine ⟨?_, ?_⟩
          · rw [if_neg (by simp; omega), if_neg (by omega), if_neg (by omega)]
          · rw [if_pos (by simp), if_neg (by omega), if_pos (by omega)]; omega
        · refine ⟨?_, ?_⟩
          · rw [if_neg (by simp; omega)]
            split <;> split <;> first | rfl | omega
          · rw [if_neg (by simp; omega)]
            split <;> split <;> first | rfl | omega
      · rw [if_neg p2, List.append_nil]
        rw [h1, h2]
        refine ⟨?_, ?_⟩
        · by_cases e : v = K
          · subst e; rw [if_neg (by omega), if_neg (by omega)]
          · split <;> split <;> first | rfl | omega
        · by_cases e : v = K
          · subst e; rw [if_neg (by omega), if_neg (by omega)]
          · split <;> split <;> first | rfl | omega
/-- Cut down. -/
def clipF (f : Nat → Int) (m : Int) (v : Nat) : Int := if 0 < f v then min (f v) m else if f v < 0 then -(min (-f v) m) else 0
theorem NL_clip (f : Nat → Int) {m : Int} (hm : 1 ≤ m) : ∀ K, (NL (clipF f m) K) = (NL f K).map fun x => (min x.1 m, x.2)
  | 0 => rfl
  | K + 1 => by
    rw [NL, NL, NL_clip f hm K, List.map_append]
    congr 1
    unfold NLv clipF
    by_cases h1 : 0 < f K
    · rw [if_pos h1, if_pos h1, if_pos (by omega)]; rfl
    · rw [if_neg h1, if_neg h1]
      by_cases h2 : f K < 0
      · rw [if_pos h2, if_pos h2, if_neg (by omega), if_pos (by omega)]
        simp
      · rw [if_neg h2, if_neg h2, if_neg (by omega), if_neg (by omega)]; rfl
theorem NL_congr {f g : Nat → Int} : ∀ k, (∀ v, v < k → f v = g v) → NL f k = NL g k
  | 0, _ => rfl
  | k + 1, h => by
    rw [NL_succ, NL_succ, NL_congr k (fun v hv => h v (by omega))]
    unfold NLv
    rw [h k (by omega)]
theorem net_zero (s : PS) : netS s 0 = 0 := by unfold netS; simp

theorem NL_self {g : Nat → Int} (g0 : g 0 = 0) (m : Int) (K : Nat) : nLoop ⟨(NL g K).map (·.1), (NL g K).map (·.2), m⟩ (List.range K) = ⟨m, sumAbs ((NL g K).map (·.1)), (NL g K).map (·.1), (NL g K).map (·.2)⟩ := by
  have hof := fun v => NL_of g g0 m K v
  have hlen : ((NL g K).map (·.2)).length = (NL g K).length := by simp
  have hnet : ∀ v, v < K → netS ⟨(NL g K).map (·.1), (NL g K).map (·.2), m⟩ v = g v := fun v hv => by
    unfold netS
    simp only
    rw [hlen, (hof v).1, (hof v).2]
    by_cases p1 : 0 < g v
    · rw [if_pos ⟨hv, p1⟩, if_neg (by omega)]; omega
    · rw [if_neg (by omega)]
      by_cases p2 : g v < 0
      · rw [if_pos ⟨hv, p2⟩]; omega
      · rw [if_neg (by omega)]; omega
  have hmin : ∀ v : Nat, v < K → min (ofS ⟨(NL g K).map (·.1), (NL g K).map (·.2), m⟩ v ((NL g K).map (·.2)).length) (ofS ⟨(NL g K).map (·.1), (NL g K).map (·.2), m⟩ (-(v : Int)) ((NL g K).map (·.2)).length) = 0 := fun v hv => by
    rw [hlen, (hof v).1, (hof v).2]
    by_cases p1 : 0 < g v
    · rw [if_pos ⟨hv, p1⟩, if_neg (by omega)]; omega
    · rw [if_neg (by omega)]
      split <;> omega
  obtain ⟨b1, b2, b3, b4⟩ := nLoop_NL ⟨(NL g K).map (·.1), (NL g K).map (·.2), m⟩ K
  rw [NL_congr K hnet] at b1 b2 b3
  have b5 := b4 hmin
  generalize nLoop ⟨(NL g K).map (·.1), (NL g K).map (·.2), m⟩ (List.range K) = st at *
  obtain ⟨x1, x2, x3, x4⟩ := st
  simp only at b1 b2 b3 b5
  subst b1 b2 b3 b5
  rfl
theorem clip_same {C : List Int} {m : Int} (hC : ∀ c ∈ C, c ≤ m) : C.map (fun c => min c m) = C := by
  conv => rhs; rw [← List.map_id C]
  apply List.map_congr_left
  intro c hc
  have := hC c hc
  simp only [id]
  omega
/-- What the loop's end makes is its own normal form. -/
theorem once_aux (f : Nat → Int) (f0 : f 0 = 0) (K : Nat) (m t : Int) (h0 : ¬ m ≤ 0) (h1 : ¬ t < m) (ht : t = sumAbs ((NL f K).map (·.1))) (u : PS) (hu : u = ⟨((NL f K).map (·.1)).map fun c => min c m, (NL f K).map (·.2), m⟩) :
    nEnd (nLoop u (List.range K)) = u ∧ u.L.Pairwise (fun x y => absI x < absI y) ∧ (∀ l ∈ u.L, l ≠ 0) ∧ ∀ c ∈ u.C, 1 ≤ c ∧ c ≤ u.m := by
  have hcl := NL_clip f (show 1 ≤ m by omega) K
  have hge := (clip_sum m (by omega) ((NL f K).map (·.1)) (fun c hc => by
    obtain ⟨x, hx, rfl⟩ := List.mem_map.1 hc
    exact ((NL_asc f f0 K).2 x hx).2.2)).2 (by omega)
  have eC : ((NL f K).map (·.1)).map (fun c => min c m) = (NL (clipF f m) K).map (·.1) := by rw [hcl]; simp
  have eL : (NL f K).map (·.2) = (NL (clipF f m) K).map (·.2) := by rw [hcl]; simp
  have g0 : clipF f m 0 = 0 := by unfold clipF; rw [f0]; rfl
  have hle : ∀ c ∈ (NL (clipF f m) K).map (·.1), c ≤ m := fun c hc => by
    rw [← eC] at hc
    obtain ⟨x, _, rfl⟩ := List.mem_map.1 hc
    exact Int.min_le_right _ _
  rw [eC, eL] at hu
  rw [eC] at hge
  generalize clipF f m = g at *
  have a3 := NL_asc g g0 K
  have hs := NL_self g0 m K
  subst hu
  refine ⟨?_, a3.1, fun l hl => ?_, fun c hc => ⟨?_, hle c hc⟩⟩
  · rw [hs]
    unfold nEnd
    simp only
    rw [if_neg h0, if_neg (by omega), clip_same hle]
  · obtain ⟨x, hx, rfl⟩ := List.mem_map.1 hl
    exact (a3.2 x hx).1
  · obtain ⟨x, hx, rfl⟩ := List.mem_map.1 hc
    exact (a3.2 x hx).2.2

/-- THE NORMAL FORM IS ITS OWN ONE; its variables ascend, its coefficients are from 1 to Least. -/
structure Once (u : PS) (n : Int) : Prop where
  own : normS u n = (u, 0)
  asc : u.L.Pairwise (fun x y => absI x < absI y)
  lit : ∀ l ∈ u.L, l ≠ 0
  co : ∀ c ∈ u.C, 1 ≤ c ∧ c ≤ u.m
theorem once_zero : nEnd (nLoop PS.zero (List.range 129)) = PS.zero := by kernel_rfl
theorem once_one : nEnd (nLoop ⟨[], [], 1⟩ (List.range 129)) = ⟨[], [], 1⟩ := by kernel_rfl
theorem norm_once {s : PS} {n : Int} (h : s.Ok n) : Once (nEnd (nLoop s (List.range 129))) n := by
  have hok := (norm_ok h).1
  obtain ⟨i1, i2, i3, _⟩ := nLoop_NL s 129
  have hz := net_zero s
  have key : nEnd (nLoop (nEnd (nLoop s (List.range 129))) (List.range 129)) = nEnd (nLoop s (List.range 129)) ∧ (nEnd (nLoop s (List.range 129))).L.Pairwise (fun x y => absI x < absI y) ∧ (∀ l ∈ (nEnd (nLoop s (List.range 129))).L, l ≠ 0) ∧ ∀ c ∈ (nEnd (nLoop s (List.range 129))).C, 1 ≤ c ∧ c ≤ (nEnd (nLoop s (List.range 129))).m := by
    generalize nLoop s (List.range 129) = st at *
    clear hok h
    by_cases h0 : st.m ≤ 0
    · have e : nEnd st = PS.zero := if_pos h0
      rw [e]
      exact ⟨once_zero, by simp [PS.zero], by simp [PS.zero], by simp [PS.zero]⟩
    by_cases h1 : st.t < st.m
    · have e : nEnd st = ⟨[], [], 1⟩ := (if_neg h0).trans (if_pos h1)
      rw [e]
      exact ⟨once_one, by simp, by simp, by simp⟩
    · have e : nEnd st = ⟨st.C.map fun c => min c st.m, st.L, st.m⟩ := (if_neg h0).trans (if_neg h1)
      rw [i1, i2] at e
      exact once_aux (netS s) hz 129 st.m st.t h0 h1 i3 _ e
  refine ⟨?_, key.2.1, key.2.2.1, key.2.2.2⟩
  unfold normS
  rw [if_neg (by rw [check_ok.2 hok]; simp), key.1]
end Go.Proofs.YtchamkbnapjidaaDoor
