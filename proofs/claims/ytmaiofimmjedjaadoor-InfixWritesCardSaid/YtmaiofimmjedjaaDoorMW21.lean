/- Texts of this claim, joined: IR. -/
import Derived.Test.YtmaiofimmjedjaaDoorMW06

/- How long the rows of inputs are that are read; how many tokens there are. Plain. -/
namespace Go.Proofs.YtmaiofimmjedjaaDoor
open Go

def lsM : Md → Nat
  | .formL _ => 1
  | .implL l => l.length
  | .chainL _ l => l.length
  | .argsL l => l.length
  | _ => 0
def FitL (L : Nat) (gs : List Gt) : Prop := ∀ g ∈ gs, g.ins.length ≤ L
theorem FitL.snoc {L : Nat} {gs : List Gt} {g : Gt} (h : FitL L gs) (hg : g.ins.length ≤ L) : FitL L (gs ++ [g]) := fun x hx => by
  rcases List.mem_append.1 hx with hx | hx
  · exact h x hx
  · have : x = g := by simpa using hx
    rw [this]; exact hg
theorem foldI_fit {L : Nat} (hL : 3 ≤ L) : ∀ (r : List Int) (k : Int) (gs : List Gt), FitL L gs → FitL L (foldI r k gs).2
  | [], _, _, h => h
  | x :: r, k, gs, h => by
    rw [foldI]
    refine foldI_fit hL r _ _ (fun g hg => ?_)
    rcases List.mem_append.1 hg with hg | hg
    · exact h g hg
    · simp at hg
      rcases hg with rfl | rfl <;> simp <;> omega
theorem readI_fit (n L : Nat) (hL : 3 ≤ L) : ∀ (f : Nat) (m : Md) (ts : List Tk) (o : Nat) (gs : List Gt) (l : List Int) (ts' : List Tk) (gs' : List Gt), goodM m → lsM m + ts.length ≤ L → FitL L gs → readI n f m ts o gs = .ok l ts' gs' → l.length + ts'.length ≤ lsM m + ts.length ∧ FitL L gs' := by
  intro f
  induction f with
  | zero => intro m ts o gs l ts' gs' _ _ _ h; rw [readI] at h; cases h
  | succ f ih =>
    intro m ts o gs l ts' gs' hg hb hF h
    have one : ∀ {m : Md} {ts : List Tk} {o : Nat} {gs : List Gt} {l : List Int} {ts' : List Tk} {gs' : List Gt}, goodM m → listM m = false → readI n f m ts o gs = .ok l ts' gs' → l.length = 1 := fun hg hl h => (readI_gs n f _ _ _ _ _ _ _ hg h).2 hl
    cases m with
    | form =>
      rw [readI] at h
      obtain ⟨a, b, c, h1, h2⟩ := bind_ok h
      obtain ⟨i1, f1⟩ := ih _ _ _ _ _ _ _ (by trivial) (by simp [lsM] at *; omega) hF h1
      have o1 := one (by trivial) rfl h1
      simp [lsM] at *
      obtain ⟨i2, f2⟩ := ih _ _ _ _ _ _ _ (by trivial) (by simp [lsM]; omega) f1 h2
      simp [lsM] at *
      exact ⟨by omega, f2⟩
    | formL k =>
      rw [readI] at h
      obtain ⟨t, h1, h2⟩ := next_ok h
      split at h2
      · rename_i e
        have := head_tail h1 (by rw [e]; simp)
        obtain ⟨a, b, c, h3, h4⟩ := bind_ok h2
        obtain ⟨i1, f1⟩ := ih _ _ _ _ _ _ _ (by trivial) (by simp [lsM] at *; omega) hF h3
        simp [lsM] at *
        obtain ⟨i2, f2⟩ := ih _ _ _ _ _ _ _ (by trivial) (by simp [lsM]; omega) (f1.snoc (by simp; omega)) h4
        simp [lsM] at *
        exact ⟨by omega, f2⟩
      · cases h2; exact ⟨by simp [lsM], hF⟩
    | impl =>
      rw [readI] at h
      obtain ⟨a, b, c, h1, h2⟩ := bind_ok h
      obtain ⟨i1, f1⟩ := ih _ _ _ _ _ _ _ (by trivial) (by simp [lsM] at *; omega) hF h1
      have o1 := one (by trivial) rfl h1
      simp [lsM] at *
      obtain ⟨i2, f2⟩ := ih _ _ _ _ _ _ _ (by show 1 ≤ a.length; omega) (by simp [lsM]; omega) f1 h2
      simp [lsM] at *
      exact ⟨by omega, f2⟩
    | implL k =>
      have hk : 1 ≤ k.length := hg
      rw [readI] at h
      obtain ⟨t, h1, h2⟩ := next_ok h
      split at h2
      · rename_i e
        have := head_tail h1 (by rw [e]; simp)
        obtain ⟨a, b, c, h3, h4⟩ := bind_ok h2
        obtain ⟨i1, f1⟩ := ih _ _ _ _ _ _ _ (by trivial) (by simp [lsM] at *; omega) hF h3
        simp [lsM] at *
        obtain ⟨i2, f2⟩ := ih _ _ _ _ _ _ _ (by show 1 ≤ (k ++ a).length; simp; omega) (by simp [lsM]; omega) f1 h4
        simp [lsM] at *
        exact ⟨by omega, f2⟩
      · cases h2
        exact ⟨by simp [lsM]; omega, foldI_fit hL _ _ _ hF⟩
    | chain lv =>
      rw [readI] at h
      split at h
      · obtain ⟨i1, f1⟩ := ih _ _ _ _ _ _ _ (by trivial) (by simp [lsM] at *; omega) hF h
        simp [lsM] at *
        exact ⟨by omega, f1⟩
      · obtain ⟨a, b, c, h1, h2⟩ := bind_ok h
        obtain ⟨i1, f1⟩ := ih _ _ _ _ _ _ _ (by trivial) (by simp [lsM] at *; omega) hF h1
        have o1 := one (by trivial) rfl h1
        simp [lsM] at *
        obtain ⟨i2, f2⟩ := ih _ _ _ _ _ _ _ (by show 1 ≤ a.length; omega) (by simp [lsM]; omega) f1 h2
        simp [lsM] at *
        exact ⟨by omega, f2⟩
    | chainL lv k =>
      have hk : 1 ≤ k.length := hg
      rw [readI] at h
      obtain ⟨t, h1, h2⟩ := next_ok h
      split at h2
      · rename_i e
        have := head_tail h1 (by rw [e]; unfold signI; split <;> (try split) <;> simp)
        obtain ⟨a, b, c, h3, h4⟩ := bind_ok h2
        obtain ⟨i1, f1⟩ := ih _ _ _ _ _ _ _ (by trivial) (by simp [lsM] at *; omega) hF h3
        simp [lsM] at *
        obtain ⟨i2, f2⟩ := ih _ _ _ _ _ _ _ (by show 1 ≤ (k ++ a).length; simp; omega) (by simp [lsM]; omega) f1 h4
        simp [lsM] at *
        exact ⟨by omega, f2⟩
      · split at h2
        · cases h2; exact ⟨by simp [lsM], hF⟩
        · cases h2; refine ⟨by simp [lsM]; omega, hF.snoc ?_⟩; simp [lsM] at hb; simp; omega
    | atom =>
      rw [readI] at h
      obtain ⟨t, h1, h2⟩ := next_ok h
      simp only [lsM, Nat.zero_add] at hb ⊢
      split at h2
      · rename_i e
        have := head_tail h1 (fun e2 => e (by rw [e2]; exact varI_nil n))
        cases h2; exact ⟨by simp; omega, hF.snoc (by simp)⟩
      split at h2
      · obtain ⟨h3, _, h4⟩ := open_ok h2
        have := head_tail h3 (by simp)
        obtain ⟨w, h5, h6⟩ := next_ok h4
        split at h6
        · rename_i e
          have := head_tail h5 (fun e2 => e (by rw [e2]; exact varI_nil n))
          cases h6; exact ⟨by simp; omega, hF.snoc (by simp)⟩
        · obtain ⟨a, b, c, h7, h8⟩ := bind_ok h6
          obtain ⟨i1, f1⟩ := ih _ _ _ _ _ _ _ (by trivial) (by simp [lsM] at *; omega) hF h7
          have o1 := one (by trivial) rfl h7
          simp [lsM] at i1
          cases h8; exact ⟨by simp; omega, f1.snoc (by simp; omega)⟩
      split at h2
      · obtain ⟨h3, _, h4⟩ := open_ok h2
        have := head_tail h3 (by simp)
        obtain ⟨a, b, c, h7, h8⟩ := bind_ok h4
        obtain ⟨i1, f1⟩ := ih _ _ _ _ _ _ _ (by trivial) (by simp [lsM] at *; omega) hF h7
        obtain ⟨h9, h10⟩ := need_ok h8
        have := head_tail h9 (by simp)
        simp [lsM] at i1
        cases h10; exact ⟨by omega, f1⟩
      split at h2
      · rename_i e
        have := head_tail h1 (by rw [e]; simp)
        cases h2; exact ⟨by simp; omega, hF.snoc (by simp)⟩
      split at h2
      · rename_i e
        have := head_tail h1 (by rw [e]; simp)
        cases h2; exact ⟨by simp; omega, hF.snoc (by simp)⟩
      split at h2
      · cases h2
      · rename_i e
        have := head_tail h1 (fun e2 => e (by rw [e2]; exact wordI_nil))
        obtain ⟨a, b, c, h7, h8⟩ := bind_ok h2
        have i1 : a.length + b.length ≤ ts.tail.length ∧ FitL L c := by
          split at h7
          · obtain ⟨i1, f1⟩ := ih _ _ _ _ _ _ _ (by trivial) (by simp [lsM] at *; omega) hF h7; exact ⟨by simpa [lsM] using i1, f1⟩
          · obtain ⟨i1, f1⟩ := ih _ _ _ _ _ _ _ (by trivial) (by simp [lsM] at *; omega) hF h7; exact ⟨by simpa [lsM] using i1, f1⟩
        cases h8; exact ⟨by simp; omega, i1.2.snoc (by show a.length ≤ L; omega)⟩
    | args =>
      rw [readI] at h
      obtain ⟨h3, _, h4⟩ := open_ok h
      have := head_tail h3 (by simp)
      obtain ⟨w, h5, h6⟩ := next_ok h4
      simp only [lsM, Nat.zero_add] at hb ⊢
      split at h6
      · rename_i e
        have := head_tail h5 (by rw [e]; simp)
        cases h6; exact ⟨by simp; omega, hF⟩
      · obtain ⟨a, b, c, h7, h8⟩ := bind_ok h6
        obtain ⟨i1, f1⟩ := ih _ _ _ _ _ _ _ (by trivial) (by simp [lsM] at *; omega) hF h7
        simp [lsM] at i1
        obtain ⟨i2, f2⟩ := ih _ _ _ _ _ _ _ (by trivial) (by simp [lsM]; omega) f1 h8
        simp [lsM] at i2
        exact ⟨by omega, f2⟩
    | argsL k =>
      rw [readI] at h
      obtain ⟨t, h1, h2⟩ := next_ok h
      simp only [lsM] at hb ⊢
      split at h2
      · rename_i e
        have := head_tail h1 (by rw [e]; simp)
        obtain ⟨a, b, c, h7, h8⟩ := bind_ok h2
        obtain ⟨i1, f1⟩ := ih _ _ _ _ _ _ _ (by trivial) (by simp [lsM] at *; omega) hF h7
        simp [lsM] at i1
        obtain ⟨i2, f2⟩ := ih _ _ _ _ _ _ _ (by trivial) (by simp [lsM]; omega) f1 h8
        simp [lsM] at i2
        exact ⟨by omega, f2⟩
      · obtain ⟨h9, h10⟩ := need_ok h2
        have := head_tail h9 (by simp)
        cases h10; exact ⟨by omega, hF⟩
    | three =>
      rw [readI] at h
      obtain ⟨h3, _, h4⟩ := open_ok h
      have := head_tail h3 (by simp)
      simp only [lsM, Nat.zero_add] at hb ⊢
      obtain ⟨a, b, c, h7, h8⟩ := bind_ok h4
      obtain ⟨i1, f1⟩ := ih _ _ _ _ _ _ _ (by trivial) (by simp [lsM] at *; omega) hF h7
      simp [lsM] at i1
      obtain ⟨h9, h10⟩ := need_ok h8
      have := head_tail h9 (by simp)
      obtain ⟨a2, b2, c2, h7b, h8b⟩ := bind_ok h10
      obtain ⟨i2, f2⟩ := ih _ _ _ _ _ _ _ (by trivial) (by simp [lsM] at *; omega) f1 h7b
      simp [lsM] at i2
      obtain ⟨h9b, h10b⟩ := need_ok h8b
      have := head_tail h9b (by simp)
      obtain ⟨a3, b3, c3, h7c, h8c⟩ := bind_ok h10b
      obtain ⟨i3, f3⟩ := ih _ _ _ _ _ _ _ (by trivial) (by simp [lsM] at *; omega) f2 h7c
      simp [lsM] at i3
      obtain ⟨h9c, h10c⟩ := need_ok h8c
      have := head_tail h9c (by simp)
      cases h10c; exact ⟨by simp; omega, f3⟩
theorem TS_len (l : List UInt8) : ∀ (k p : Nat), l.length ≤ p + k → (TS l p).length ≤ k + 1
  | k, p, h => by
    rw [TS_eq]
    cases ht : tokI (l.drop (nxtI l p)) with
    | none => simp
    | some t =>
      cases t with
      | nil => simp
      | cons c t =>
        have hle := tok_le ht
        rw [List.length_drop] at hle
        have hnx : p ≤ nxtI l p := by unfold nxtI; omega
        simp only [List.length_cons] at hle ⊢
        obtain ⟨k, rfl⟩ : ∃ j, k = j + 1 := ⟨k - 1, by omega⟩
        have := TS_len l k (nxtI l p + (t.length + 1)) (by omega)
        omega
theorem RI_fit {n L : Nat} (hL : 3 ≤ L) {ts : List Tk} {o : Nat} {l : List Int} {ts' : List Tk} {gs' : List Gt} (hb : ts.length ≤ L) (h : RI n .form ts o [] = .ok l ts' gs') : FitL L gs' := (readI_fit n L hL _ .form ts o [] l ts' gs' (by trivial) (by simp [lsM]; exact hb) (fun g hg => by simp at hg) h).2
end Go.Proofs.YtmaiofimmjedjaaDoor
