/- Of, Pow2, Uint, Len. -/
import Derived.Test.YtlomlcljjidfjaaRows
import Derived.Test.YtlomlcljjidfjaaBase
import Derived.Test.YtlomlcljjidfjaaNatB
import Derived.Test.YtlomlcljjidfjaaWWords
import Derived.Test.YtlomlcljjidfjaaWFrom
import Derived.Test.YtlomlcljjidfjaaShelf
import Derived.WalkKit
import Derived.WalkSpells
import Derived.WalkLawsBesides
import Derived.Lib.Hide
namespace Go.Proofs.Ytlomlcljjidfjaa
open Go.RowKit Num

theorem words_nat (n : Nat) (hn : nl n ≤ 1099511627776) (w : World) :
    Calls Try.prog 64 #[natV n] w fun e w' =>
      e = .returned (.slice (some ⟨w.heap.size + 1, 0, none⟩) (digitsOf W n).length (digitsOf W n).length) ∧ Row w' (w.heap.size + 1) 83 (u32s (digitsOf W n)) ∧ Below w.heap.size w w' := by
  have h := words_any (nb n) (by rw [nb_size]; exact hn) w
  have e : (nb n).size = (digitsOf 256 n).length := nb_size n
  have e2 : ((nb n).size + 3) / 4 = (digitsOf W n).length := by
    have := congrArg List.length (wds_digits n)
    rw [wds_length] at this
    rw [e]; exact this
  rw [bts_nb, e2] at h
  rw [← e2, e, wds_digits, ← e, e2] at h
  exact h

/-- The cells of a whole row. -/
theorem CellsU.ofRow {w : World} {g : Nat} {E : TypeId} {xs : List Nat} (h : Row w g E (u32s xs)) : CellsU w (some ⟨g, 0, none⟩) xs := by
  intro i d hd
  exact ⟨g, 0, rfl, by rw [Nat.zero_add]; exact h.cell (u32s_get _ _ _ hd)⟩

theorem digs_two (n : Nat) (hn : n < 18446744073709551616) : digs W [n % 4294967296, n / 4294967296] = n := by
  simp [digs, W]; omega

set_option maxHeartbeats 400000 in
theorem of_any (n : Nat) (hn : n < 18446744073709551616) (w : World) :
    Calls Try.prog 42 #[.int .u64 n] w fun e w' => e = .returned (natV n) ∧ Below w.heap.size w w' := by
  have HD := Lib.hid (digs_two n hn)
  have HX : Hid (AllLt W [n % 4294967296, n / 4294967296]) := AllLt.cons (by unfold W; omega) (AllLt.cons (by unfold W; omega) (AllLt.nil _))
  go_enter Try.func42, Try.ntmps42
  go_wp2_with fail
  refine (from_any (some ⟨w.heap.size + 1, 0, none⟩) [n % 4294967296, n / 4294967296] 2 2 rfl HX.out (by omega) _ ?_).mono ?_
  · have hR := Row.new (w.alloc (Obj.cells #[Value.string { data := #[] }] 25)) 83 (u32s [n % 4294967296, n / 4294967296])
    have e : (u32s [n % 4294967296, n / 4294967296]).toArray = #[Value.int IntKind.u32 (↑n % 4294967296), Value.int IntKind.u32 (↑n / 4294967296)] := by simp [u32s]
    have es : (w.alloc (Obj.cells #[Value.string { data := #[] }] 25)).heap.size = w.heap.size + 1 := by simp
    rw [e, es] at hR
    exact CellsU.ofRow hR
  · rintro e w' ⟨rfl, hb⟩
    rw [HD.out]
    have hB : Below w.heap.size w w' := (((Below.refl _ _).alloc (Nat.le_refl _) _).alloc (by simp) _).trans (hb.mono (by simp; omega))
    have hbox : w'.cell? ⟨w.heap.size, 0, none⟩ = some (.string { data := #[] }) := below_cell hb (by simp; omega) (by simp)
    have hboxf : w'.frozen? ⟨w.heap.size, 0, none⟩ = false := by rw [hb.frozen (p := ⟨w.heap.size, 0, none⟩) (by simp; omega)]; simp
    clear hb
    have HB := Lib.hid hB
    clear hB
    unfold natV
    go_wp2
    exact bodyPost_ret (v := natV n) (by simp [results, Try.results42, go_sem, hbox, natV]) rfl ⟨rfl, HB.out.setCell (Nat.le_refl _) _⟩

end Go.Proofs.Ytlomlcljjidfjaa
