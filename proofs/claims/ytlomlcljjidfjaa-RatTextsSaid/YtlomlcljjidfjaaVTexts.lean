/- The law RatTexts. -/
import Derived.Test.YtlomlcljjidfjaaVCut
import Derived.Test.YtlomlcljjidfjaaVTextsW
namespace Go.Proofs.Ytlomlcljjidfjaa
open Go.RowKit Num

theorem ratTexts_law (w0 : World) (N D : ByteArray) (h1 : N.size ≤ 9223372036854775807) (h2 : D.size ≤ 9223372036854775807) (hM : ∃ m, w0.cell? ⟨0, 0, none⟩ = some (.int .i64 m)) : GivesFrom w0 11 #[.agg #[.string N, .string D]] (.bool true) := by
  have KA := gVRat N D h1 h2
  have sa := vq_small N D
  have la := vq_low N D
  generalize vq N D = a at *
  have KT := gRText a (sa.mono (by omega))
  have FR := gRatRead w0 (rtext a) (by have := rtext_size sa la; omega) hM
  rw [ratRead_rtext la sa] at FR
  have KD := gRDen a (Nat.le_trans sa.2 (by omega))
  rw [dn_of la.1] at KD
  have KG := gGcd a.1 a.2 (Nat.le_trans sa.1 (by omega)) (Nat.le_trans sa.2 (by omega))
  rw [la.2] at KG
  have KX := gRNew a.1 a.2 (Nat.le_trans sa.1 (by omega)) (Nat.le_trans sa.2 (by omega)) la.1
  rw [Q.red_of_low la] at KX
  have KC := kCmp sa sa (by omega) la la
  rw [(Q.cmp_eq la la).mpr rfl] at KC
  have KG2 := gText 1 (by decide)
  rw [show dec 1 = { data := #[49] } by kernel_rfl] at KG2
  exact w_rtexts w0 N D _ _ _ _ _ _ KA KT FR (gRNum a) KD KG KX (gEqual a (sa.mono (by omega))) KC KG2 gWorks2

end Go.Proofs.Ytlomlcljjidfjaa
