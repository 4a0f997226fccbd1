/- The law RatKnown. -/
import Derived.Test.YtlomlcljjidfjaaVKnownW
namespace Go.Proofs.Ytlomlcljjidfjaa
open Go.RowKit Num

theorem ratKnown_law (w0 : World) (hM : ∃ m, w0.cell? ⟨0, 0, none⟩ = some (.int .i64 m)) : GivesFrom w0 12 #[] (.bool true) := by
  have s16 : Sm 1000 (1, 6) := ⟨by decide, by decide⟩
  have s13 : Sm 1000 (1, 3) := ⟨by decide, by decide⟩
  have s12 : Sm 1000 (1, 2) := ⟨by decide, by decide⟩
  have s33 : Sm 1000 (33, 100) := ⟨by decide, by decide⟩
  have s49 : Sm 1000 (4, 9) := ⟨by decide, by decide⟩
  have s38 : Sm 1000 (3, 8) := ⟨by decide, by decide⟩
  have KRD : ∀ s : ByteArray, (ratRead s = none ∧ s.size ≤ 10) → GivesFrom w0 36 #[.string s] (.tuple #[ratV (0, 0), .bool false]) := fun s h => by
    have := gRatRead w0 s (by omega) hM
    rw [h.1] at this; exact this
  have T : ∀ (r : Nat × Nat) (s : ByteArray), Sm 1000 r → rtext r = s → Gives 30 #[ratV r] (.string s) := fun r s h e => by
    rw [← e]; exact gRText r (h.mono (by omega))
  have KS1 : Gives 29 #[ratV (1, 2), ratV (1, 6)] (.tuple #[ratV (1, 3), .bool true]) := gRSub (1, 2) (1, 6) (s12.mono (by omega)) (s16.mono (by omega)) (by decide)
  have KS2 : Gives 29 #[ratV (1, 2), ratV (1, 2)] (.tuple #[ratV (0, 1), .bool true]) := gRSub (1, 2) (1, 2) (s12.mono (by omega)) (s12.mono (by omega)) (by decide)
  have KS3 : Gives 29 #[ratV (1, 3), ratV (1, 2)] (.tuple #[ratV (0, 0), .bool false]) := gRSubL (1, 3) (1, 2) (s13.mono (by omega)) (s12.mono (by omega)) (by decide)
  have KA : Gives 16 #[ratV (1, 6), ratV (1, 3)] (ratV (1, 2)) := gRAdd (1, 6) (1, 3) (s16.mono (by omega)) (s13.mono (by omega))
  have KM : Gives 17 #[ratV (4, 9), ratV (3, 8)] (ratV (1, 6)) := gRMul (4, 9) (3, 8) (s49.mono (by omega)) (s38.mono (by omega))
  have KC : Gives 31 #[ratV (1, 3), ratV (33, 100)] (.int .i64 1) := gRCmp (1, 3) (33, 100) (s13.mono (by omega)) (s33.mono (by omega))
  have KO16 : Gives 14 #[.int .u64 1, .int .u64 6] (.tuple #[ratV (1, 6), .bool true]) := gROf 1 6 (by decide) (by decide) (by decide)
  have KO13 : Gives 14 #[.int .u64 1, .int .u64 3] (.tuple #[ratV (1, 3), .bool true]) := gROf 1 3 (by decide) (by decide) (by decide)
  have KO12 : Gives 14 #[.int .u64 1, .int .u64 2] (.tuple #[ratV (1, 2), .bool true]) := gROf 1 2 (by decide) (by decide) (by decide)
  have KO33 : Gives 14 #[.int .u64 33, .int .u64 100] (.tuple #[ratV (33, 100), .bool true]) := gROf 33 100 (by decide) (by decide) (by decide)
  have KO49 : Gives 14 #[.int .u64 4, .int .u64 9] (.tuple #[ratV (4, 9), .bool true]) := gROf 4 9 (by decide) (by decide) (by decide)
  have KO38 : Gives 14 #[.int .u64 3, .int .u64 8] (.tuple #[ratV (3, 8), .bool true]) := gROf 3 8 (by decide) (by decide) (by decide)
  have KO10 : Gives 14 #[.int .u64 1, .int .u64 0] (.tuple #[ratV (0, 0), .bool false]) := gROfZ 1 (by decide)
  exact w_rknown w0 _ _ _ _ _ _ _ _ _ _ _ _ _ _ KRD (T (0, 0) _ ⟨by decide, by decide⟩ (by kernel_rfl)) KO16 KO13 KO12 KS1 KS2 KS3 KO33 KO49 KO38 KO10 KA (T (1, 2) _ s12 (by kernel_rfl)) (T (1, 3) _ s13 (by kernel_rfl)) (T (0, 1) _ ⟨by decide, by decide⟩ (by kernel_rfl)) KC KM (T (1, 6) _ s16 (by kernel_rfl)) gWorks2

end Go.Proofs.Ytlomlcljjidfjaa
