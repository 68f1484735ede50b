/-
  What the program's functions on naturals compute, in plain words: quotients, divisors.
-/
import Derived.Test.YtgabephijgjogaaM
namespace Go.Proofs.YtgabephijgjogaaAm
open Go
set_option linter.unusedVariables false
set_option linter.unusedSimpArgs false

theorem blen_16 {n : Nat} (h : n < 65536) : blen n ≤ 16 := by
  have h1 : blenF 64 n = blenF 16 n := blenF_more 16 n (by omega) 64 (by omega)
  have h2 : ∀ f n, blenF f n ≤ f := by
    intro f
    induction f with
    | zero => intro n; simp [blenF]
    | succ f ih =>
      intro n
      unfold blenF
      split
      · omega
      · have := ih (n / 2); omega
  unfold blen
  rw [h1]; exact h2 16 n
end Go.Proofs.YtgabephijgjogaaAm
