/- TopLogs: the plain law. -/
import Derived.Test.YtfhlgbgclkahnaaTlI
set_option linter.unusedVariables false
set_option linter.unusedSimpArgs false
set_option maxRecDepth 100000
namespace Tl
open Go Fw Go.Proofs

theorem php : ∀ (N : Nat) (f : Nat → Nat), (∀ i j, i < N + 1 → j < N + 1 → f i = f j → i = j) → (∀ i, i < N + 1 → f i < N) → False
  | 0, f, _, h => absurd (h 0 (by omega)) (by omega)
  | N + 1, f, hi, hr => by
    refine php N (fun i => if f i = N then f (N + 1) else f i) ?_ ?_
    · intro i j h1 h2 h
      have a1 := fun e => hi i j (by omega) (by omega) e
      have a2 := fun e => hi i (N + 1) (by omega) (by omega) e
      have a3 := fun e => hi j (N + 1) (by omega) (by omega) e
      split at h <;> split at h
      · rename_i e1 e2; exact a1 (by omega)
      · rename_i e1 e2; have := a3 h.symm; omega
      · rename_i e1 e2; have := a2 h; omega
      · exact a1 h
    · intro i h1
      have h2 := hr i (by omega)
      have h3 := hr (N + 1) (by omega)
      have a2 := fun e => hi i (N + 1) (by omega) (by omega) e
      split
      · rename_i e
        have : f (N + 1) ≠ N := fun e' => by have := a2 (by omega); omega
        omega
      · omega

/-- What is told apart fills all. -/
theorem php2 (N : Nat) (f : Nat → Nat) (hi : ∀ i j, i < N → j < N → f i = f j → i = j) (hr : ∀ i, i < N → f i < N) (z : Nat) (hz : z < N) : ∃ i, i < N ∧ f i = z := by
  apply Classical.byContradiction
  intro hno
  have hno' : ∀ i, i < N → f i ≠ z := fun i h e => hno ⟨i, h, e⟩
  cases N with
  | zero => omega
  | succ N =>
    refine php N (fun i => if f i = N then z else f i) ?_ ?_
    · intro i j h1 h2 h
      have n1 := hno' i h1
      have n2 := hno' j h2
      split at h <;> split at h
      · rename_i e1 e2; exact hi i j h1 h2 (by omega)
      · omega
      · omega
      · exact hi i j h1 h2 h
    · intro i h1
      have n1 := hno' i h1
      have h2 := hr i h1
      split
      · rename_i e; omega
      · omega

end Tl
