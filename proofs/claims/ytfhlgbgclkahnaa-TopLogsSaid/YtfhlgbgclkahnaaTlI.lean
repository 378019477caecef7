/- The functions of TopLogs: nine. -/
import Derived.Test.YtfhlgbgclkahnaaTlH
set_option linter.unusedVariables false
set_option linter.unusedSimpArgs false
set_option maxRecDepth 100000
namespace Tl
open Go Fw Go.Proofs

theorem vc88 : ∀ x, C88.pre x → VC T88 H0 Try.f88 C88 x := by
  rintro ⟨⟩ -
  show Pl.okP (11 : Int) = true ∧
      ((3 : Int) ≤ (11 : Int) ∧
          (11 : Int) ≤ (65536 : Int) ∧
            Pl.isPrime (11 : Int) = true ∧ Pl.gen (11 : Int) ≠ (0 : Int) ∧ Pl.gen (11 : Int) < (11 : Int)) ∧
        Br ((0 : I.El) == (0 : Int))
          (Br ((0 : I.El) == (0 : Int))
            (Br (Pl.theR (11 : Int) == (23 : Int))
              (((Pl.theR (11 : Int), (11 : Int), Pl.theG (11 : Int), ()), (2 : Int), (0 : Int), (1 : Int), ()) =
                  (((23 : Int), (11 : Int), (4 : Int), ()), (2 : Int), (0 : Int), (1 : Int), ()) ∧
                ((0 : I.El) == (0 : Int), ()) = C88.post ())
              ((false, ()) = C88.post ()))
            ((false, ()) = C88.post ()))
          ((false, ()) = C88.post ())
  have e1 : Pl.theR 11 = 23 := by kernel_rfl
  have e2 : Pl.theG 11 = 4 := by kernel_rfl
  have e3 : Pl.gen 11 = 2 := by kernel_rfl
  have e4 : Pl.okP 11 = true := by kernel_rfl
  have e5 : Pl.isPrime 11 = true := by kernel_rfl
  rw [e1, e2, e3]
  exact ⟨e4, ⟨by decide, by decide, e5, by decide, by decide⟩, ⟨rfl, rfl⟩⟩

theorem snd88 : Sound Try.prog 88 C88 := fn_sound (T := T88) (fn := Try.f88) (tok ⟨snd83, snd78, snd133, trivial⟩) (by kernel_rfl) (by kernel_rfl) H0 vc88 (by kernel_rfl)

end Tl
