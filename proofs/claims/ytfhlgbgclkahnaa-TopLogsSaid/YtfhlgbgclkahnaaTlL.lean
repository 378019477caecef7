/- TopLogs: the eight groups. -/
import Derived.Test.YtfhlgbgclkahnaaTlK
set_option linter.unusedVariables false
set_option linter.unusedSimpArgs false
set_option maxRecDepth 100000
namespace Tl
open Go Fw Go.Proofs

structure Pg (P R G g h m : Int) (N : Nat) : Prop where
  fr : Pl.theR P = R
  fg : Pl.theG P = G
  fgen : Pl.gen R = g
  ok : Pl.okP P = true
  check : Pl.checkG R P G = 0
  prime : Pl.isPrime R = true
  fn : (N : Int) = R - 1
  fchk : chk R P m g N 1 0 = true
  finv : g * h % R = 1
  fm : (R - 1) / P = m
  b : 3 ≤ R ∧ R ≤ 65536 ∧ 0 < g ∧ g < R ∧ 1 ≤ P ∧ P < R ∧ 0 < m ∧ 0 < G ∧ G < R

theorem good7 : Pg 7 29 16 2 15 4 28 := ⟨by kernel_rfl, by kernel_rfl, by kernel_rfl, by kernel_rfl, by kernel_rfl, by kernel_rfl, rfl, by kernel_rfl, by kernel_rfl, by kernel_rfl, by decide⟩
theorem good11 : Pg 11 23 4 5 14 2 22 := ⟨by kernel_rfl, by kernel_rfl, by kernel_rfl, by kernel_rfl, by kernel_rfl, by kernel_rfl, rfl, by kernel_rfl, by kernel_rfl, by kernel_rfl, by decide⟩
theorem good13 : Pg 13 53 16 2 27 4 52 := ⟨by kernel_rfl, by kernel_rfl, by kernel_rfl, by kernel_rfl, by kernel_rfl, by kernel_rfl, rfl, by kernel_rfl, by kernel_rfl, by kernel_rfl, by decide⟩
theorem good17 : Pg 17 103 64 5 62 6 102 := ⟨by kernel_rfl, by kernel_rfl, by kernel_rfl, by kernel_rfl, by kernel_rfl, by kernel_rfl, rfl, by kernel_rfl, by kernel_rfl, by kernel_rfl, by decide⟩
theorem good31 : Pg 31 311 91 17 183 10 310 := ⟨by kernel_rfl, by kernel_rfl, by kernel_rfl, by kernel_rfl, by kernel_rfl, by kernel_rfl, rfl, by kernel_rfl, by kernel_rfl, by kernel_rfl, by decide⟩
theorem good97 : Pg 97 389 16 2 195 4 388 := ⟨by kernel_rfl, by kernel_rfl, by kernel_rfl, by kernel_rfl, by kernel_rfl, by kernel_rfl, rfl, by kernel_rfl, by kernel_rfl, by kernel_rfl, by decide⟩
theorem good251 : Pg 251 503 4 5 302 2 502 := ⟨by kernel_rfl, by kernel_rfl, by kernel_rfl, by kernel_rfl, by kernel_rfl, by kernel_rfl, rfl, by kernel_rfl, by kernel_rfl, by kernel_rfl, by decide⟩
theorem good1009 : Pg 1009 10091 1024 2 5046 10 10090 := ⟨by kernel_rfl, by kernel_rfl, by kernel_rfl, by kernel_rfl, by kernel_rfl, by kernel_rfl, rfl, by kernel_rfl, by kernel_rfl, by kernel_rfl, by decide⟩

end Tl
