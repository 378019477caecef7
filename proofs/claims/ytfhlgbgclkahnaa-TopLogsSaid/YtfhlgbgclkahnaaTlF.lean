/- The functions of TopLogs are sound. -/
import Derived.Test.YtfhlgbgclkahnaaTlE
set_option linter.unusedVariables false
set_option linter.unusedSimpArgs false
set_option maxRecDepth 100000
namespace Tl
open Go Fw Go.Proofs

theorem mixed : Try.prog.follows .mixedOrders = true := by kernel_rfl
theorem tok {fs : List (Nat × Con)} (h : AllS Try.prog fs) : Tok Try.prog ⟨tt, fs, [], none⟩ :=
  ⟨mixed, tt_all.spec, h.spec, fun n C h => (by cases h), fun C h => (by cases h)⟩
theorem tokv {fs : List (Nat × Con)} {V : Con} (h : AllS Try.prog fs) (hv : SoundCv Try.prog V) : Tok Try.prog ⟨tt, fs, [], some V⟩ :=
  ⟨mixed, tt_all.spec, h.spec, fun n C h => (by cases h), fun C h => (by injection h with h; subst h; exact hv)⟩

theorem snd85 : Sound Try.prog 85 C85 := fn_sound (T := T0) (fn := Try.f85) (tok trivial) (by kernel_rfl) (by kernel_rfl) H0 vc85 (by kernel_rfl)
theorem snd84 : Sound Try.prog 84 C84 := fn_sound (T := T84) (fn := Try.f84) (tok ⟨snd85, trivial⟩) (by kernel_rfl) (by kernel_rfl) H0 vc84 (by kernel_rfl)
theorem snd155 : Sound Try.prog 155 C155 := fn_sound (T := T0) (fn := Try.f155) (tok trivial) (by kernel_rfl) (by kernel_rfl) H0 vc155 (by kernel_rfl)
theorem snd157 : Sound Try.prog 157 C157 := fn_sound (T := T157) (fn := Try.f157) (tok ⟨snd155, trivial⟩) (by kernel_rfl) (by kernel_rfl) H0 vc157 (by kernel_rfl)
theorem cvMul : SoundCv Try.prog Vmul := cv_of fun x hx => by
  obtain ⟨f, (a : Int), (b : Int), ⟨⟩⟩ := x
  obtain ⟨m, h1, h2, h3, h4, h5, h6, h7⟩ := hx
  simp only at h1 h2 h3 h4 h5 h6 h7
  subst h1
  exact ⟨157, [.rptr [.clo 155 []], .rptr [n64 m]], [n64 a, n64 b], C157, (a, b, .rptr [.clo 155 []], .rptr [n64 m], ()), snd157, rfl, rfl, ⟨m, rfl, rfl, h2, h3, h4, h5, h6, h7⟩, rfl, rfl⟩
theorem snd156 : Sound Try.prog 156 C156 := fn_sound (T := T156) (fn := Try.f156) (tokv trivial cvMul) (by kernel_rfl) (by kernel_rfl) H156 vc156 (by kernel_rfl)
theorem snd128 : Sound Try.prog 128 C128 := fn_sound (T := T128) (fn := Try.f128) (tok ⟨snd156, trivial⟩) (by kernel_rfl) (by kernel_rfl) H0 vc128 (by kernel_rfl)
theorem snd127 : Sound Try.prog 127 C127 := fn_sound (T := T0) (fn := Try.f127) (tok trivial) (by kernel_rfl) (by kernel_rfl) H127 vc127 (by kernel_rfl)
theorem snd154 : Sound Try.prog 154 C154 := fn_sound (T := T0) (fn := Try.f154) (tok trivial) (by kernel_rfl) (by kernel_rfl) H0 vc154 (by kernel_rfl)
theorem snd158 : Sound Try.prog 158 C158 := fn_sound (T := T0) (fn := Try.f158) (tok trivial) (by kernel_rfl) (by kernel_rfl) H0 vc158 (by kernel_rfl)
theorem snd159 : Sound Try.prog 159 C159 := fn_sound (T := T159) (fn := Try.f159) (tok ⟨snd158, snd128, trivial⟩) (by kernel_rfl) (by kernel_rfl) H0 vc159 (by kernel_rfl)
theorem snd131 : Sound Try.prog 131 C131 := fn_sound (T := T131) (fn := Try.f131) (tok ⟨snd158, snd128, trivial⟩) (by kernel_rfl) (by kernel_rfl) H0 vc131 (by kernel_rfl)
theorem snd184 : Sound Try.prog 184 C184 := fn_sound (T := T0) (fn := Try.f184) (tok trivial) (by kernel_rfl) (by kernel_rfl) H0 vc184 (by kernel_rfl)
theorem snd117 : Sound Try.prog 117 C117 := fn_sound (T := T0) (fn := Try.f117) (tok trivial) (by kernel_rfl) (by kernel_rfl) H117 vc117 (by kernel_rfl)
theorem snd95 : Sound Try.prog 95 C95 := fn_sound (T := T0) (fn := Try.f95) (tok trivial) (by kernel_rfl) (by kernel_rfl) H0 vc95 (by kernel_rfl)

end Tl
