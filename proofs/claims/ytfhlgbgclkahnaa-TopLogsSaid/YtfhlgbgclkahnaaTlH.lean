/- The functions of TopLogs are sound (2). -/
import Derived.Test.YtfhlgbgclkahnaaTlG
set_option linter.unusedVariables false
set_option linter.unusedSimpArgs false
set_option maxRecDepth 100000
namespace Tl
open Go Fw Go.Proofs

theorem toki {fs : List (Nat × Con)} (h : AllS Try.prog fs) : Tok Try.prog ⟨tt, fs, [("dauber/field.product", Vprod)], none⟩ := by
  refine ⟨mixed, tt_all.spec, h.spec, fun n C h => ?_, fun C h => (by cases h)⟩
  simp only [looks] at h
  split at h
  · rename_i e _
    injection h with h
    subst h e
    exact invProd
  · cases h

theorem snd100 : Sound Try.prog 100 C100 := fn_sound (T := T100) (fn := Try.f100) (toki trivial) (by kernel_rfl) (by kernel_rfl) H100 vc100 (by kernel_rfl)
theorem snd146 : Sound Try.prog 146 C146 := fn_sound (T := T146) (fn := Try.f146) (tok ⟨snd100, trivial⟩) (by kernel_rfl) (by kernel_rfl) H0 vc146 (by kernel_rfl)
theorem cvTell : SoundCv Try.prog Vtell := cv_of fun x hx => by
  obtain ⟨f, (y : Int), ⟨⟩⟩ := x
  rcases hx with ⟨lo, hi, h⟩ | ⟨r, p, g, h, h1, h2, h3, h4, h5, h6⟩ | ⟨p, g, h, h1, h2, h3, h4, h5⟩
  · simp only at h
    subst h
    exact ⟨154, [.rptr [n64 lo], .rptr [n64 hi]], [n64 y], C154, (y, .rptr [n64 lo], .rptr [n64 hi], ()), snd154, rfl, rfl, ⟨lo, hi, rfl, rfl⟩, rfl, rfl⟩
  · simp only at h
    subst h
    exact ⟨159, [.rptr [n64 r, n64 p, n64 g]], [n64 y], C159, (y, .rptr [n64 r, n64 p, n64 g], ()), snd159, rfl, rfl, ⟨r, p, g, rfl, h1, h2, h3, h4, h5, h6⟩, rfl, rfl⟩
  · simp only at h
    subst h
    exact ⟨146, [.rptr [arD p], .rptr [n64 g], .rptr [fieldD p 0]], [n64 y], C146, (y, .rptr [arD p], .rptr [n64 g], .rptr [fieldD p 0], ()), snd146, rfl, rfl, ⟨p, g, rfl, rfl, rfl, h1, h2, h3, h4, h5⟩, rfl, rfl⟩
theorem snd166 : Sound Try.prog 166 C166 := fn_sound (T := T166) (fn := Try.f166) (tokv trivial cvTell) (by kernel_rfl) (by kernel_rfl) H166 vc166 (by kernel_rfl)
theorem snd164 : Sound Try.prog 164 C164 := fn_sound (T := T166) (fn := Try.f164) (tokv trivial cvTell) (by kernel_rfl) (by kernel_rfl) H166 vc164 (by kernel_rfl)
theorem snd153 : Sound Try.prog 153 C153 := fn_sound (T := T153) (fn := Try.f153) (tok ⟨snd166, trivial⟩) (by kernel_rfl) (by kernel_rfl) H0 vc153 (by kernel_rfl)
theorem snd139 : Sound Try.prog 139 C139 := fn_sound (T := T139) (fn := Try.f139) (tok ⟨snd164, trivial⟩) (by kernel_rfl) (by kernel_rfl) H0 vc139 (by kernel_rfl)
theorem snd126 : Sound Try.prog 126 C126 := fn_sound (T := T126) (fn := Try.f126) (tok ⟨snd153, trivial⟩) (by kernel_rfl) (by kernel_rfl) H0 vc126 (by kernel_rfl)
theorem snd130 : Sound Try.prog 130 C130 := fn_sound (T := T130) (fn := Try.f130) (tok ⟨snd126, trivial⟩) (by kernel_rfl) (by kernel_rfl) H0 vc130 (by kernel_rfl)
theorem snd132 : Sound Try.prog 132 C132 := fn_sound (T := T132) (fn := Try.f132) (tok ⟨snd126, snd153, trivial⟩) (by kernel_rfl) (by kernel_rfl) H0 vc132 (by kernel_rfl)
theorem snd129 : Sound Try.prog 129 C129 := fn_sound (T := T129) (fn := Try.f129) (tok ⟨snd126, snd127, snd128, trivial⟩) (by kernel_rfl) (by kernel_rfl) H0 vc129 (by kernel_rfl)
theorem snd83 : Sound Try.prog 83 C83 := fn_sound (T := T83) (fn := Try.f83) (tok ⟨snd126, snd127, snd128, trivial⟩) (by kernel_rfl) (by kernel_rfl) H83 vc83 (by kernel_rfl)
theorem snd86 : Sound Try.prog 86 C86 := fn_sound (T := T86) (fn := Try.f86) (tok ⟨snd129, snd130, snd131, trivial⟩) (by kernel_rfl) (by kernel_rfl) H0 vc86 (by kernel_rfl)
theorem snd87 : Sound Try.prog 87 C87 := fn_sound (T := T87) (fn := Try.f87) (tok ⟨snd129, snd132, trivial⟩) (by kernel_rfl) (by kernel_rfl) H0 vc87 (by kernel_rfl)
theorem snd133 : Sound Try.prog 133 C133 := fn_sound (T := T133) (fn := Try.f133) (tok ⟨snd129, trivial⟩) (by kernel_rfl) (by kernel_rfl) H0 vc133 (by kernel_rfl)
theorem snd120 : Sound Try.prog 120 C120 := fn_sound (T := T120) (fn := Try.f120) (tok ⟨snd117, snd139, trivial⟩) (by kernel_rfl) (by kernel_rfl) H120 vc120 (by kernel_rfl)
theorem snd78 : Sound Try.prog 78 C78 := fn_sound (T := T78) (fn := Try.f78) (tok ⟨snd117, snd120, trivial⟩) (by kernel_rfl) (by kernel_rfl) H78 vc78 (by kernel_rfl)
theorem snd38 : Sound Try.prog 38 C38 := fn_sound (T := T38) (fn := Try.f38) (tok ⟨snd95, snd100, trivial⟩) (by kernel_rfl) (by kernel_rfl) H0 vc38 (by kernel_rfl)
theorem snd39 : Sound Try.prog 39 C39 := fn_sound (T := T39) (fn := Try.f39) (toki ⟨snd95, trivial⟩) (by kernel_rfl) (by kernel_rfl) H39 vc39 (by kernel_rfl)

end Tl
