/- Tools for proofs of functions. -/
import Derived.Test.YtfhlgbgclkahnaaFwZ
set_option linter.unusedVariables false
set_option linter.unusedSimpArgs false
namespace Fw
open Go

def AllTI (P : Program) : List (Nat × TInf) → Prop
  | [] => True
  | p :: l => mkTI P p.1 = some p.2 ∧ AllTI P l
theorem AllTI.spec {P : Program} : ∀ {l : List (Nat × TInf)}, AllTI P l → ∀ t i, look l t = some i → mkTI P t = some i
  | [], _, t, i, h => by cases h
  | (m, x) :: l, ha, t, i, h => by
    simp only [look] at h
    cases hb : Nat.beq m t with
    | true =>
      rw [hb] at h
      simp only [cond_true, Option.some.injEq] at h
      have := Nat.eq_of_beq_eq_true hb
      subst this h
      exact ha.1
    | false => rw [hb] at h; exact AllTI.spec ha.2 t i h

def AllS (P : Program) : List (Nat × Con) → Prop
  | [] => True
  | p :: l => Sound P p.1 p.2 ∧ AllS P l
theorem AllS.spec {P : Program} : ∀ {l : List (Nat × Con)}, AllS P l → ∀ t i, look l t = some i → Sound P t i
  | [], _, t, i, h => by cases h
  | (m, x) :: l, ha, t, i, h => by
    simp only [look] at h
    cases hb : Nat.beq m t with
    | true =>
      rw [hb] at h
      simp only [cond_true, Option.some.injEq] at h
      have := Nat.eq_of_beq_eq_true hb
      subst this h
      exact ha.1
    | false => rw [hb] at h; exact AllS.spec ha.2 t i h

/-- Rounds, by what holds ahead of each and what falls. -/
theorem itl_rule {σ : Type} {F : (σ → Prop) → σ → Prop} (I : σ → Prop) (μ : σ → Nat) {x : σ} (h0 : I x)
    (step : ∀ x G, I x → (∀ y, I y → μ y < μ x → G y) → F G x) : ∃ n, itl F n x := by
  have key : ∀ n x, I x → μ x < n → itl F n x := by
    intro n
    induction n with
    | zero => intro x _ h; omega
    | succ n ih => intro x hx hlt; exact step x _ hx fun y hy hl => ih y hy (by omega)
  exact ⟨_, key _ x h0 (Nat.lt_succ_self _)⟩

theorem Br_of {b : Bool} {X Y : Prop} (h : b = true → X) (h' : b = false → Y) : Br b X Y := by
  cases b
  · exact h' rfl
  · exact h rfl

theorem wrap_i64 {x : Int} (h : -9223372036854775808 ≤ x) (h' : x ≤ 9223372036854775807) : IntKind.wrap .i64 x = x := by
  unfold IntKind.wrap
  simp [IntKind.bits, IntKind.signed]
  omega

/-- A function value's contract from that of the function that it is. -/
theorem cv_of {P : Program} {C : Con}
    (h : ∀ x, C.pre x → ∃ (f : FuncId) (caps ds : List D) (Cf : Con) (y : Ars Cf.args), Sound P f Cf ∧ encs C.args x = .clo f caps :: ds ∧ encs Cf.args y = ds ++ caps ∧ Cf.pre y ∧ C.fresh = none ∧
      encs Cf.res (Cf.post y) = encs C.res (C.post x)) : SoundCv P C := by
  intro x hx w O r vs hO hl
  obtain ⟨f, caps, ds, Cf, y, hS, e1, e2, hy, hfr, e3⟩ := h x hx
  rw [e1] at hl
  obtain ⟨u, us, e4, hu, hus⟩ := hl
  injection e4 with e4 e5
  subst e4 e5
  obtain ⟨cs, hcs1, hcs2⟩ := hu
  subst hcs1
  obtain ⟨⟨fn, hfn, hbody, hname⟩, hS⟩ := hS
  refine ⟨f, vs.toArray ++ cs, ?_, ?_⟩
  · have := run_callFunc (P := P) (w := w) hfn hbody hname (vs.toArray ++ cs)
    simp [Deferred.ofValue, invoke]
    simpa using this
  · refine (hS y hy w O (vs.toArray ++ cs) hO ?_).mono ?_
    · rw [e2]
      simpa using hus.append hcs2
    · rintro e w' ⟨v, he, hb, hv, _⟩
      refine ⟨v, he, hb, fun ι => ?_, fun e he => by rw [hfr] at he; cases he⟩
      rw [← e3]
      exact hv ι

end Fw
