/- The field's product, through an interface. -/
import Derived.Test.YtfhlgbgclkahnaaTlF
set_option linter.unusedVariables false
set_option linter.unusedSimpArgs false
set_option maxRecDepth 100000
namespace Tl
open Go Fw Go.RowKit Go.Proofs

theorem m123 : ((Try.prog.info? 123).bind fun i => (i.methods.find? (·.name == "dauber/field.product")).map fun m => (m.path.toList.length, m.func)) = some (0, some (184, false)) := by kernel_rfl
theorem m23 : ((Try.prog.info? 23).bind fun i => (i.methods.find? (·.name == "dauber/field.product")).map fun m => (m.path.toList.map fun s => (s.struct, s.index, s.deref), m.func)) = some ([(112, 0, true)], none) := by kernel_rfl

theorem method123 (fuel : Nat) (v : Value) (w : World) : (Go.method (fuel + 1) 123 v "dauber/field.product").run Try.prog w = .ok (184, v) w := by
  obtain ⟨inf, d, z, h1, h2, h3, h4, h5, h6, h7⟩ := mkTI_spec (tt_all.spec 123 _ (by rfl))
  obtain ⟨fa, rfl, _⟩ := tdOf_struct h6
  have hm := m123
  rw [h1] at hm
  simp only [Option.bind_some] at hm
  cases hf : inf.methods.find? (·.name == "dauber/field.product") with
  | none => rw [hf] at hm; cases hm
  | some m =>
    rw [hf] at hm
    simp only [Option.map_some, Option.some.injEq, Prod.mk.injEq] at hm
    obtain ⟨hp, hfn⟩ := hm
    have hp' : m.path.toList = [] := List.eq_nil_of_length_eq_zero hp
    unfold Go.method
    simp [typeInfo, h1, hf, hp', hfn, follow, receiverAt, run_underlying h2, Place.get]

theorem method23 (fuel : Nat) (ad : Addr) (v : Value) (w : World) (h : w.cell? (ad.add 0) = some (.iface 123 v)) :
    (Go.method (fuel + 2) 23 (.pointer (some ad)) "dauber/field.product").run Try.prog w = .ok (184, v) w := by
  obtain ⟨inf, d, z, h1, h2, h3, h4, h5, h6, h7⟩ := mkTI_spec (tt_all.spec 23 _ (by rfl))
  obtain ⟨inf2, d2, z2, g1, g2, g3, g4, g5, g6, g7⟩ := mkTI_spec (tt_all.spec 112 _ (by rfl))
  obtain ⟨inf3, d3, z3, k1, k2, k3, k4, k5, k6, k7⟩ := mkTI_spec (tt_all.spec 110 _ (by rfl))
  obtain ⟨fa, rfl, hfa⟩ := tdOf_struct g6
  have hm := m23
  rw [h1] at hm
  simp only [Option.bind_some] at hm
  cases hf : inf.methods.find? (·.name == "dauber/field.product") with
  | none => rw [hf] at hm; cases hm
  | some m =>
    rw [hf] at hm
    simp only [Option.map_some, Option.some.injEq, Prod.mk.injEq] at hm
    obtain ⟨hp, hfn⟩ := hm
    obtain ⟨s, hs⟩ : ∃ s, m.path.toList = [s] := by
      cases hl : m.path.toList with
      | nil => rw [hl] at hp; simp at hp
      | cons s l => cases l with
        | nil => exact ⟨s, rfl⟩
        | cons s2 l2 => rw [hl] at hp; simp at hp
    rw [hs] at hp
    simp only [List.map_cons, List.map_nil, List.cons.injEq, Prod.mk.injEq, and_true] at hp
    obtain ⟨e1, e2, e3⟩ := hp
    obtain ⟨f, hf0, hoff, hty⟩ : ∃ f, fa[0]? = some f ∧ f.offset = 0 ∧ f.type = 110 := by
      have h0 : (fa.toList.map fun f => (f.offset, f.type))[0]? = some (0, 110) := by rw [← hfa]; rfl
      rw [List.getElem?_map] at h0
      cases hx : fa.toList[0]? with
      | none => rw [hx] at h0; cases h0
      | some f =>
        rw [hx] at h0
        simp only [Option.map_some, Option.some.injEq, Prod.mk.injEq] at h0
        exact ⟨f, by simpa using hx, h0.1, h0.2⟩
    have hagg : (isAgg 110).run Try.prog w = .ok false w := by
      unfold isAgg
      simp only [Sem.run_bind, run_underlying k2]
      cases d3 <;> first | rfl | (simp [tdOf] at k6)
    have hrest := method123 fuel v w
    rw [show fuel + 2 = (fuel + 1) + 1 from rfl]
    unfold Go.method
    simp [typeInfo, h1, hf, hs, hfn, follow, e1, e2, e3, run_underlying g2, hf0, Place.get, asAddr, fieldPlace, hty, hoff, run_size k1, k4, loadVar, hagg, load, Sem.run, h]

    exact hrest

theorem fuel2 : ∃ k, Try.prog.types.size + Made.depth = k + 2 := by
  have h : Nat.ble 2 (Try.prog.types.size + Made.depth) = true := by kernel_rfl
  have := Nat.le_of_ble_eq_true h
  exact ⟨_, (Nat.sub_add_cancel this).symm⟩

theorem invProd : SoundInv Try.prog "dauber/field.product" Vprod := by
  rintro ⟨d, (a : Int), (b : Int), ⟨⟩⟩ ⟨h0, h1, h2, h3, h4⟩ w O r vs hO hl
  simp only at h0 h1 h2 h3 h4
  obtain ⟨p, p1, p2, hd⟩ := h0
  obtain ⟨u, us, e, hu, hus⟩ := hl
  injection e with e1 e2
  subst e1 e2
  obtain ⟨k, hk⟩ := fuel2
  have hmod : Pl.modOf d = p := by
    rcases hd with rfl | ⟨g, rfl⟩ <;> rfl
  rw [hmod] at h2 h4
  -- what the receiver is
  have hrun : ∃ rv : Value, (callMethod r "dauber/field.product" vs.toArray).run Try.prog w = .ok (.enter 184 (#[rv] ++ vs.toArray)) w ∧ VRep w O (.agg [n64 p]) rv := by
    have call : ∀ (t : Nat) (v rv : Value), r = .iface t v → (Go.method (k + 2) t v "dauber/field.product").run Try.prog w = .ok (184, rv) w →
        (callMethod r "dauber/field.product" vs.toArray).run Try.prog w = .ok (.enter 184 (#[rv] ++ vs.toArray)) w := by
      intro t v rv hr hm
      subst hr
      unfold callMethod
      simp only [Sem.run_bind, run_program, Result.andThen, hk, hm]
      exact run_callFunc (fn := Try.f184) (by kernel_rfl) (by kernel_rfl) (by kernel_rfl) _
    rcases hd with rfl | ⟨g, rfl⟩
    · obtain ⟨v, hr, hv⟩ := hu
      exact ⟨v, call _ _ _ hr (method123 (k + 1) v w), hv⟩
    · obtain ⟨v, hr, hv⟩ := hu
      obtain ⟨ad, hv1, hv2⟩ := hv
      subst hv1
      obtain ⟨⟨c, hc1, hc2⟩, _⟩ := hv2
      obtain ⟨v', hc3, hc4⟩ := hc2
      subst hc3
      exact ⟨v', call _ _ _ hr (method23 k ad v' w hc1.2), hc4⟩
  obtain ⟨rv, hrun, hrv⟩ := hrun
  refine ⟨184, _, hrun, ?_⟩
  obtain ⟨_, hS⟩ := snd184
  refine (hS ((p, ()), a, b, ()) ⟨by show 1 ≤ p; omega, p2, h1, h2, h3, h4⟩ w O _ hO ?_).mono ?_
  · have : (#[rv] ++ vs.toArray).toList = rv :: vs := by simp
    rw [this]
    exact ⟨_, _, rfl, hrv, hus⟩
  · rintro e w' ⟨v, he, hb, hv, _⟩
    refine ⟨v, he, hb, fun ι => ?_, fun e he => by cases he⟩
    have := hv ι
    show ARep w' O ι (resAV [n64 (a * b % Pl.modOf d)]) v
    rw [hmod]
    exact this

end Tl
