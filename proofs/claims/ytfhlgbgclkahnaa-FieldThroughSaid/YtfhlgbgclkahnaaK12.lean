/-
  What is proved: FieldThrough answers true at every order and all lists: the polynomial through any points, or the errors. Conditions: none.
-/
import Derived.Test.YtfhlgbgclkahnaaM5
import Derived.Test.YtfhlgbgclkahnaaRows
import Derived.WalkKit
import Derived.ProofKit
import Derived.OpenShut
import Derived.Below
import Derived.Carry

namespace Go.Proofs.Ytfhlgbgclkahnaa.fieldThrough
open Go.ChangeShapes Go.WideShapes Go.ChangeAt Go.RowKit
set_option linter.unusedVariables false

theorem own : ownKnob Try.prog.godebug = none := by kernel_rfl


/-! ### The walk: by the contract that the framework has proved of the function -/
theorem walk (a0 : Int) (a1 : List Int) (a2 : List Int) (v1 v2 : Value) (w : World) (g1 : Fw.SRep w O0 (.int .i64) a1 v1) (g2 : Fw.SRep w O0 (.int .i64) a2 v2) :
    Calls Try.prog 12 #[.int .i64 a0, v1, v2] w fun e w' => e = .returned (.bool true) ∧ Below w.heap.size w w' := by
  have h := Fd.snd12.2 (a0, a1, a2, ()) trivial w (fun _ => False) #[.int .i64 a0, v1, v2] ⟨fun _ h => h.elim, trivial⟩ ⟨_, _, rfl, rfl, _, _, rfl, ⟨g1, fun h => by cases h⟩, _, _, rfl, ⟨g2, fun h => by cases h⟩, rfl⟩
  rcases h with ⟨_, h⟩ | ⟨v, w', h, hp⟩
  · refine h.mono ?_
    rintro e w' ⟨v, rfl, hb, hr, _⟩
    have h1 : v = .bool true := hr (fun _ => .bool true)
    subst h1
    exact ⟨rfl, hb⟩
  · rw [Fw.run_callFunc Try.func12 (by kernel_rfl) (by kernel_rfl)] at h
    cases h

/-! ### The statement -/
set_option maxRecDepth 100000 in
theorem lifted (os : Os) (started : os.Started) (H : Type) (enc : TypeId × Value → H) :
    ReturnsInHanded {} Try.checked os 12 .any (Rows.fieldThroughSpec.pre6 enc Try.prog Try.f12 Rows.fieldThroughRow.domain false) (Rows.fieldThroughSpec.post enc Try.prog Try.f12 false true false false) := by
  refine returnsInHanded_of_change (C := Try.checked) own started (by kernel_rfl) Try.func12
    (ChangeSpec.witness6 (enc := enc) (C := Try.checked) false ⟨#[], #[.int .i64 0, .slice none 0 0, .slice none 0 0], []⟩ 8 (by kernel_rfl) (by kernel_rfl) (by kernel_rfl) (by kernel_rfl)) ?_
  intro W base args ds gs before hval0 hW hcnd _
  have hval : ∀ (j : Nat) t v, Try.f12.params[j]? = some t → args[j]? = some v → Value.okWide Try.prog W .any base t v := hval0
  have hW' := hW
  obtain ⟨p, q, hA0, hV, rfl, hfz, hnd⟩ := hW
  have hA : DataW.TrodAll enc Try.prog W 0 (fun _ => true) true Try.f12.params.toList args.toList ds p := hA0
  rw [Try.params12] at hA hval
  obtain ⟨v0, vs0, d0, ds0, p0, q0, hargs, rfl, rfl, h0, r0⟩ := trodAll_cons hA
  obtain ⟨v1, vs1, d1, ds1, p1, q1, rfl, rfl, rfl, h1, r1⟩ := trodAll_cons r0
  obtain ⟨v2, vs2, d2, ds2, p2, q2, rfl, rfl, rfl, h2, r2⟩ := trodAll_cons r1
  obtain ⟨rfl, rfl, rfl⟩ := trodAll_nil r2
  obtain rfl : args = #[v0, v1, v2] := by cases args; simp_all
  obtain ⟨rfl, rfl⟩ := trodVars_none hV
  obtain ⟨a0, rfl, rfl, rfl, w0⟩ := open_int Try.underlying3 (hval 0 3 v0 rfl rfl) h0
  obtain ⟨a1, g1⟩ := srep_ints (hval 1 30 v1 rfl rfl) h1
  obtain ⟨a2, g2⟩ := srep_ints (hval 2 30 v2 rfl rfl) h2
  clear hA0 hval0
  have l1 : ∀ x ∈ p1, x.block < W.heap.size := fun x hx => by simpa using hW'.lt x (by simp [hx])
  have l2 : ∀ x ∈ p2, x.block < W.heap.size := fun x hx => by simpa using hW'.lt x (by simp [hx])
  refine (walk a0 a1 a2 v1 v2 W g1 g2).mono fun e W' ⟨he, bel⟩ => ?_
  subst he
  exact ⟨_, rfl, _, _, _, [], _, [], hW', trodAll_mk1 (shut_bool Try.underlying4 _), (trodAll_cons_mk (shut_int Try.underlying3 w0) (trodAll_cons_mk (Below.trod laidTry (by kernel_rfl) (of_decide_eq_true (by kernel_rfl)) h1 bel l1) (trodAll_cons_mk (Below.trod laidTry (by kernel_rfl) (of_decide_eq_true (by kernel_rfl)) h2 bel l2) trodAll_mk0))), rfl, bel.frame _, fun h => by cases h⟩

theorem over : Rows.fieldThroughRow.holds Try.pinned (OpenSpec.ofChange Rows.fieldThroughSpec) :=
  OpenClaim.holds_of_wide 12 Try.f12 rfl rfl rfl rfl rfl rfl rfl ⟨rfl, rfl, rfl, rfl, rfl⟩ rfl rfl rfl rfl rfl (by kernel_rfl) Try.func12 (by kernel_rfl)
    (of_decide_eq_true (by kernel_rfl)) (by unfold Func.isWrapper; first | (rw [if_pos (by decide +kernel)]; kernel_rfl) | (rw [if_neg (by decide +kernel)]; exact ⟨rfl, rfl⟩))
    (fun os started H enc _ => lifted os started H enc)

/-- The statement. -/
theorem proved : Rows.FieldThroughSaid :=
  over
#print axioms proved
end Go.Proofs.Ytfhlgbgclkahnaa.fieldThrough
