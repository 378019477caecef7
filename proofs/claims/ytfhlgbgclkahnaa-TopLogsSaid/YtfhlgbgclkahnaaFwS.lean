/- Steps that may change places: they do. -/
import Derived.Test.YtfhlgbgclkahnaaFwR
set_option linter.unusedVariables false
set_option linter.unusedSimpArgs false
namespace Fw
open Go Go.RowKit

inductive Eff where
  | set (av : AV)
  | obj (r : WRes)
def Eff.app (e : Eff) (A : AState) (dst : Option Nat) : AState :=
  match e with
  | .set av => A.put dst av
  | .obj r => r.act A dst

def wantedA (ops : Array Oper) (o : Oper) (env : Nat → AV) : Option Bool :=
  match o.guard with
  | none => some true
  | some (j, want) => (match (ops[j]?).bind (·.dst) with
    | some dj => (match env dj with
      | .d (.bool b) => some (b == want)
      | x => bif isUndef x then some false else none)
    | none => none)

def GE (T : Ctx) (H : Hints) (ops : Array Oper) (o : Oper) (A : AState) : Eff → Prop
  | .set av => (wantedA ops o A.env = some false ∧ av = aundef) ∨ (wantedA ops o A.env = some true ∧ cls H o < 2 ∧ ∀ k : AV → Prop, k av → qstep T o.op A.ev A.heap k)
  | .obj r => wantedA ops o A.env = some true ∧ 2 ≤ cls H o ∧ ∀ k : WRes → Prop, k r → wstep T o.op (dstN o) A.ev A.heap k

section
variable {T : Ctx} {H : Hints} {ops : Array Oper}

theorem step_eff {o : Oper} {A : AState} {K : AState → Prop} (hw : wantedA ops o A.env = some true) (h : step T H o A K) : ∃ e, GE T H ops o A e ∧ K (e.app A o.dst) := by
  unfold step at h
  cases hc : Nat.ble 2 (cls H o) with
  | true =>
    rw [hc] at h
    simp only [cond_true] at h
    obtain ⟨r, h1, h2⟩ := Prin.wstep T o.op (dstN o) A.ev A.heap _ h
    exact ⟨.obj r, ⟨hw, Nat.le_of_ble_eq_true hc, h2⟩, h1⟩
  | false =>
    rw [hc] at h
    simp only [cond_false] at h
    obtain ⟨v, h1, h2⟩ := Prin.qstep T o.op A.ev A.heap _ h
    refine ⟨.set v, .inr ⟨hw, ?_, h2⟩, h1⟩
    rcases Nat.lt_or_ge (cls H o) 2 with h3 | h3
    · exact h3
    · rw [Nat.ble_eq_true_of_le h3] at hc; cases hc
theorem eff_step {o : Oper} {A : AState} {K : AState → Prop} {e : Eff} (hw : wantedA ops o A.env = some true) (h : GE T H ops o A e) (hK : K (e.app A o.dst)) : step T H o A K := by
  unfold step
  cases e with
  | set av =>
    rcases h with ⟨h1, _⟩ | ⟨_, h2, h3⟩
    · rw [hw] at h1; cases h1
    · have : Nat.ble 2 (cls H o) = false := by
        cases hb : Nat.ble 2 (cls H o) with
        | false => rfl
        | true => have := Nat.le_of_ble_eq_true hb; omega
      rw [this]
      exact h3 (fun v => K (A.put o.dst v)) hK
  | obj r =>
    obtain ⟨_, h2, h3⟩ := h
    rw [Nat.ble_eq_true_of_le h2]
    exact h3 (fun r => K (r.act A o.dst)) hK

theorem put_same {A : AState} {d : Nat} {v : AV} (h : A.env d = v) : A.put (some d) v = A := by
  unfold AState.put
  cases A with
  | mk env heap =>
    simp only [AState.mk.injEq, and_true]
    funext t
    rw [upd_eq]
    split
    · rename_i e; subst e; exact h.symm
    · rfl

theorem gstep_iff {o : Oper} {A : AState} {K : AState → Prop} : gstep T H ops o A K ↔ ∃ e, GE T H ops o A e ∧ K (e.app A o.dst) := by
  have hstep : ∀ {X : Prop}, wantedA ops o A.env = some true → (X ↔ step T H o A K) → (X ↔ ∃ e, GE T H ops o A e ∧ K (e.app A o.dst)) := by
    intro X hw hx
    rw [hx]
    exact ⟨step_eff hw, fun ⟨e, h1, h2⟩ => eff_step hw h1 h2⟩
  have hskip : ∀ {X : Prop}, wantedA ops o A.env = some false → (X ↔ K (A.put o.dst aundef)) → (X ↔ ∃ e, GE T H ops o A e ∧ K (e.app A o.dst)) := by
    intro X hw hx
    rw [hx]
    constructor
    · intro h; exact ⟨.set aundef, .inl ⟨hw, rfl⟩, h⟩
    · rintro ⟨e, h1, h2⟩
      cases e with
      | set av =>
        rcases h1 with ⟨_, rfl⟩ | ⟨h3, _⟩
        · exact h2
        · rw [hw] at h3; cases h3
      | obj r => have h3 := h1.1; rw [hw] at h3; cases h3
  have hno : ∀ {X : Prop}, wantedA ops o A.env = none → (X ↔ False) → (X ↔ ∃ e, GE T H ops o A e ∧ K (e.app A o.dst)) := by
    intro X hw hx
    rw [hx]
    refine ⟨fun h => h.elim, ?_⟩
    rintro ⟨e, h1, _⟩
    cases e with
    | set av => rcases h1 with ⟨h3, _⟩ | ⟨h3, _⟩ <;> rw [hw] at h3 <;> cases h3
    | obj r => have h3 := h1.1; rw [hw] at h3; cases h3
  unfold gstep
  cases hg : o.guard with
  | none => exact hstep (by simp [wantedA, hg]) Iff.rfl
  | some p =>
    obtain ⟨j, want⟩ := p
    simp only
    cases hd : (ops[j]?).bind (·.dst) with
    | none => exact hno (by simp only [wantedA, hg]; rw [hd]) Iff.rfl
    | some dj =>
      simp only
      cases hx : A.env dj with
      | d x =>
        cases x with
        | bool b =>
          cases b with
          | true =>
            simp only [Br, put_same hx]
            cases want with
            | true => exact hstep (by simp only [wantedA, hg]; rw [hd]; simp [hx]) Iff.rfl
            | false => exact hskip (by simp only [wantedA, hg]; rw [hd]; simp [hx]) Iff.rfl
          | false =>
            simp only [Br, put_same hx]
            cases want with
            | true => exact hskip (by simp only [wantedA, hg]; rw [hd]; simp [hx]) Iff.rfl
            | false => exact hstep (by simp only [wantedA, hg]; rw [hd]; simp [hx]) Iff.rfl
        | val v =>
          simp only
          cases hu : isUndef (.d (.val v)) with
          | true => exact hskip (by simp only [wantedA, hg]; rw [hd]; simp [hx, hu]) Iff.rfl
          | false => exact hno (by simp only [wantedA, hg]; rw [hd]; simp [hx, hu]) Iff.rfl
        | _ => exact hno (by simp only [wantedA, hg]; rw [hd]; simp [hx, isUndef]) Iff.rfl
      | _ => exact hno (by simp only [wantedA, hg]; rw [hd]; simp [hx, isUndef]) Iff.rfl

/-! ### What changes nothing for a step -/
theorem memT_spec {d : Nat} : ∀ {l : List Operand}, memT d l = false → .tmp d ∉ l
  | [], _ => by simp
  | x :: l, h => by
    cases x with
    | tmp t =>
      simp only [memT] at h
      cases hb : Nat.beq t d with
      | true => rw [hb] at h; cases h
      | false =>
        rw [hb] at h
        simp only [List.mem_cons, not_or]
        exact ⟨fun e => by injection e with e; subst e; simp at hb, memT_spec h⟩
    | _ => simp only [memT] at h; simp [memT_spec h]

theorem apart_ev {x y : Oper} {d : Nat} (h : apart1 ops x y = true) (hd : x.dst = some d) {A : AState} {A' : AState} (hA : ∀ t, t ≠ d → A'.env t = A.env t) :
    (∀ z ∈ y.op.operands, A'.ev z = A.ev z) ∧ wantedA ops y A'.env = wantedA ops y A.env ∧ y.dst ≠ some d := by
  unfold apart1 at h
  rw [hd] at h
  simp only [Bool.and_eq_true, Bool.not_eq_true'] at h
  obtain ⟨h1, h2⟩ := h
  unfold looksN at h1
  simp only [Bool.or_eq_false_iff] at h1
  refine ⟨fun z hz => ?_, ?_, ?_⟩
  · cases z with
    | tmp t =>
      refine hA t fun e => ?_
      subst e
      exact memT_spec h1.1 (by simpa using hz)
    | _ => rfl
  · unfold wantedA
    cases hg : y.guard with
    | none => rfl
    | some p =>
      obtain ⟨j, want⟩ := p
      have h3 := h1.2
      rw [hg] at h3
      simp only at h3 ⊢
      cases hdj : (ops[j]?).bind (·.dst) with
      | none => rfl
      | some dj =>
        rw [hdj] at h3
        simp only at h3 ⊢
        rw [hA dj fun e => by subst e; simp at h3]
  · intro e
    rw [e] at h2
    simp at h2

theorem put_env {A : AState} {d t : Nat} {v : AV} (h : t ≠ d) : (A.put (some d) v).env t = A.env t := by
  show upd A.env d v t = _
  rw [upd_eq, if_neg h]
theorem put_comm' {A : AState} {x y : Option Nat} {v u : AV} (h : ∀ d, x = some d → y ≠ some d) : (A.put x v).put y u = (A.put y u).put x v := by
  cases x with
  | none => rfl
  | some d =>
    cases y with
    | none => rfl
    | some e =>
      have hne : d ≠ e := fun he => h d rfl (by rw [he])
      unfold AState.put
      simp only [AState.mk.injEq, and_true]
      funext t
      simp only [upd_eq]
      by_cases h1 : t = e
      · by_cases h2 : t = d
        · exact absurd (h2.symm.trans h1) hne
        · rw [if_pos h1, if_neg h2, if_pos h1]
      · rw [if_neg h1]
        by_cases h2 : t = d
        · rw [if_pos h2, if_pos h2]
        · rw [if_neg h2, if_neg h2, if_neg h1]

/-- An object's making does not hang on the other objects. -/
theorem make_spec {o : Oper} {ρ : Env} {h : Hp} {r : WRes} (hc : cls H o = 2) (hr : ∀ k : WRes → Prop, k r → wstep T o.op (dstN o) ρ h k) :
    ∃ d ob val, o.dst = some d ∧ dstN o = d ∧ h d = none ∧ r = ⟨none, upd h d (some ob), val⟩ ∧ (∀ id ∈ val.ids, id = d) ∧
      ∀ h' : Hp, h' d = none → ∀ k : WRes → Prop, k ⟨none, upd h' d (some ob), val⟩ → wstep T o.op (dstN o) ρ h' k := by
  have hr0 := hr (fun x => x = r) rfl
  obtain ⟨dst, op, type, pos, after, guard⟩ := o
  have hdst : ∃ d, dst = some d := by
    cases dst with
    | some d => exact ⟨d, rfl⟩
    | none =>
      exfalso
      cases op <;> simp [cls, cls.mk] at hc
      rename_i c
      split at hc <;> simp at hc
  obtain ⟨d, rfl⟩ := hdst
  refine ⟨d, ?_⟩
  simp only [dstN] at hr0 ⊢
  cases op <;> simp only [wstep] at hr0 ⊢ <;> try (exact hr0.elim)
  case alloc t =>
    split at hr0
    · rename_i i hd hi
      refine ⟨.box i.zero, .ptr d 0, trivial, trivial, hd, hr0.symm, by simp [AV.ids], fun h' hd' k hk => ?_⟩
      rw [hd', hi]; exact hk
    · exact hr0.elim
  case box t x =>
    split at hr0
    · rename_i v hd hx
      cases hs : v.solid with
      | false => rw [hs] at hr0; exact hr0.elim
      | true =>
        rw [hs] at hr0
        refine ⟨.box v.cells, .ptr d 0, trivial, trivial, hd, hr0.symm, by simp [AV.ids], fun h' hd' k hk => ?_⟩
        rw [hd', hx]; simp only [hs]; exact hk
    · exact hr0.elim
  case makeSlice t l c =>
    unfold wmake at hr0 ⊢
    split at hr0
    · rename_i kl n kc m e ie hd hl hc' hse
      unfold wmk at hr0
      split at hr0
      · rename_i z hz
        cases hb : (Nat.beq ie.size (tyOf T.tt 6 e).size && Nat.blt 0 ie.size && Nat.blt 0 ie.bytes) with
        | false => rw [hb] at hr0; exact hr0.elim
        | true =>
          rw [hb] at hr0
          obtain ⟨h1, h2, h3, h4⟩ := hr0
          refine ⟨.row e _ (List.replicate n.toNat z), .own d, trivial, trivial, hd, h4.symm, by simp [AV.ids], fun h' hd' k hk => ?_⟩
          rw [hd', hl, hc', hse]
          simp only
          unfold wmk
          simp only [hz]
          rw [hb]
          exact ⟨h1, h2, h3, hk⟩
      · exact hr0.elim
    · exact hr0.elim
  all_goals simp [cls] at hc
  all_goals first | (split at hc <;> simp at hc; done) | (cases h9 : memN d H.dm <;> rw [h9] at hc <;> simp at hc)

end
end Fw
