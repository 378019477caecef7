/- Loops and code are sound. -/
import Derived.Test.YtfhlgbgclkahnaaFwX
set_option linter.unusedVariables false
set_option linter.unusedSimpArgs false
namespace Fw
open Go Go.RowKit

/-! ### What holds at a loop's head -/
def EX (S : AState) : (vars : List (Nat × Sh)) → List Nat → Shs vars → Prop
  | [], _, _ => True
  | (s, .ty t) :: l, used, x => (∃ d, S.env s = .d d ∧ t.ofD d = some x.1) ∧ EX S l used x.2
  | (s, .own e t) :: l, used, x => (∃ id, S.env s = .own id ∧ S.heap id = some (.row e t x.1) ∧ id ∉ used ∧ EX S l (id :: used) x.2) ∨
      (S.env s = .d (.val (.slice none 0 0)) ∧ x.1 = [] ∧ EX S l used x.2)
  | (s, .box t) :: l, used, x => ∃ id cs, S.env s = .ptr id 0 ∧ S.heap id = some (.box cs) ∧ decs t cs = some x.1 ∧ id ∉ used ∧ EX S l (id :: used) x.2

theorem memN_spec {n : Nat} : ∀ {l : List Nat}, memN n l = false → n ∉ l
  | [], _ => by simp
  | m :: l, h => by
    unfold memN at h
    cases hb : Nat.beq n m with
    | true => rw [hb] at h; cases h
    | false =>
      rw [hb] at h
      simp only [List.mem_cons, not_or]
      exact ⟨fun e => by subst e; simp at hb, memN_spec h⟩
theorem memN_mem {n : Nat} : ∀ {l : List Nat}, memN n l = true → n ∈ l
  | [], h => by cases h
  | m :: l, h => by
    unfold memN at h
    cases hb : Nat.beq n m with
    | true => exact List.mem_cons.2 (.inl (Nat.eq_of_beq_eq_true hb))
    | false => rw [hb] at h; exact List.mem_cons.2 (.inr (memN_mem h))

theorem ext_EX (S : AState) : ∀ (vars : List (Nat × Sh)) (used : List Nat) (k : Shs vars → Prop), ext S vars used k → ∃ x, k x ∧ EX S vars used x
  | [], used, k, h => ⟨(), h, trivial⟩
  | (s, .ty t) :: l, used, k, h => by
    simp only [ext] at h
    cases hv : viewD S.heap (S.env s) with
    | none => rw [hv] at h; exact h.elim
    | some d =>
      rw [hv] at h
      simp only at h
      cases hd : t.ofD d with
      | none => rw [hd] at h; exact h.elim
      | some x =>
        rw [hd] at h
        simp only at h
        cases hi : AV.isD (S.env s) with
        | false => rw [hi] at h; exact h.elim
        | true =>
          rw [hi] at h
          simp only [cond_true] at h
          obtain ⟨xs, h1, h2⟩ := ext_EX S l used _ h
          refine ⟨(x, xs), h1, ⟨d, ?_, hd⟩, h2⟩
          cases he : S.env s with
          | d y => rw [he] at hv; simp [viewD] at hv; rw [hv]
          | _ => rw [he] at hi; simp [AV.isD] at hi
  | (s, .own e t) :: l, used, k, h => by
    simp only [ext] at h
    split at h
    · rename_i id he
      split at h
      · rename_i e' t' xs hh
        split at h
        · rename_i ys hc
          obtain ⟨rfl, hys⟩ := castL_spec hc
          simp only at hys
          subst hys
          cases hb : (Nat.beq e e' && !memN id used) with
          | false => rw [hb] at h; exact h.elim
          | true =>
            rw [hb] at h
            simp only [cond_true] at h
            simp only [Bool.and_eq_true, Bool.not_eq_true'] at hb
            have := Nat.eq_of_beq_eq_true hb.1
            subst this
            obtain ⟨zs, h1, h2⟩ := ext_EX S l (id :: used) _ h
            exact ⟨(ys, zs), h1, .inl ⟨id, he, hh, memN_spec hb.2, h2⟩⟩
        · exact h.elim
      · exact h.elim
    · rename_i he
      obtain ⟨zs, h1, h2⟩ := ext_EX S l used _ h
      exact ⟨([], zs), h1, .inr ⟨he, rfl, h2⟩⟩
    · exact h.elim
  | (s, .box t) :: l, used, k, h => by
    simp only [ext] at h
    split at h
    · rename_i id he
      split at h
      · rename_i cs hh
        split at h
        · rename_i x hc
          cases hb : memN id used with
          | true => rw [hb] at h; exact h.elim
          | false =>
            rw [hb] at h
            simp only [Bool.not_false, cond_true] at h
            obtain ⟨zs, h1, h2⟩ := ext_EX S l (id :: used) _ h
            exact ⟨(x, zs), h1, id, cs, he, hh, hc, memN_spec hb, h2⟩
        · exact h.elim
      · exact h.elim
    · exact h.elim

/-- The object in a slot of a loop's head. -/
def EO (S : AState) (used : List Nat) (s : Nat) (o : Obj) : Prop :=
  (∃ id e t xs, id ∉ used ∧ S.env s = .own id ∧ S.heap id = some o ∧ o = .row e t xs) ∨
  (∃ e t, S.env s = .d (.val (.slice none 0 0)) ∧ o = .row e t []) ∨
  (∃ id cs t y, id ∉ used ∧ S.env s = .ptr id 0 ∧ S.heap id = some (.box cs) ∧ decs t cs = some y ∧ o = .box (encs t y))
theorem EO.mono {S : AState} {used used' : List Nat} {s : Nat} {o : Obj} (h : EO S used s o) (hu : ∀ i ∈ used', i ∈ used) : EO S used' s o := by
  rcases h with ⟨id, e, t, xs, h1, h2⟩ | h | ⟨id, cs, t, y, h1, h2⟩
  · exact .inl ⟨id, e, t, xs, fun h => h1 (hu _ h), h2⟩
  · exact .inr (.inl h)
  · exact .inr (.inr ⟨id, cs, t, y, fun h => h1 (hu _ h), h2⟩)

def idOf : AV → Option Nat
  | .own id => some id
  | .ptr id _ => some id
  | _ => none
theorem EO.fresh {S : AState} {used : List Nat} {s : Nat} {o : Obj} (h : EO S used s o) {id : Nat} (hi : idOf (S.env s) = some id) : id ∉ used := by
  rcases h with ⟨id', e, t, xs, h1, h2, _⟩ | ⟨e, t, h1, _⟩ | ⟨id', cs, t, y, h1, h2, _⟩
  · rw [h2] at hi; simp [idOf] at hi; subst hi; exact h1
  · rw [h1] at hi; simp [idOf] at hi
  · rw [h2] at hi; simp [idOf] at hi; subst hi; exact h1

theorem EX.obj {S : AState} : ∀ (vars : List (Nat × Sh)) (used : List Nat) (x : Shs vars), EX S vars used x → ∀ s o, heapOf vars x s = some o → EO S used s o
  | [], _, _, _, s, o, h => by simp [heapOf] at h
  | (t, .ty ty) :: l, used, x, hx, s, o, h => EX.obj l used x.2 hx.2 s o (by simpa [heapOf] using h)
  | (t, .own e ty) :: l, used, x, hx, s, o, h => by
    simp only [heapOf] at h
    cases hb : Nat.beq t s with
    | true =>
      rw [hb] at h
      simp only [cond_true, Option.some.injEq] at h
      have := Nat.eq_of_beq_eq_true hb
      subst this h
      rcases hx with ⟨id, h1, h2, h3, _⟩ | ⟨h1, h2, _⟩
      · exact .inl ⟨id, e, ty, x.1, h3, h1, h2, rfl⟩
      · exact .inr (.inl ⟨e, ty, h1, by rw [h2]⟩)
    | false =>
      rw [hb] at h
      simp only [cond_false] at h
      rcases hx with ⟨id, h1, h2, h3, h4⟩ | ⟨h1, h2, h4⟩
      · exact (EX.obj l _ x.2 h4 s o h).mono fun i hi => List.mem_cons.2 (.inr hi)
      · exact EX.obj l _ x.2 h4 s o h
  | (t, .box ty) :: l, used, x, hx, s, o, h => by
    simp only [heapOf] at h
    obtain ⟨id, cs, h1, h2, h3, h4, h5⟩ := hx
    cases hb : Nat.beq t s with
    | true =>
      rw [hb] at h
      simp only [cond_true, Option.some.injEq] at h
      have := Nat.eq_of_beq_eq_true hb
      subst this h
      exact .inr (.inr ⟨id, cs, ty, x.1, h4, h1, h2, h3, rfl⟩)
    | false =>
      rw [hb] at h
      simp only [cond_false] at h
      exact (EX.obj l _ x.2 h5 s o h).mono fun i hi => List.mem_cons.2 (.inr hi)

theorem EX.dist {S : AState} : ∀ (vars : List (Nat × Sh)) (used : List Nat) (x : Shs vars), EX S vars used x → ∀ s s' o o', heapOf vars x s = some o → heapOf vars x s' = some o' → s ≠ s' →
    ∀ id, idOf (S.env s) = some id → idOf (S.env s') ≠ some id
  | [], _, _, _, s, s', o, o', h, _, _ => by simp [heapOf] at h
  | (t, .ty ty) :: l, used, x, hx, s, s', o, o', h, h', hne => EX.dist l used x.2 hx.2 s s' o o' (by simpa [heapOf] using h) (by simpa [heapOf] using h') hne
  | (t, .own e ty) :: l, used, x, hx, s, s', o, o', h, h', hne => by
    intro id hi hi'
    simp only [heapOf] at h h'
    cases hb : Nat.beq t s with
    | true =>
      have := Nat.eq_of_beq_eq_true hb
      subst this
      have hb' : Nat.beq t s' = false := by
        cases hb' : Nat.beq t s' with
        | false => rfl
        | true => exact absurd (Nat.eq_of_beq_eq_true hb') hne
      rw [hb'] at h'
      simp only [cond_false] at h'
      rcases hx with ⟨id1, h1, h2, h3, h4⟩ | ⟨h1, h2, h4⟩
      · rw [h1] at hi
        simp [idOf] at hi
        subst hi
        exact (EX.obj l _ x.2 h4 s' o' h').fresh hi' (by simp)
      · rw [h1] at hi; simp [idOf] at hi
    | false =>
      rw [hb] at h
      simp only [cond_false] at h
      cases hb' : Nat.beq t s' with
      | true =>
        have := Nat.eq_of_beq_eq_true hb'
        subst this
        rcases hx with ⟨id1, h1, h2, h3, h4⟩ | ⟨h1, h2, h4⟩
        · rw [h1] at hi'
          simp [idOf] at hi'
          subst hi'
          exact (EX.obj l _ x.2 h4 s o h).fresh hi (by simp)
        · rw [h1] at hi'; simp [idOf] at hi'
      | false =>
        rw [hb'] at h'
        simp only [cond_false] at h'
        rcases hx with ⟨id1, h1, h2, h3, h4⟩ | ⟨h1, h2, h4⟩
        · exact EX.dist l _ x.2 h4 s s' o o' h h' hne id hi hi'
        · exact EX.dist l _ x.2 h4 s s' o o' h h' hne id hi hi'
  | (t, .box ty) :: l, used, x, hx, s, s', o, o', h, h', hne => by
    intro id hi hi'
    simp only [heapOf] at h h'
    obtain ⟨id1, cs, h1, h2, h3, h3', h4⟩ := hx
    cases hb : Nat.beq t s with
    | true =>
      have := Nat.eq_of_beq_eq_true hb
      subst this
      have hb' : Nat.beq t s' = false := by
        cases hb' : Nat.beq t s' with
        | false => rfl
        | true => exact absurd (Nat.eq_of_beq_eq_true hb') hne
      rw [hb'] at h'
      simp only [cond_false] at h'
      rw [h1] at hi
      simp [idOf] at hi
      subst hi
      exact (EX.obj l _ x.2 h4 s' o' h').fresh hi' (by simp)
    | false =>
      rw [hb] at h
      simp only [cond_false] at h
      cases hb' : Nat.beq t s' with
      | true =>
        have := Nat.eq_of_beq_eq_true hb'
        subst this
        rw [h1] at hi'
        simp [idOf] at hi'
        subst hi'
        exact (EX.obj l _ x.2 h4 s o h).fresh hi (by simp)
      | false =>
        rw [hb'] at h'
        simp only [cond_false] at h'
        exact EX.dist l _ x.2 h4 s s' o o' h h' hne id hi hi'

/-- The value in a slot of a loop's head. -/
def EV (S : AState) (vars : List (Nat × Sh)) (x : Shs vars) (els : AV) (s : Nat) (v : AV) : Prop :=
  v = els ∨ (∃ t d y, S.env s = .d d ∧ Ty.ofD t d = some y ∧ v = .d (t.toD y)) ∨ (v = .own (hid s) ∧ heapOf vars x s ≠ none ∧ ((∃ id, S.env s = .own id) ∨ S.env s = .d (.val (.slice none 0 0)))) ∨ (v = .ptr (hid s) 0 ∧ heapOf vars x s ≠ none ∧ ∃ id, S.env s = .ptr id 0)
theorem EX.env {S : AState} {els : AV} : ∀ (vars : List (Nat × Sh)) (used : List Nat) (x : Shs vars), EX S vars used x → ∀ s, EV S vars x els s (varsOf vars x s els)
  | [], _, _, _, s => .inl rfl
  | (t, .ty ty) :: l, used, x, hx, s => by
    simp only [varsOf]
    cases hb : Nat.beq t s with
    | true =>
      have := Nat.eq_of_beq_eq_true hb
      subst this
      obtain ⟨d, h1, h2⟩ := hx.1
      exact .inr (.inl ⟨ty, d, x.1, h1, h2, rfl⟩)
    | false =>
      have := EX.env (els := els) l used x.2 hx.2 s
      simpa [EV, heapOf] using this
  | (t, .own e ty) :: l, used, x, hx, s => by
    simp only [varsOf]
    cases hb : Nat.beq t s with
    | true =>
      have := Nat.eq_of_beq_eq_true hb
      subst this
      refine .inr (.inr (.inl ⟨rfl, by simp [heapOf], ?_⟩))
      rcases hx with ⟨id, h1, _⟩ | ⟨h1, _⟩
      · exact .inl ⟨id, h1⟩
      · exact .inr h1
    | false =>
      have : EV S l x.2 els s (varsOf l x.2 s els) := by
        rcases hx with ⟨id, h1, h2, h3, h4⟩ | ⟨h1, h2, h4⟩
        · exact EX.env (els := els) l _ x.2 h4 s
        · exact EX.env (els := els) l _ x.2 h4 s
      simpa [EV, heapOf, hb] using this
  | (t, .box ty) :: l, used, x, hx, s => by
    obtain ⟨id, cs, h1, h2, h3, h3', h4⟩ := hx
    simp only [varsOf]
    cases hb : Nat.beq t s with
    | true =>
      have := Nat.eq_of_beq_eq_true hb
      subst this
      exact .inr (.inr (.inr ⟨rfl, by simp [heapOf], id, h1⟩))
    | false =>
      have : EV S l x.2 els s (varsOf l x.2 s els) := EX.env (els := els) l _ x.2 h4 s
      simpa [EV, heapOf, hb] using this

theorem noneIn_spec {keep : List Nat} : ∀ {l : List Nat}, noneIn keep l = true → ∀ s ∈ keep, s ∉ l
  | [], _, _, _ => by simp
  | d :: l, h, s, hs => by
    simp only [noneIn, Bool.and_eq_true, Bool.not_eq_true'] at h
    simp only [List.mem_cons, not_or]
    exact ⟨fun e => by subst e; exact memN_spec h.1 hs, noneIn_spec h.2 s hs⟩

section
variable {P : Program} {T : Ctx} {H : Hints}
variable {w0 w : World} {O0 : Nat → Prop} {N : Nat} {A : AState} {ι : Nat → Value} {a : Act}

theorem head_sound (R : Rel w0 O0 N A ι a w) {D : List Nat} {A' : AState} {a' : Act} {w' : World} (haf : After w0 O0 N w (Own O0 A.heap ι) a D A' a' w') {L : LH} (hk : noneIn L.keep D = true)
    {k : Shs L.vars → Prop} (h : ext A' L.vars [] k) : ∃ x, k x ∧ After w0 O0 N w (Own O0 A.heap ι) a D (mkState A L x) a' w' := by
  obtain ⟨x, hx, hE⟩ := ext_EX A' L.vars [] k h
  refine ⟨x, hx, ?_⟩
  obtain ⟨ι', R', K', S', E'⟩ := haf
  have hval : ∀ s o, heapOf L.vars x s = some o → (∃ id o', idOf (A'.env s) = some id ∧ A'.heap id = some o' ∧ a'.tmps.getD s undef = ι' id) ∨ hblk (a'.tmps.getD s undef) = none := by
    intro s o ho
    have hr := R'.env s
    rcases EX.obj _ _ _ hE s o ho with ⟨id, e, t, xs, _, h2, h3, _⟩ | ⟨e, t, h1, _⟩ | ⟨id, cs, t, y, _, h2, h3, _⟩
    · rw [h2] at hr
      exact .inl ⟨id, o, by rw [h2]; rfl, h3, hr⟩
    · rw [h1] at hr
      have hr' : a'.tmps.getD s undef = .slice none 0 0 := hr
      exact .inr (by rw [hr']; rfl)
    · rw [h2] at hr
      obtain ⟨b, k1, k2⟩ := hr
      exact .inl ⟨id, _, by rw [h2]; rfl, h3, by rw [k1, k2]⟩
  have hat : ∀ id o, (mkState A L x).heap id = some o → ∃ s, id = hid s ∧ Nat.sub id 1000000 = s ∧ heapOf L.vars x s = some o := by
    intro id o h
    have h' : (bif Nat.ble 1000000 id then heapOf L.vars x (Nat.sub id 1000000) else none) = some o := h
    cases hb : Nat.ble 1000000 id with
    | false => rw [hb] at h'; cases h'
    | true =>
      rw [hb] at h'
      have := Nat.le_of_ble_eq_true hb
      refine ⟨Nat.sub id 1000000, ?_, rfl, h'⟩
      show id = 1000000 + (id - 1000000)
      omega
  have hback : ∀ s, (mkState A L x).heap (hid s) = heapOf L.vars x s := by
    intro s
    show (bif Nat.ble 1000000 (1000000 + s) then heapOf L.vars x ((1000000 + s) - 1000000) else none) = _
    rw [Nat.ble_eq_true_of_le (by omega), Nat.add_sub_cancel_left]
    rfl
  have hsub : ∀ b, Own O0 (mkState A L x).heap (fun id => a'.tmps.getD (Nat.sub id 1000000) undef) b → Own O0 A'.heap ι' b := by
    rintro b (hb | ⟨id0, hs0, hb⟩)
    · exact .inl hb
    · obtain ⟨o0, ho0⟩ := Option.ne_none_iff_exists'.1 hs0
      obtain ⟨s, _, hsub0, hs1⟩ := hat id0 o0 ho0
      have hs : heapOf L.vars x s ≠ none := by rw [hs1]; simp
      simp only [hsub0] at hb
      cases ho : heapOf L.vars x s with
      | none => exact absurd ho hs
      | some o =>
        rcases hval s o ho with ⟨id, o', h1, h2, h3⟩ | h1
        · exact .inr ⟨id, by rw [h2]; simp, by rw [← h3]; exact hb⟩
        · rw [h1] at hb; cases hb
  have hkw : Keeps w' (Own O0 A'.heap ι') w' (Own O0 (mkState A L x).heap (fun id => a'.tmps.getD (Nat.sub id 1000000) undef)) := Keeps.weaken hsub
  have hsubh : ∀ s, Nat.sub (hid s) 1000000 = s := fun s => Nat.add_sub_cancel_left 1000000 s
  refine ⟨fun id => a'.tmps.getD (Nat.sub id 1000000) undef, ⟨R'.below, R'.o0, fun s => ?_, fun id0 o ho0 => ?_, fun id0 id0' hs0 hs0' hne0 => ?_, fun s id hid0 => ?_, R'.size, R'.defers⟩, K'.trans hkw S', S', E'⟩
  · -- slots
    show ARep w' (Own O0 (mkState A L x).heap (fun id => a'.tmps.getD (Nat.sub id 1000000) undef)) _ (varsOf L.vars x s (keepOf L.keep A s)) _
    have hr := R'.env s
    rcases EX.env (els := keepOf L.keep A s) _ _ _ hE s with h | ⟨t, d, y, h1, h2, h3⟩ | ⟨h1, h2, h3⟩ | ⟨h1, h2, id, h3⟩
    · rw [h]
      unfold keepOf
      cases hm : memN s L.keep with
      | false => trivial
      | true =>
        simp only [cond_true]
        have hr0 := R.env s
        cases hx : A.env s with
        | d d =>
          rw [hx] at hr0
          simp only
          rw [E' s (noneIn_spec hk s (memN_mem hm))]
          exact VRep.keeps (K'.trans hkw S') _ _ hr0
        | _ => trivial
    · rw [h3]
      rw [h1] at hr
      exact VRep.keeps hkw _ _ (ofD_spec h2 hr).1
    · rw [h1]
      show _ = a'.tmps.getD (Nat.sub (hid s) 1000000) undef
      rw [hsubh]
    · rw [h1]
      rw [h3] at hr
      obtain ⟨b, k1, k2⟩ := hr
      refine ⟨b, ?_, k2⟩
      show a'.tmps.getD (Nat.sub (hid s) 1000000) undef = _
      rw [hsubh]
      exact k2
  · -- objects
    obtain ⟨s, _, hs0, ho⟩ := hat id0 o ho0
    simp only [hs0]
    have hr := R'.env s
    rcases EX.obj _ _ _ hE s o ho with ⟨id, e, t, xs, _, h2, h3, h4⟩ | ⟨e, t, h1, h2⟩ | ⟨id, cs, t, y, _, h2, h3, h4, h5⟩
    · rw [h2] at hr
      have hr' : a'.tmps.getD s undef = ι' id := hr
      simp only [hr']
      exact objRep_keeps hkw (fun _ _ => rfl) (R'.obj id o h3)
    · rw [h1] at hr
      have hr' : a'.tmps.getD s undef = .slice none 0 0 := hr
      subst h2
      simp only [hr']
      exact ⟨[], ⟨by simp, .inl ⟨rfl, rfl⟩⟩, fun j hj => by simp at hj⟩
    · rw [h2] at hr
      obtain ⟨b, k1, k2⟩ := hr
      subst h5
      simp only [k2]
      obtain ⟨g, vs, e, k3, k4, k5, k6⟩ := R'.obj id _ h3
      have := ptr_inj k1 k3
      subst this
      refine ⟨b, vs, e, rfl, k4, k5, ?_⟩
      exact decs_encs _ _ _ _ h4 (LRep.keeps hkw _ _ k6)
  · -- apart
    obtain ⟨o0, ho0⟩ := Option.ne_none_iff_exists'.1 hs0
    obtain ⟨o0', ho0'⟩ := Option.ne_none_iff_exists'.1 hs0'
    obtain ⟨s, hs1, hs2, hs3⟩ := hat id0 o0 ho0
    obtain ⟨s', hs1', hs2', hs3'⟩ := hat id0' o0' ho0'
    have hs : heapOf L.vars x s ≠ none := by rw [hs3]; simp
    have hs' : heapOf L.vars x s' ≠ none := by rw [hs3']; simp
    have hne : s ≠ s' := fun e => hne0 (by rw [hs1, hs1', e])
    simp only [hs2, hs2']
    cases ho : heapOf L.vars x s with
    | none => exact absurd ho hs
    | some o =>
      cases ho' : heapOf L.vars x s' with
      | none => exact absurd ho' hs'
      | some o' =>
        rcases hval s o ho with ⟨id, o1, h1, h2, h3⟩ | h1
        · rcases hval s' o' ho' with ⟨id', o1', h1', h2', h3'⟩ | h1'
          · have hid : id ≠ id' := fun e => EX.dist _ _ _ hE s s' o o' ho ho' hne id h1 (by rw [h1', e])
            have := R'.dist id id' (by rw [h2]; simp) (by rw [h2']; simp) hid
            simp only [h3, h3']
            exact this
          · simp only [h1']
            cases hb : hblk (a'.tmps.getD s undef) with
            | none => exact .inl rfl
            | some b => exact .inr (by simp)
        · exact .inl h1
  · -- references
    have hid' : id ∈ (varsOf L.vars x s (keepOf L.keep A s)).ids := hid0
    rcases EX.env (els := keepOf L.keep A s) _ _ _ hE s with h | ⟨t, d, y, h1, h2, h3⟩ | ⟨h1, h2, h3⟩ | ⟨h1, h2, _, h3⟩
    · rw [h] at hid'
      unfold keepOf at hid'
      cases hm : memN s L.keep with
      | false => rw [hm] at hid'; simp [AV.ids] at hid'
      | true =>
        rw [hm] at hid'
        simp only [cond_true] at hid'
        cases hx : A.env s <;> rw [hx] at hid' <;> simp [AV.ids] at hid'
    · rw [h3] at hid'; simp [AV.ids] at hid'
    · rw [h1] at hid'; simp only [AV.ids, List.mem_singleton] at hid'; subst hid'; rw [hback]; exact h2
    · rw [h1] at hid'; simp only [AV.ids, List.mem_singleton] at hid'; subst hid'; rw [hback]; exact h2

/-! ### Code -/
def ax : AX → Exit
  | .normal => .normal
  | .exit id => .exit id
  | .ret => .ret

theorem code_sound (tok : Tok P T) : ∀ (c : Code) (blk : Nat) (K : AX → AState → Prop) {A : AState} {ι : Nat → Value} {a : Act} {w : World} (Q : Exit → Act → World → Prop),
    Rel w0 O0 N A ι a w → awp T H N c blk K A →
    (∀ e A' a' w', K e A' → After w0 O0 N w (Own O0 A.heap ι) a (writes c) A' a' w' → Q (ax e) a' w') → c.wp P Q a w
  | .skip, blk, K, A, ι, a, w, Q, R, h, hQ => wp_skip (hQ .normal A a w h (After.refl R _))
  | .label _, blk, K, A, ι, a, w, Q, R, h, hQ => wp_label (hQ .normal A a w h (After.refl R _))
  | .region id ops draw, blk, K, A, ι, a, w, Q, R, h, hQ => region_sound tok R h (fun A' a' w' hK haf => hQ .normal A' a' w' hK haf)
  | .seq x y, blk, K, A, ι, a, w, Q, R, h, hQ => by
    refine wp_seq (code_sound tok x blk _ _ R h ?_)
    intro e A' a' w' hK haf
    cases e with
    | normal =>
      obtain ⟨ι', R', K', S', E'⟩ := haf
      refine code_sound tok y blk K Q R' hK fun e A'' a'' w'' hK'' haf'' => hQ e A'' a'' w'' hK'' ?_
      exact After.trans (D := writes (.seq x y)) K' S' (fun s hs => E' s fun h => hs (by simp [writes, h])) haf'' (fun d hd => by simp [writes, hd])
    | exit id => exact hQ (.exit id) A' a' w' hK (haf.mono fun d hd => by simp [writes, hd])
    | ret => exact hQ .ret A' a' w' hK (haf.mono fun d hd => by simp [writes, hd])
  | .cond c x y, blk, K, A, ι, a, w, Q, R, h, hQ => by
    simp only [awp] at h
    split at h
    · rename_i b hc
      have hr := R.ev c
      rw [hc] at hr
      have hv : a.eval c = .bool b := hr
      cases b with
      | true => exact wp_cond_true hv (code_sound tok x blk K Q R h fun e A' a' w' hK haf => hQ e A' a' w' hK (haf.mono fun d hd => by simp [writes, hd]))
      | false => exact wp_cond_false hv (code_sound tok y blk K Q R h fun e A' a' w' hK haf => hQ e A' a' w' hK (haf.mono fun d hd => by simp [writes, hd]))
    · exact h.elim
  | .block id c, blk, K, A, ι, a, w, Q, R, h, hQ => by
    refine wp_block (code_sound tok c id _ _ R h ?_)
    intro e A' a' w' hK haf
    cases e with
    | normal => exact hQ .normal A' a' w' hK haf
    | ret => exact hQ .ret A' a' w' hK haf
    | exit i =>
      simp only at hK
      show Exit.inBlock id Q (.exit i) a' w'
      unfold Exit.inBlock
      simp only
      split
      · rename_i e
        subst e
        rw [Nat.beq_refl] at hK
        exact hQ .normal A' a' w' hK haf
      · rename_i hne
        have : Nat.beq i id = false := by
          cases hb : Nat.beq i id with
          | false => rfl
          | true => exact absurd (Nat.eq_of_beq_eq_true hb) hne
        rw [this] at hK
        exact hQ (.exit i) A' a' w' hK haf
  | .loop c, blk, K, A, ι, a, w, Q, R, h, hQ => by
    simp only [awp] at h
    split at h
    · rename_i L hL
      have hb := bif_elim h
      cases hn : (noneIn L.keep (writes c) && nodupS L.vars) with
      | false => rw [hn] at h; exact h.elim
      | true =>
        simp only [Bool.and_eq_true] at hn
        obtain ⟨x, ⟨n, hx⟩, haf⟩ := head_sound (D := writes c) R (After.refl R _) hn.1 hb
        refine wp_loop_rounds n ?_
        revert hx
        have key : ∀ (n : Nat) (x : Shs L.vars) (a1 : Act) (w1 : World), After w0 O0 N w (Own O0 A.heap ι) a (writes c) (mkState A L x) a1 w1 →
            itl (fun G x => awp T H N c blk (fun e A' => match e with
              | .normal => ext A' L.vars [] G
              | e => K e A') (mkState A L x)) n x → Code.rounds P c Q n a1 w1 := by
          intro n
          induction n with
          | zero => intro x a1 w1 _ hx; exact hx.elim
          | succ n ih =>
            intro x a1 w1 haf1 hx
            rw [rounds_succ]
            obtain ⟨ι1, R1, K1, S1, E1⟩ := haf1
            refine code_sound tok c blk _ _ R1 hx ?_
            intro e A' a' w' hK haf'
            have haf2 : After w0 O0 N w (Own O0 A.heap ι) a (writes c) A' a' w' := After.trans K1 S1 E1 haf' fun d hd => hd
            cases e with
            | normal =>
              obtain ⟨x', hx', haf3⟩ := head_sound R haf2 hn.1 hK
              exact ih x' a' w' haf3 hx'
            | exit i => exact hQ (.exit i) A' a' w' hK haf2
            | ret => exact hQ .ret A' a' w' hK haf2
        exact fun hx => key n x a w haf hx
    · exact h.elim
  | .exit id, blk, K, A, ι, a, w, Q, R, h, hQ => wp_exit (hQ (.exit id) A a w h (After.refl R _))
  | .ret, blk, K, A, ι, a, w, Q, R, h, hQ => wp_ret (hQ .ret A a w h (After.refl R _))
  | .goto _, blk, K, A, ι, a, w, Q, R, h, hQ => h.elim
  | .rangeFunc .., blk, K, A, ι, a, w, Q, R, h, hQ => h.elim
  | .scope _, blk, K, A, ι, a, w, Q, R, h, hQ => h.elim

end
end Fw
