/- Regions are sound. -/
import Derived.Test.YtfhlgbgclkahnaaFwV
import Derived.Orders
set_option linter.unusedVariables false
set_option linter.unusedSimpArgs false
namespace Fw
open Go Go.RowKit

section
variable {P : Program} {T : Ctx} {H : Hints} {ops : Array Oper}

def aAny (T : Ctx) (H : Hints) (ops : Array Oper) (K : AState → Prop) : Nat → Array Bool → AState → Prop
  | 0, listed, A => Region.ready .any ops listed = [] ∧ K A
  | f + 1, listed, A => (Region.ready .any ops listed = [] → K A) ∧
      ∀ i ∈ Region.ready .any ops listed, ∀ o, ops[i]? = some o → gstep T H ops o A (aAny T H ops K f (listed.setIfInBounds i true))

theorem waits_spec {o : Oper} {i : Nat} (h : waits o i = false) : ∀ e ∈ o.after, Region.binds .any e = true → e.on ≠ i := by
  intro e he hb heq
  unfold waits at h
  have := List.any_eq_false.1 h e (by simpa using he)
  simp only [Bool.and_eq_true, not_and] at this
  exact this hb (by subst heq; simp)

theorem aAny_first {K : AState → Prop} {i : Nat} {oi : Oper} (hi : ops[i]? = some oi) :
    ∀ (fuel : Nat) (listed : Array Bool) (A : AState), wfA A →
      (∀ j oj, ops[j]? = some oj → j ≠ i → listed.getD j true = false → waits oj i = false → pairOK H ops oi oj = true) →
      i ∈ Region.ready .any ops listed → gstep T H ops oi A (aAny T H ops K fuel (listed.setIfInBounds i true)) → aAny T H ops K (fuel + 1) listed A := by
  intro fuel
  induction fuel with
  | zero =>
    intro listed A hwf hfree hr h
    refine ⟨fun h0 => (by rw [h0] at hr; cases hr), fun j hj oj hoj => ?_⟩
    by_cases hji : j = i
    · subst hji
      rw [hi] at hoj
      injection hoj with hoj
      subst hoj
      exact h
    · obtain ⟨e, _, h2⟩ := gstep_iff.1 h
      have := ready_mono (md := .any) hj hji
      rw [h2.1] at this
      cases this
  | succ fuel ih =>
    intro listed A hwf hfree hr h
    refine ⟨fun h0 => (by rw [h0] at hr; cases hr), fun j hj oj hoj => ?_⟩
    by_cases hji : j = i
    · subst hji
      rw [hi] at hoj
      injection hoj with hoj
      subst hoj
      exact h
    · obtain ⟨ei, g1, g2⟩ := gstep_iff.1 h
      obtain ⟨ej, g3, g4⟩ := gstep_iff.1 (g2.2 j (ready_mono hj hji) oj hoj)
      obtain ⟨hjun, oj', hoj', hall⟩ := mem_ready.1 hj
      rw [hoj] at hoj'
      injection hoj' with hoj'
      subst hoj'
      have hnot : waits oj i = false := by
        cases hw : waits oj i with
        | false => rfl
        | true =>
          unfold waits at hw
          obtain ⟨e, he, h5⟩ := List.any_eq_true.1 hw
          simp only [Bool.and_eq_true] at h5
          have h1 := hall e (by simpa using he) h5.1
          have heq := Nat.eq_of_beq_eq_true h5.2
          have h0 := (mem_ready.1 hr).1
          rw [heq] at h1
          rcases Nat.lt_or_ge i listed.size with h' | h'
          · simp [h'] at h0 h1; rw [h0] at h1; cases h1
          · simp [Array.getElem?_eq_none h'] at h1
      obtain ⟨ei', ej', k1, k2, k3⟩ := comm (hfree j oj hoj hji hjun hnot) hwf g1 g3
      refine gstep_iff.2 ⟨ej', k1, ih (listed.setIfInBounds j true) _ (ge_wf hwf k1) ?_ (ready_mono hr (Ne.symm hji)) (gstep_iff.2 ⟨ei', k2, ?_⟩)⟩
      · intro k ok hk hki hun hno
        refine hfree k ok hk hki ?_ hno
        by_cases hjk : j = k
        · subst hjk; exact hjun
        · rw [getD_set_ne true hjk] at hun; exact hun
      · rw [k3, Array.setIfInBounds_comm _ _ hji]
        exact g4

theorem gstep_mono {o : Oper} {A : AState} {K K' : AState → Prop} (h : gstep T H ops o A K) (hk : ∀ e, GE T H ops o A e → K (e.app A o.dst) → K' (e.app A o.dst)) : gstep T H ops o A K' := by
  obtain ⟨e, h1, h2⟩ := gstep_iff.1 h
  exact gstep_iff.2 ⟨e, h1, hk e h1 h2⟩

theorem aAny_lex {K : AState → Prop} : ∀ (l : List Oper) (k : Nat) (listed : Array Bool) (A : AState), (∀ j, l[j]? = ops[k + j]?) → k + l.length = ops.size → listed.size = ops.size → (∀ j (h : j < listed.size), listed[j] = decide (j < k)) →
    lexL H ops k l = true → wfA A → aops T H ops l A K → aAny T H ops K l.length listed A
  | [], k, listed, A, hl, hlen, hsz, hls, _, _, h => by
    refine ⟨?_, h⟩
    cases hr : Region.ready .any ops listed with
    | nil => rfl
    | cons i r =>
      exfalso
      have : i ∈ Region.ready .any ops listed := by rw [hr]; simp
      obtain ⟨h1, o, ho, _⟩ := mem_ready.1 this
      have hi : i < ops.size := (Array.getElem?_eq_some_iff.1 ho).1
      rw [Array.getD_eq_getD_getElem?, Array.getElem?_eq_getElem (by omega), hls i (by omega)] at h1
      simp at hlen
      simp at h1
      omega
  | o :: l, k, listed, A, hl, hlen, hsz, hls, hB, hwf, h => by
    have h0 : ops[k]? = some o := by simpa using (hl 0).symm
    have hk : k < ops.size := by simp at hlen; omega
    simp only [lexL, Bool.and_eq_true] at hB
    obtain ⟨⟨hr, hf⟩, hB'⟩ := hB
    have hready : k ∈ Region.ready .any ops listed := by
      refine mem_ready.2 ⟨?_, o, h0, fun e he hb => ?_⟩
      · rw [Array.getD_eq_getD_getElem?, Array.getElem?_eq_getElem (by omega), hls k (by omega)]; simp
      · have := List.all_eq_true.1 hr e (by simpa using he)
        simp only [hb, Bool.not_true, Bool.false_or] at this
        have hlt : e.on < k := by
          have : e.on + 1 ≤ k := by simpa [Nat.blt, Nat.ble_eq] using this
          exact this
        rw [Array.getD_eq_getD_getElem?, Array.getElem?_eq_getElem (by omega), hls e.on (by omega)]; simp [hlt]
    refine aAny_first h0 l.length listed A hwf ?_ hready ?_
    · intro j oj hj hjk hun hno
      have hjs : j < ops.size := (Array.getElem?_eq_some_iff.1 hj).1
      have hge : k < j := by
        rw [Array.getD_eq_getD_getElem?, Array.getElem?_eq_getElem (by omega), hls j (by omega)] at hun
        simp at hun
        omega
      have hmem : oj ∈ l := by
        have := hl (j - k)
        rw [show k + (j - k) = j by omega, hj, show j - k = (j - k - 1) + 1 by omega, List.getElem?_cons_succ] at this
        exact List.mem_of_getElem? this
      have := List.all_eq_true.1 hf oj hmem
      rw [hno] at this
      simpa using this
    · refine gstep_mono h fun e he hK => ?_
      refine aAny_lex l (k + 1) _ _ (fun j => by have := hl (j + 1); simpa [Nat.add_assoc, Nat.add_comm 1 j] using this) (by simp at hlen; omega) (by simpa using hsz) (fun j hj => ?_) hB' (ge_wf hwf he) hK
      have hj' : j < listed.size := by simpa using hj
      rw [Array.getElem_setIfInBounds hj']
      by_cases e2 : k = j
      · subst e2; simp
      · rw [if_neg e2, hls j (by simpa using hj)]
        congr 1
        simp only [eq_iff_iff]
        omega

/-! ### In a frame -/
variable {w0 w : World} {O0 : Nat → Prop} {N : Nat} {A : AState} {ι : Nat → Value} {a : Act}

theorem isUndef_rep {O : Nat → Prop} {x : AV} {v : Value} (h : ARep w O ι x v) (hu : isUndef x = true) : v = .tuple #[] := by
  unfold isUndef at hu
  split at hu
  · rename_i vs
    have hv : v = .tuple vs := h
    have : vs = #[] := by simpa using hu
    rw [hv, this]
  · cases hu

theorem wanted_rep (R : Rel w0 O0 N A ι a w) {o : Oper} {b : Bool} (h : wantedA ops o A.env = some b) : Region.wanted o (yielded ops a.tmps) = b := by
  unfold wantedA at h
  unfold Region.wanted
  cases hg : o.guard with
  | none => rw [hg] at h; simp at h; simp [h]
  | some p =>
    obtain ⟨j, want⟩ := p
    rw [hg] at h
    simp only at h ⊢
    cases hd : (ops[j]?).bind (·.dst) with
    | none => rw [hd] at h; cases h
    | some dj =>
      rw [hd] at h
      simp only at h
      have hr := R.env dj
      have hy : yielded ops a.tmps j = match a.tmps[dj]? with | some (.bool b) => some b | _ => none := by
        unfold yielded
        rw [hd]; rfl
      rw [hy]
      have hget : a.tmps.getD dj undef = (a.tmps[dj]?).getD undef := by simp [Array.getD_eq_getD_getElem?]
      rw [hget] at hr
      split at h
      · rename_i b' hb'
        rw [hb'] at hr
        have hv : (a.tmps[dj]?).getD undef = .bool b' := hr
        cases hx : a.tmps[dj]? with
        | none => rw [hx] at hv; cases hv
        | some v =>
          rw [hx] at hv
          simp at hv
          subst hv
          have h := Option.some.inj h
          rw [← h]
          cases b' <;> cases want <;> rfl
      · cases hu : isUndef (A.env dj) with
        | true =>
          rw [hu] at h
          simp at h
          subst h
          have hv := isUndef_rep hr hu
          cases hx : a.tmps[dj]? with
          | none => rfl
          | some v =>
            rw [hx] at hv
            simp at hv
            subst hv
            rfl
        | false => rw [hu] at h; cases h

/-- What follows an operation. -/
def After (w0 : World) (O0 : Nat → Prop) (N : Nat) (w : World) (O : Nat → Prop) (a : Act) (D : List Nat) (A' : AState) (a' : Act) (w' : World) : Prop :=
  ∃ ι', Rel w0 O0 N A' ι' a' w' ∧ Keeps w O w' (Own O0 A'.heap ι') ∧ w.heap.size ≤ w'.heap.size ∧ ∀ s, s ∉ D → a'.tmps.getD s undef = a.tmps.getD s undef

theorem put_getD {a : Act} {dst : Option Nat} {v : Value} {s : Nat} (h : s ∉ dst.toList) : (a.put dst v).tmps.getD s undef = a.tmps.getD s undef := by
  cases dst with
  | none => rfl
  | some d => exact put_getD_ne fun e => h (by simp [e])

theorem Acts.congr {dst : Option Nat} {s s' : Sem Next} {k : WRes → Prop} (h : Acts P w0 w O0 N A ι a dst s k) (e : s'.run P w = s.run P w) : Acts P w0 w O0 N A ι a dst s' k := by
  obtain ⟨r, h1, ι', v, w', h2, h3⟩ := h
  exact ⟨r, h1, ι', v, w', by rw [e]; exact h2, h3⟩

theorem w_sound (tok : Tok P T) (R : Rel w0 O0 N A ι a w) {o : Oper} (hd : ∀ d, o.dst = some d → d < N) {k : WRes → Prop} (hk : wstep T o.op (dstN o) A.ev A.heap k) : Acts P w0 w O0 N A ι a o.dst (execOp a.eval o) k := by
  obtain ⟨dst, op, type, pos, after, guard⟩ := o
  simp only at hd hk
  generalize dstN _ = d at hk
  cases op <;> simp only [wstep] at hk <;> try (exact hk.elim)
  case alloc t =>
    split at hk
    · rename_i i hf hi
      exact w_alloc tok R hd hf hi hk
    · exact hk.elim
  case box t x =>
    split at hk
    · rename_i v hf hv
      have hx := R.ev x
      rw [hv] at hx
      cases hs : v.solid with
      | false => rw [hs] at hk; exact hk.elim
      | true =>
        rw [hs] at hk
        exact w_box R hd hf hs hx hk
    · exact hk.elim
  case makeSlice t l c => exact w_make tok R hd (R.ev l) (R.ev c) hk
  case store t x y =>
    split at hk
    · rename_i i hi
      exact w_store tok R hd (R.ev x) (R.ev y) hi hk
    · exact hk.elim
  case slice t x lo hi mx =>
    refine w_cut tok R hd (R.ev x) (vlo := lo.map a.eval) (vhi := hi.map a.eval) (vmx := mx.map a.eval) ?_ ?_ ?_ hk
    · intro hy; cases lo <;> simp_all
    · intro y hy
      cases hi with
      | none => cases hy
      | some z => simp at hy; subst hy; exact ⟨_, rfl, R.ev z⟩
    · intro hy; cases mx <;> simp_all
  case call c =>
    obtain ⟨callee, args, ats⟩ := c
    simp only at hk
    split at hk
    · rename_i s x ts tx h2 h3
      have ha : args = #[s, x] := by simpa using congrArg List.toArray h2
      have ht : ats = #[ts, tx] := by simpa using congrArg List.toArray h3
      subst ha ht
      have := w_append tok R hd (ty := type) (cs := #[s, x].map fun | .const _ => true | _ => false) (R.ev s) (R.ev x) hk
      refine this.congr ?_
      simp [execOp, resolve, invoke]
      rfl
    · rename_i s x ts tx h2 h3
      have ha : args = #[s, x] := by simpa using congrArg List.toArray h2
      have ht : ats = #[ts, tx] := by simpa using congrArg List.toArray h3
      subst ha ht
      have := w_copy tok R hd (ty := type) (cs := #[s, x].map fun | .const _ => true | _ => false) (R.ev s) (R.ev x) hk
      refine this.congr ?_
      simp [execOp, resolve, invoke]
      rfl
    · exact hk.elim

theorem ge_sound (tok : Tok P T) (R : Rel w0 O0 N A ι a w) {o : Oper} (hd : ∀ d, o.dst = some d → d < N) {e : Eff} (h : GE T H ops o A e) {K : Act → World → Prop} {Q : Exit → Act → World → Prop}
    (hK : ∀ a' w', After w0 O0 N w (Own O0 A.heap ι) a o.dst.toList (e.app A o.dst) a' w' → K a' w') :
    if Region.wanted o (yielded ops a.tmps) then o.wp P a w K Q else K (a.put o.dst undef) w := by
  have unwanted : wantedA ops o A.env = some false → e = .set aundef → if Region.wanted o (yielded ops a.tmps) then o.wp P a w K Q else K (a.put o.dst undef) w := by
    intro hw he
    rw [wanted_rep R hw]
    subst he
    refine hK _ _ ⟨ι, R.set hd (Below.refl _ _) rfl (by simp [AV.ids, aundef]), ?_, Nat.le_refl _, fun s hs => put_getD hs⟩
    rw [show ((Eff.set aundef).app A o.dst).heap = A.heap from put_heap]
    exact Keeps.refl _ _
  cases e with
  | set av =>
    rcases h with ⟨h1, h2⟩ | ⟨h1, h2, h3⟩
    · exact unwanted h1 (by rw [h2])
    · rw [wanted_rep R h1]
      simp only [if_true]
      obtain ⟨av', e1, e2, e3⟩ := q_sound tok R o (h3 (fun z => z = av) rfl)
      subst e1
      have fin : ∀ v w', ARep w' (Own O0 A.heap ι) ι av' v → Below w.heap.size w w' → K (a.put o.dst v) w' := by
        intro v w' hv hb
        refine hK _ _ ⟨ι, R.set hd hb hv e2, ?_, hb.size, fun s hs => put_getD hs⟩
        rw [show ((Eff.set av').app A o.dst).heap = A.heap from put_heap]
        exact Keeps.of_below hb
      unfold Oper.wp
      rcases e3 with ⟨v, w', hr, hv, hb⟩ | ⟨f, args, hr, hc⟩
      · rw [hr]
        exact fin v w' hv hb
      · rw [hr]
        refine hc.mono ?_
        rintro e w' ⟨v, rfl, hv, hb⟩
        exact fin v w' hv hb
  | obj r =>
    obtain ⟨h1, h2, h3⟩ := h
    rw [wanted_rep R h1]
    simp only [if_true]
    obtain ⟨r', e1, ι', v, w', hr, R', K', hsz⟩ := w_sound tok R hd (h3 (fun z => z = r) rfl)
    subst e1
    have fin : K (a.put o.dst v) w' := by
      refine hK _ _ ⟨ι', R', ?_, hsz, fun s hs => put_getD hs⟩
      rw [show ((Eff.obj r').app A o.dst).heap = r'.heap from act_heap]; exact K'
    unfold Oper.wp
    rcases hr with hr | ⟨hr, rfl⟩
    · rw [hr]; exact fin
    · rw [hr]; exact fin

end
end Fw
