/- Quiet operations in a frame; how a frame moves on when an object is made or changed. -/
import Derived.Test.YtfhlgbgclkahnaaFwI
set_option linter.unusedVariables false
set_option linter.unusedSimpArgs false
namespace Fw
open Go Go.RowKit

section
variable {P : Program} {T : Ctx} {w0 w : World} {O0 : Nat → Prop} {N : Nat} {A : AState} {ι : Nat → Value} {a : Act}

theorem obj_blk {w : World} {O : Nat → Prop} {base : Nat} {o : Obj} {v : Value} {b : Nat} (h : ObjRep w O base o v) (hb : hblk v = some b) : base ≤ b ∧ b < w.heap.size := by
  cases o with
  | row e t xs =>
    obtain ⟨vs, h1, _⟩ := h
    rcases h1.2 with ⟨rfl, _⟩ | ⟨g, cap, cur, rfl, hg, hh, _⟩
    · simp [hblk] at hb
    · have : g = b := by simpa [hblk] using hb
      subst this
      exact ⟨hg, (Array.getElem?_eq_some_iff.1 hh).1⟩
  | box cs =>
    obtain ⟨g, vs, e, rfl, hg, hh, _⟩ := h
    have : g = b := by simpa [hblk] using hb
    subst this
    exact ⟨hg, (Array.getElem?_eq_some_iff.1 hh).1⟩

theorem Rel.lt (R : Rel w0 O0 N A ι a w) : ∀ b, Own O0 A.heap ι b → b < w.heap.size := by
  rintro b (hb | ⟨id, hid, hb⟩)
  · exact Nat.lt_of_lt_of_le (R.o0 b hb) R.below.size
  · cases ho : A.heap id with
    | none => exact absurd ho hid
    | some o => exact (obj_blk (R.obj id o ho) hb).2

theorem Rel.ev (R : Rel w0 O0 N A ι a w) (x : Operand) : ARep w (Own O0 A.heap ι) ι (A.ev x) (a.eval x) := by
  cases x with
  | tmp t => exact R.env t
  | const v => exact constD_rep w _ v
  | global g => exact rfl
  | func f => exact ⟨#[], rfl, rfl⟩
theorem Rel.alive (R : Rel w0 O0 N A ι a w) (x : Operand) : ∀ id ∈ (A.ev x).ids, A.heap id ≠ none := by
  cases x with
  | tmp t => exact R.wf t
  | const v => intro id h; simp [AState.ev, AV.ids] at h
  | global g => intro id h; simp [AState.ev, AV.ids] at h
  | func f => intro id h; simp [AState.ev, AV.ids] at h

theorem q_sound (tok : Tok P T) (R : Rel w0 O0 N A ι a w) (o : Oper) {k : AV → Prop} (hk : qstep T o.op A.ev A.heap k) :
    Answers P w (Own O0 A.heap ι) A.heap ι (execOp a.eval o) k := by
  obtain ⟨dst, op, type, pos, after, guard⟩ := o
  cases op <;> simp only [qstep] at hk
  case move x => exact ⟨_, hk, R.alive x, .inl ⟨_, w, by simp [execOp], R.ev x, Below.refl _ _⟩⟩
  case assign x => exact ⟨_, hk, R.alive x, .inl ⟨_, w, by simp [execOp], R.ev x, Below.refl _ _⟩⟩
  case pick c x y =>
    have := (q_pick (P := P) (R.ev c) (R.ev x) (R.ev y) (R.alive x) (R.alive y) hk).answers
    obtain ⟨av, h1, h2, h3⟩ := this
    refine ⟨av, h1, h2, h3.imp (fun ⟨v, w', h4, h5⟩ => ⟨v, w', ?_, h5⟩) (fun ⟨f, args, h4, h5⟩ => ⟨f, args, ?_, h5⟩)⟩ <;> simpa [execOp] using h4
  case load t x => exact (q_load tok.tt R.obj (R.ev x) hk).answers
  case nilCheck x =>
    unfold qnil at hk
    split at hk
    · rename_i hn
      rcases nil_false (R.ev x) hn with ⟨p, hv⟩ | ⟨f, vs, hv⟩ | ⟨t, u, hv⟩
      · exact ⟨_, hk, R.alive x, .inl ⟨a.eval x, w, by simp [execOp, hv], R.ev x, Below.refl _ _⟩⟩
      · exact ⟨_, hk, R.alive x, .inl ⟨a.eval x, w, by simp [execOp, hv], R.ev x, Below.refl _ _⟩⟩
      · exact ⟨_, hk, R.alive x, .inl ⟨a.eval x, w, by simp [execOp, hv], R.ev x, Below.refl _ _⟩⟩
    · exact hk.elim
  case binOp op t x y yt => exact (q_bin tok.tt (xo := x) (yo := y) (R.ev x) (R.ev y) hk).answers
  case unOp op t x => exact (q_un (R.ev x) hk).answers
  case convert s t x => exact (q_conv tok.tt (R.ev x) hk).answers
  case makeInterface t x =>
    split at hk
    · rename_i v i hx hi
      have hr := R.ev x
      rw [hx] at hr
      split at hk
      · exact hk.elim
      · rename_i hd
        exact (q_makeInterface tok.tt hi (fun _ h => hd h) hr hk).answers
    · exact hk.elim
  case makeFunc fn first caps => exact (q_makeFunc R.ev R.alive hk).answers
  case build t parts => exact (q_build tok.tt R.ev hk).answers
  case buildSlice t len parts => exact (q_buildSlice tok.tt R.ev R.lt hk).answers
  case slice t x lo hi mx =>
    refine (q_slice tok.tt (R.ev x) (vlo := lo.map a.eval) (vhi := hi.map a.eval) (vmx := mx.map a.eval) ?_ ?_ ?_ ?_ ?_ ?_ hk).answers
    · intro y hy
      cases lo with
      | none => cases hy
      | some z => simp at hy; subst hy; exact ⟨_, rfl, R.ev z⟩
    · intro hy; cases lo <;> simp_all
    · intro y hy
      cases hi with
      | none => cases hy
      | some z => simp at hy; subst hy; exact ⟨_, rfl, R.ev z⟩
    · intro hy; cases hi <;> simp_all
    · intro y hy
      cases mx with
      | none => cases hy
      | some z => simp at hy; subst hy; exact ⟨_, rfl, R.ev z⟩
    · intro hy; cases mx <;> simp_all
  case fieldAddr s x f => exact (q_fieldAddr tok.tt (R.ev x) (R.alive x) hk).answers
  case field t x f => exact (q_field tok.tt (R.ev x) hk).answers
  case indexAddr t x ix => exact (q_indexAddr tok.tt R.obj (R.ev x) (R.ev ix) (fun id off e => R.alive x id (by rw [e]; simp [AV.ids])) hk).answers
  case index t x ix => exact (q_index tok.tt (R.ev x) (R.ev ix) hk).answers
  case extract t ix =>
    split at hk
    · rename_i l hl
      split at hk
      · rename_i d hd
        have hr := R.ev t
        rw [hl] at hr
        exact (q_extract hr hd hk).answers
      · exact hk.elim
    · exact hk.elim
  case call c => exact q_call tok R.obj R.lt R.ev (fun f => rfl) hk

/-! ### A frame moves on -/
theorem objRep_keeps {w w' : World} {O O' : Nat → Prop} {base : Nat} (k : Keeps w O w' O') {o : Obj} {v : Value} (hb : ∀ b, hblk v = some b → w'.heap[b]? = w.heap[b]?) (h : ObjRep w O base o v) : ObjRep w' O' base o v := by
  cases o with
  | row e t xs =>
    obtain ⟨vs, h1, h2⟩ := h
    refine ⟨vs, ⟨h1.1, ?_⟩, fun j hj => ERep.imp k t _ _ _ _ _ (fun _ _ _ h => h) (h2 j hj)⟩
    rcases h1.2 with ⟨rfl, h0⟩ | ⟨g, cap, cur, rfl, hg, hh, r⟩
    · exact .inl ⟨rfl, h0⟩
    · exact .inr ⟨g, cap, cur, rfl, hg, by rw [hb g rfl]; exact hh, r⟩
  | box cs =>
    obtain ⟨g, vs, e, rfl, hg, hh, hl⟩ := h
    exact ⟨g, vs, e, rfl, hg, by rw [hb g rfl]; exact hh, LRep.keeps k cs _ hl⟩

theorem put_getD_same {a : Act} {d : Nat} {v : Value} (h : d < a.tmps.size) : (a.put (some d) v).tmps.getD d undef = v := by
  simp [Act.put, Array.getD, h]
theorem put_getD_ne {a : Act} {d t : Nat} {v : Value} (h : d ≠ t) : (a.put (some d) v).tmps.getD t undef = a.tmps.getD t undef := by
  simp only [Act.put, Array.getD_eq_getD_getElem?]
  rw [Array.getElem?_setIfInBounds_ne h]

/-- All that is to be shown when an operation has changed the heap. -/
theorem Rel.move (R : Rel w0 O0 N A ι a w) {dst : Option Nat} (hd : ∀ d, dst = some d → d < N) {r : WRes} {ι' : Nat → Value} {v : Value} {w' : World}
    (hbel : Below w0.heap.size w0 w') (hobj : ∀ id o, r.heap id = some o → ObjRep w' (Own O0 r.heap ι') w0.heap.size o (ι' id))
    (hdist : ∀ id id', r.heap id ≠ none → r.heap id' ≠ none → id ≠ id' → hblk (ι' id) = none ∨ hblk (ι' id) ≠ hblk (ι' id'))
    (hk : Keeps w (Own O0 A.heap ι) w' (Own O0 r.heap ι')) (hsame : ∀ id, A.heap id ≠ none → r.kill ≠ some id → ι' id = ι id ∧ r.heap id ≠ none)
    (hv : dst ≠ none → ARep w' (Own O0 r.heap ι') ι' r.val v ∧ ∀ id ∈ r.val.ids, r.heap id ≠ none) :
    Rel w0 O0 N (r.act A dst) ι' (a.put dst v) w' := by
  have henv : ∀ t, ARep w' (Own O0 r.heap ι') ι' (scrub r.kill A.env t) (a.tmps.getD t undef) ∧ ∀ id ∈ (scrub r.kill A.env t).ids, r.heap id ≠ none := by
    intro t
    have h1 := R.env t
    have h2 := R.wf t
    have plain : (∀ id ∈ (A.env t).ids, r.kill ≠ some id) → ARep w' (Own O0 r.heap ι') ι' (A.env t) (a.tmps.getD t undef) ∧ ∀ id ∈ (A.env t).ids, r.heap id ≠ none := by
      intro h3
      exact ⟨ARep.iota _ _ (fun id hid => (hsame id (h2 id hid) (h3 id hid)).1) (ARep.keeps hk _ _ h1), fun id hid => (hsame id (h2 id hid) (h3 id hid)).2⟩
    cases hkill : r.kill with
    | none =>
      simp only [scrub]
      exact plain (by rw [hkill]; simp)
    | some id0 =>
      simp only [scrub]
      rw [hkill] at plain
      have topc : ARep w' (Own O0 r.heap ι') ι' (.d .top) (a.tmps.getD t undef) ∧ ∀ id ∈ (AV.d D.top).ids, r.heap id ≠ none := ⟨trivial, by simp [AV.ids]⟩
      cases hx : A.env t with
      | d x => rw [hx] at plain; exact plain (by simp [AV.ids])
      | tup l => rw [hx] at plain; exact plain (by simp [AV.ids])
      | clo f c => exact topc
      | own i =>
        rw [hx] at plain
        simp only [scrub1]
        cases hb : Nat.beq i id0 with
        | true => exact topc
        | false =>
          have : id0 ≠ i := fun e => by subst e; simp at hb
          exact plain (by simp [AV.ids, this])
      | ptr i o =>
        rw [hx] at plain
        simp only [scrub1]
        cases hb : Nat.beq i id0 with
        | true => exact topc
        | false =>
          have : id0 ≠ i := fun e => by subst e; simp at hb
          exact plain (by simp [AV.ids, this])
      | eptr i s ix o =>
        rw [hx] at plain
        simp only [scrub1]
        cases hb : Nat.beq i id0 with
        | true => exact topc
        | false =>
          have : id0 ≠ i := fun e => by subst e; simp at hb
          exact plain (by simp [AV.ids, this])
  cases dst with
  | none =>
    exact ⟨hbel, R.o0, fun t => (henv t).1, hobj, hdist, fun t => (henv t).2, R.size, R.defers⟩
  | some d =>
    have hdN := hd d rfl
    obtain ⟨hv1, hv2⟩ := hv (by simp)
    refine ⟨hbel, R.o0, fun t => ?_, hobj, hdist, fun t => ?_, by simp [Act.put, R.size], by simp [Act.put, R.defers]⟩
    · show ARep w' _ ι' (upd (scrub r.kill A.env) d r.val t) _
      unfold upd
      cases hb : Nat.beq t d with
      | true =>
        have := Nat.eq_of_beq_eq_true hb
        subst this
        rw [put_getD_same (by rw [R.size]; exact hdN)]
        exact hv1
      | false =>
        have hne : d ≠ t := fun e => by subst e; simp at hb
        rw [put_getD_ne hne]
        exact (henv t).1
    · show ∀ id ∈ (upd (scrub r.kill A.env) d r.val t).ids, _
      unfold upd
      cases hb : Nat.beq t d with
      | true => exact hv2
      | false => exact (henv t).2

/-- A value in a slot; memory has grown at most. -/
theorem Rel.set (R : Rel w0 O0 N A ι a w) {dst : Option Nat} (hd : ∀ d, dst = some d → d < N) {av : AV} {v : Value} {w' : World} (hb : Below w.heap.size w w')
    (ha : ARep w' (Own O0 A.heap ι) ι av v) (hi : ∀ id ∈ av.ids, A.heap id ≠ none) : Rel w0 O0 N (A.put dst av) ι (a.put dst v) w' := by
  have hk : Keeps w (Own O0 A.heap ι) w' (Own O0 A.heap ι) := Keeps.of_below hb
  have := R.move (r := ⟨none, A.heap, av⟩) (ι' := ι) (v := v) (w' := w') hd (R.below.trans (hb.mono R.below.size))
    (fun id o ho => objRep_keeps hk (fun b hb' => hb.block b (obj_blk (R.obj id o ho) hb').2) (R.obj id o ho)) R.dist hk (fun id h _ => ⟨rfl, h⟩) (fun _ => ⟨ha, hi⟩)
  cases dst <;> exact this

end
end Fw
