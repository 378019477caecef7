/- The operations that make or change objects are sound. -/
import Derived.Test.YtfhlgbgclkahnaaFwJ
set_option linter.unusedVariables false
set_option linter.unusedSimpArgs false
namespace Fw
open Go Go.RowKit

section
variable {P : Program} {T : Ctx} {w0 w : World} {O0 : Nat → Prop} {N : Nat} {A : AState} {ι : Nat → Value} {a : Act}

theorem D.one_rep {O : Nat → Prop} {d : D} {v : Value} (h : VRep w O d v) (h1 : d.one = true) : v.oneCell' = true := by
  cases d with
  | int k n => have h' : v = _ := h; subst h'; rfl
  | bool b => have h' : v = _ := h; subst h'; rfl
  | str s => have h' : v = _ := h; subst h'; rfl
  | slc f t xs => obtain ⟨⟨_, _, rfl, _⟩, _⟩ := h; rfl
  | agg cs => simp [D.one] at h1
  | iface t d => obtain ⟨_, rfl, _⟩ := h; rfl
  | rptr cs => obtain ⟨_, rfl, _⟩ := h; rfl
  | clo f cs => obtain ⟨_, rfl, _⟩ := h; rfl
  | val u => have h' : v = u := h; subst h'; cases v <;> first | rfl | simp [D.one] at h1
  | top => simp [D.one] at h1
theorem ones_rep {O : Nat → Prop} : ∀ {ds : List D} {vs : List Value}, LRep w O ds vs → ds.all D.one = true → ∀ u ∈ vs, u.oneCell' = true
  | [], _, h, _, u, hu => by have h' : _ = [] := h; subst h'; simp at hu
  | d :: ds, _, ⟨v, vs, h1, h2, h3⟩, ha, u, hu => by
    subst h1
    simp only [List.all_cons, Bool.and_eq_true] at ha
    rcases List.mem_cons.1 hu with rfl | hu
    · exact D.one_rep h2 ha.1
    · exact ones_rep h3 ha.2 u hu
theorem cells_one : ∀ (t : Ty) (x : t.El), (t.cells x).all D.one = true
  | .int _, _ => rfl
  | .bool, _ => rfl
  | .str, _ => rfl
  | .slc _, _ => rfl
  | .pair a b, x => by simp [Ty.cells, List.all_append]; exact ⟨by simpa using cells_one a x.1, by simpa using cells_one b x.2⟩
  | .unit, _ => rfl
theorem RowRep.one {O : Nat → Prop} {t : Ty} {xs : List t.El} {vs : List Value} (h : RowRep w O t xs vs) (hp : 0 < t.size) : ∀ u ∈ vs, u.oneCell' = true := by
  intro u hu
  obtain ⟨i, hi, rfl⟩ := List.mem_iff_getElem.1 hu
  have hq : i / t.size < xs.length := by rw [Nat.div_lt_iff_lt_mul hp, ← h.1]; exact hi
  obtain ⟨us, k1, k2⟩ := ERep.cells t _ _ _ (h.2 _ hq)
  have hm : i % t.size < us.length := by rw [k1.length, cells_length]; exact Nat.mod_lt _ hp
  have := k2 (i % t.size) us[i % t.size] (List.getElem?_eq_getElem hm)
  unfold Fw.lat at this
  rw [Nat.mul_comm, Nat.div_add_mod, List.getElem?_eq_getElem hi] at this
  injection this with this
  rw [this]
  exact ones_rep k1 (cells_one t _) _ (List.getElem_mem hm)
theorem RowRep.keeps {w' : World} {O O' : Nat → Prop} (k : Keeps w O w' O') {t : Ty} {xs : List t.El} {vs : List Value} (h : RowRep w O t xs vs) : RowRep w' O' t xs vs :=
  ⟨h.1, fun j hj => ERep.imp k t _ _ _ _ _ (fun _ _ _ h => h) (h.2 j hj)⟩

/-! ### A new object -/
theorem Rel.fresh (R : Rel w0 O0 N A ι a w) {dst : Option Nat} (hd : ∀ d, dst = some d → d < N) {d : Nat} (hfree : A.heap d = none) {o : Obj} {hv v : Value} {val : AV} {w' : World}
    (hb : Below w.heap.size w w') (hobj : ∀ O', Keeps w (Own O0 A.heap ι) w' O' → ObjRep w' O' w.heap.size o hv)
    (hval : ∀ O', ARep w' O' (upd ι d hv) val v) (hids : ∀ id ∈ val.ids, id = d) :
    let r : WRes := ⟨none, upd A.heap d (some o), val⟩
    ∃ ι', Rel w0 O0 N (r.act A dst) ι' (a.put dst v) w' ∧ Keeps w (Own O0 A.heap ι) w' (Own O0 r.heap ι') := by
  intro r
  have hh : ∀ id, r.heap id = if id = d then some o else A.heap id := by
    intro id
    show upd A.heap d (some o) id = _
    unfold upd
    by_cases e : id = d
    · subst e; simp
    · have : Nat.beq id d = false := by cases h : Nat.beq id d with
        | true => exact absurd (Nat.eq_of_beq_eq_true h) e
        | false => rfl
      simp [this, e]
  have hι : ∀ id, upd ι d hv id = if id = d then hv else ι id := by
    intro id
    unfold upd
    by_cases e : id = d
    · subst e; simp
    · have : Nat.beq id d = false := by cases h : Nat.beq id d with
        | true => exact absurd (Nat.eq_of_beq_eq_true h) e
        | false => rfl
      simp [this, e]
  have hnew : ∀ b, hblk hv = some b → w.heap.size ≤ b := fun b hb' => (obj_blk (hobj (fun b => Own O0 A.heap ι b ∨ w.heap.size ≤ b) ⟨fun b h _ => hb.block b h, fun b h hn hn' => hn'.elim hn (fun h' => by omega)⟩) hb').1
  have hk : Keeps w (Own O0 A.heap ι) w' (Own O0 r.heap (upd ι d hv)) := by
    refine ⟨fun b h _ => hb.block b h, fun b h hn => ?_⟩
    rintro (h0 | ⟨id, hid, hbk⟩)
    · exact hn (.inl h0)
    · rw [hh] at hid
      rw [hι] at hbk
      by_cases e : id = d
      · rw [if_pos e] at hbk; have := hnew b hbk; omega
      · rw [if_neg e] at hid hbk; exact hn (.inr ⟨id, hid, hbk⟩)
  have hal : ∀ id, A.heap id ≠ none → id ≠ d := fun id h e => h (by rw [e]; exact hfree)
  refine ⟨upd ι d hv, R.move hd (R.below.trans (hb.mono R.below.size)) ?_ ?_ hk ?_ ?_, hk⟩
  · intro id o' ho'
    rw [hh] at ho'
    rw [hι]
    by_cases e : id = d
    · rw [if_pos e] at ho' ⊢
      injection ho' with ho'
      subst ho'
      have := hobj _ hk
      cases o with
      | row e t xs =>
        obtain ⟨vs, h1, h2⟩ := this
        refine ⟨vs, ⟨h1.1, ?_⟩, h2⟩
        rcases h1.2 with h3 | ⟨g, cap, cur, h3, h4, h5⟩
        · exact .inl h3
        · exact .inr ⟨g, cap, cur, h3, Nat.le_trans R.below.size h4, h5⟩
      | box cs =>
        obtain ⟨g, vs, e, h1, h2, h3⟩ := this
        exact ⟨g, vs, e, h1, Nat.le_trans R.below.size h2, h3⟩
    · rw [if_neg e] at ho' ⊢
      exact objRep_keeps hk (fun b hb' => hb.block b (obj_blk (R.obj id o' ho') hb').2) (R.obj id o' ho')
  · intro id id' h1 h2 hne
    rw [hh] at h1 h2
    rw [hι, hι]
    have old : ∀ i, A.heap i ≠ none → ∀ b, hblk (ι i) = some b → b < w.heap.size := fun i hi b hbk => R.lt b (.inr ⟨i, hi, hbk⟩)
    by_cases e : id = d
    · by_cases e' : id' = d
      · exact absurd (e.trans e'.symm) hne
      · rw [if_pos e, if_neg e']
        rw [if_neg e'] at h2
        cases hx : hblk hv with
        | none => exact .inl rfl
        | some b => exact .inr fun he => by have := hnew b hx; have := old id' h2 b he.symm; omega
    · by_cases e' : id' = d
      · rw [if_neg e, if_pos e']
        rw [if_neg e] at h1
        cases hx : hblk (ι id) with
        | none => exact .inl rfl
        | some b => exact .inr fun he => by have := hnew b he.symm; have := old id h1 b hx; omega
      · rw [if_neg e, if_neg e']
        rw [if_neg e] at h1
        rw [if_neg e'] at h2
        exact R.dist id id' h1 h2 hne
  · intro id hid _
    have := hal id hid
    refine ⟨by rw [hι, if_neg this], by rw [hh, if_neg this]; exact hid⟩
  · intro _
    exact ⟨hval _, fun id hid => by rw [hids id hid, hh, if_pos rfl]; simp⟩

/-! ### An object that is changed in its place -/
theorem Rel.change (R : Rel w0 O0 N A ι a w) {dst : Option Nat} (hd : ∀ d, dst = some d → d < N) {id : Nat} {o o' : Obj} (hid : A.heap id = some o) {v : Value} {d : D} {w' : World} {b : Nat}
    (hb : ∀ b', hblk (ι id) = some b' → b' = b) (hbb : hblk (ι id) = none → w' = w) (hsame : ∀ k, k ≠ b → w'.heap[k]? = w.heap[k]?) (hsz : w.heap.size ≤ w'.heap.size) (hos : w'.os = w.os) (htp : w'.tape = w.tape) (hout : w'.output = w.output)
    (hobj : ∀ O', Keeps w (Own O0 A.heap ι) w' O' → ObjRep w' O' w0.heap.size o' (ι id)) (hval : ∀ O', VRep w' O' d v) :
    let r : WRes := ⟨none, upd A.heap id (some o'), .d d⟩
    Rel w0 O0 N (r.act A dst) ι (a.put dst v) w' ∧ Keeps w (Own O0 A.heap ι) w' (Own O0 r.heap ι) := by
  intro r
  have hh : ∀ i, r.heap i = if i = id then some o' else A.heap i := by
    intro i
    show upd A.heap id (some o') i = _
    unfold upd
    by_cases e : i = id
    · subst e; simp
    · have : Nat.beq i id = false := by cases h : Nat.beq i id with
        | true => exact absurd (Nat.eq_of_beq_eq_true h) e
        | false => rfl
      simp [this, e]
  have hne : A.heap id ≠ none := by rw [hid]; simp
  have hown : ∀ b, Own O0 r.heap ι b ↔ Own O0 A.heap ι b := by
    intro b'
    constructor
    · rintro (h | ⟨i, hi, hbk⟩)
      · exact .inl h
      · rw [hh] at hi
        by_cases e : i = id
        · subst e; exact .inr ⟨i, hne, hbk⟩
        · rw [if_neg e] at hi; exact .inr ⟨i, hi, hbk⟩
    · rintro (h | ⟨i, hi, hbk⟩)
      · exact .inl h
      · refine .inr ⟨i, ?_, hbk⟩
        rw [hh]; split
        · simp
        · exact hi
  -- either the world is the same or the block is the object's
  have hw : w' = w ∨ hblk (ι id) = some b := by
    cases hx : hblk (ι id) with
    | none => exact .inl (hbb hx)
    | some b' => right; rw [hb b' hx]
  have hk : Keeps w (Own O0 A.heap ι) w' (Own O0 r.heap ι) := by
    refine ⟨fun k h hn => ?_, fun k h hn hn' => hn ((hown k).1 hn')⟩
    rcases hw with rfl | hw
    · rfl
    · exact hsame k fun e => hn (.inr ⟨id, hne, by rw [e]; exact hw⟩)
  have hbel : Below w0.heap.size w0 w' := by
    refine R.below.trans ⟨hos, htp, hout, hsz, fun k hk' => ?_⟩
    rcases hw with rfl | hw
    · rfl
    · have := (obj_blk (R.obj id o hid) hw).1
      exact hsame k (by omega)
  refine ⟨R.move hd hbel ?_ ?_ hk ?_ ?_, hk⟩
  · intro i o2 ho2
    rw [hh] at ho2
    by_cases e : i = id
    · rw [if_pos e] at ho2
      injection ho2 with ho2
      subst ho2 e
      exact hobj _ hk
    · rw [if_neg e] at ho2
      refine objRep_keeps hk (fun b' hb' => ?_) (R.obj i o2 ho2)
      rcases hw with rfl | hw
      · rfl
      · refine hsame b' fun e2 => ?_
        subst e2
        rcases R.dist i id (by rw [ho2]; simp) hne e with h | h
        · rw [hb'] at h; cases h
        · exact h (hb'.trans hw.symm)
  · intro i j h1 h2 hij
    have fix : ∀ i, r.heap i ≠ none → A.heap i ≠ none := by
      intro i hi
      rw [hh] at hi
      by_cases e : i = id
      · rw [e]; exact hne
      · rw [if_neg e] at hi; exact hi
    exact R.dist i j (fix i h1) (fix j h2) hij
  · intro i hi _
    refine ⟨rfl, ?_⟩
    rw [hh]; split
    · simp
    · exact hi
  · intro _
    exact ⟨hval _, fun id hid => by simp [AV.ids] at hid⟩

end
end Fw
