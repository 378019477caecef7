/- The operations that make or change objects are sound: all of them. -/
import Derived.Test.YtfhlgbgclkahnaaFwK
set_option linter.unusedVariables false
set_option linter.unusedSimpArgs false
namespace Fw
open Go Go.RowKit

section
variable {P : Program} {T : Ctx} {w0 w : World} {O0 : Nat → Prop} {N : Nat} {A : AState} {ι : Nat → Value} {a : Act}

theorem upd_eq {α : Type} (f : Nat → α) (d : Nat) (v : α) (i : Nat) : upd f d v i = if i = d then v else f i := by
  unfold upd
  by_cases e : i = d
  · subst e; simp
  · have : Nat.beq i d = false := by cases h : Nat.beq i d with
      | true => exact absurd (Nat.eq_of_beq_eq_true h) e
      | false => rfl
    simp [this, e]

/-- An object goes, another one comes in its place. -/
theorem Rel.consume (R : Rel w0 O0 N A ι a w) {dst : Option Nat} (hd : ∀ d, dst = some d → d < N) {id d : Nat} {o o' : Obj} (hid : A.heap id = some o) (hok : okId A.heap id d = true) {hv v : Value} {val : AV} {w' : World}
    (hsame : ∀ k, k < w.heap.size → hblk (ι id) ≠ some k → w'.heap[k]? = w.heap[k]?) (hsz : w.heap.size ≤ w'.heap.size) (hos : w'.os = w.os) (htp : w'.tape = w.tape) (hout : w'.output = w.output)
    (hobj : ∀ O', Keeps w (Own O0 A.heap ι) w' O' → ObjRep w' O' w0.heap.size o' hv) (hnew : ∀ b, hblk hv = some b → hblk (ι id) = some b ∨ w.heap.size ≤ b)
    (hval : ∀ O', ARep w' O' (upd ι d hv) val v) (hids : ∀ i ∈ val.ids, i = d) :
    let r : WRes := ⟨some id, upd (upd A.heap id none) d (some o'), val⟩
    ∃ ι', Rel w0 O0 N (r.act A dst) ι' (a.put dst v) w' ∧ Keeps w (Own O0 A.heap ι) w' (Own O0 r.heap ι') := by
  intro r
  have hne : A.heap id ≠ none := by rw [hid]; simp
  have hh : ∀ i, r.heap i = if i = d then some o' else if i = id then none else A.heap i := by
    intro i
    show upd (upd A.heap id none) d (some o') i = _
    rw [upd_eq, upd_eq]
  have hfree : d = id ∨ A.heap d = none := by
    unfold okId at hok
    cases hb : Nat.beq d id with
    | true => exact .inl (Nat.eq_of_beq_eq_true hb)
    | false =>
      rw [hb] at hok
      simp only [cond_false] at hok
      cases hx : A.heap d with
      | none => exact .inr rfl
      | some x => rw [hx] at hok; cases hok
  have hal : ∀ i, A.heap i ≠ none → i ≠ id → i ≠ d := fun i h h2 e => hfree.elim (fun h3 => h2 (e.trans h3)) (fun h3 => h (by rw [e]; exact h3))
  have old : ∀ i, A.heap i ≠ none → ∀ b, hblk (ι i) = some b → b < w.heap.size := fun i hi b hbk => R.lt b (.inr ⟨i, hi, hbk⟩)
  have hk : Keeps w (Own O0 A.heap ι) w' (Own O0 r.heap (upd ι d hv)) := by
    refine ⟨fun b h hn => hsame b h fun e => hn (.inr ⟨id, hne, e⟩), fun b h hn => ?_⟩
    rintro (h0 | ⟨i, hi, hbk⟩)
    · exact hn (.inl h0)
    · rw [hh] at hi
      rw [upd_eq] at hbk
      by_cases e : i = d
      · rw [if_pos e] at hbk
        rcases hnew b hbk with h1 | h1
        · exact hn (.inr ⟨id, hne, h1⟩)
        · omega
      · rw [if_neg e] at hi hbk
        by_cases e2 : i = id
        · rw [if_pos e2] at hi; exact hi rfl
        · rw [if_neg e2] at hi; exact hn (.inr ⟨i, hi, hbk⟩)
  have hbel : Below w0.heap.size w0 w' := by
    refine R.below.trans ⟨hos, htp, hout, hsz, fun k hk' => ?_⟩
    have hkw : k < w.heap.size := Nat.lt_of_lt_of_le hk' R.below.size
    refine hsame k hkw fun e => ?_
    have := (obj_blk (R.obj id o hid) e).1
    omega
  refine ⟨upd ι d hv, R.move hd hbel ?_ ?_ hk ?_ ?_, hk⟩
  · intro i o2 ho2
    rw [hh] at ho2
    rw [upd_eq]
    by_cases e : i = d
    · rw [if_pos e] at ho2 ⊢
      injection ho2 with ho2
      subst ho2
      exact hobj _ hk
    · rw [if_neg e] at ho2 ⊢
      by_cases e2 : i = id
      · rw [if_pos e2] at ho2; cases ho2
      · rw [if_neg e2] at ho2
        refine objRep_keeps hk (fun b' hb' => hsame b' (old i (by rw [ho2]; simp) b' hb') fun e3 => ?_) (R.obj i o2 ho2)
        rcases R.dist i id (by rw [ho2]; simp) hne e2 with h | h
        · rw [hb'] at h; cases h
        · exact h (hb'.trans e3.symm)
  · intro i j h1 h2 hij
    rw [hh] at h1 h2
    rw [upd_eq, upd_eq]
    have key : ∀ i, i ≠ d → (if i = d then some o' else if i = id then none else A.heap i) ≠ none → A.heap i ≠ none ∧ i ≠ id := by
      intro i h3 h4
      rw [if_neg h3] at h4
      by_cases e2 : i = id
      · rw [if_pos e2] at h4; exact absurd rfl h4
      · rw [if_neg e2] at h4; exact ⟨h4, e2⟩
    have cross : ∀ i, A.heap i ≠ none → i ≠ id → ∀ b, hblk hv = some b → hblk (ι i) ≠ some b := by
      intro i h3 h4 b hb he
      rcases hnew b hb with h5 | h5
      · rcases R.dist i id h3 hne h4 with h | h
        · rw [he] at h; cases h
        · exact h (he.trans h5.symm)
      · have := old i h3 b he; omega
    by_cases e : i = d
    · by_cases e' : j = d
      · exact absurd (e.trans e'.symm) hij
      · rw [if_pos e, if_neg e']
        obtain ⟨k1, k2⟩ := key j e' h2
        cases hx : hblk hv with
        | none => exact .inl rfl
        | some b => exact .inr fun he => cross j k1 k2 b hx he.symm
    · by_cases e' : j = d
      · rw [if_neg e, if_pos e']
        obtain ⟨k1, k2⟩ := key i e h1
        cases hx : hblk hv with
        | none =>
          cases hy : hblk (ι i) with
          | none => exact .inl rfl
          | some b => exact .inr (by simp)
        | some b => exact .inr fun he => cross i k1 k2 b hx he
      · rw [if_neg e, if_neg e']
        obtain ⟨k1, k2⟩ := key i e h1
        obtain ⟨k3, k4⟩ := key j e' h2
        exact R.dist i j k1 k3 hij
  · intro i hi hkill
    have h2 : i ≠ id := fun e => hkill (by rw [e])
    have h3 := hal i hi h2
    refine ⟨by rw [upd_eq, if_neg h3], by rw [hh, if_neg h3, if_neg h2]; exact hi⟩
  · intro _
    exact ⟨hval _, fun i hi => by rw [hids i hi, hh, if_pos rfl]; simp⟩

/-! ### The elements of a source -/
theorem isSliceT_spec (tt : ∀ t i, look T.tt t = some i → mkTI P t = some i) {t : Nat} (h : isSliceT T t = true) : ∃ e, P.underlying t = some (.slice e) := by
  unfold isSliceT at h
  split at h
  · rename_i i hi
    obtain ⟨inf, d, z, h1, h2, h3, h4, h5, h6, h7⟩ := mkTI_spec (tt _ _ hi)
    split at h
    · rename_i e hd
      rw [hd] at h6
      rw [tdOf_slice h6] at h2
      exact ⟨e, h2⟩
    · cases h
  · cases h

theorem elems_spec (R : Rel w0 O0 N A ι a w) {t : Ty} {x : AV} {v : Value} {k : List t.El → Prop} (hr : ARep w (Own O0 A.heap ι) ι x v) (hk : elems A.heap t x k) :
    ∃ ys us p c, k ys ∧ v = .slice p ys.length c ∧ RowRep w (Own O0 A.heap ι) t ys us ∧ (0 < ys.length → ∃ ad, p = some ad ∧ ∀ j u, us[j]? = some u → w.cell? (ad.add j) = some u) := by
  unfold elems at hk
  split at hk
  · rename_i f t' ys hv
    split at hk
    · rename_i zs hc
      obtain ⟨e, rfl⟩ := castL_spec hc
      subst e
      -- data, or a row of the call's own
      cases x with
      | d d =>
        simp only [viewD, Option.some.injEq] at hv
        subst hv
        obtain ⟨⟨p, c, rfl, hc, hcell⟩, _⟩ := hr
        by_cases h0 : 0 < ys.length
        · obtain ⟨ad, hp, hcell2⟩ := hcell h0
          -- gather the cells
          have : ∀ n, n ≤ ys.length → ∃ us, RowRep w (Own O0 A.heap ι) t' (ys.take n) us ∧ ∀ j u, us[j]? = some u → w.cell? (ad.add j) = some u := by
            intro n
            induction n with
            | zero => intro _; exact ⟨[], ⟨by simp, fun j hj => by simp at hj⟩, fun j u h => by simp at h⟩
            | succ n ih =>
              intro hn
              obtain ⟨us, h1, h2⟩ := ih (by omega)
              obtain ⟨ws, k1, k2⟩ := ERep.cells t' _ _ _ (hcell2 n (by omega))
              have hwl : ws.length = t'.size := by rw [k1.length, cells_length]
              refine ⟨us ++ ws, ?_, fun j u hj => ?_⟩
              · have e : ys.take (n + 1) = ys.take n ++ [ys[n]] := by rw [List.take_succ_eq_append_getElem (by omega)]
                rw [e]
                refine h1.append ⟨by simp [hwl], fun j hj => ?_⟩
                have hj0 : j = 0 := by simp at hj; omega
                subst hj0
                simp only [List.getElem_cons_zero, Nat.zero_mul]
                refine ERep.imp (Keeps.refl w _) t' _ _ _ _ _ (fun i u hi hu => ?_) (hcell2 n (by omega))
                unfold Fw.lat
                rw [Nat.zero_add]
                have h3 := k2 i ws[i] (List.getElem?_eq_getElem (by omega))
                rw [List.getElem?_eq_getElem (by omega)]
                have h4 := h3.2.symm.trans hu.2
                simpa using h4
              · have hul : us.length = n * t'.size := by rw [h1.1, List.length_take, Nat.min_eq_left (by omega)]
                rcases Nat.lt_or_ge j us.length with hl | hl
                · rw [List.getElem?_append_left hl] at hj; exact h2 j u hj
                · rw [List.getElem?_append_right hl] at hj
                  have := (k2 _ u hj).2
                  rw [← hul] at this
                  have e : us.length + (j - us.length) = j := by omega
                  rw [e] at this; exact this
          obtain ⟨us, h1, h2⟩ := this ys.length (Nat.le_refl _)
          rw [List.take_length] at h1
          exact ⟨ys, us, p, c, hk, rfl, h1, fun _ => ⟨ad, hp, h2⟩⟩
        · have : ys = [] := List.eq_nil_of_length_eq_zero (by omega)
          subst this
          exact ⟨[], [], p, c, hk, rfl, ⟨by simp, fun j hj => by simp at hj⟩, fun h => absurd h (by simp)⟩
      | own id =>
        simp only [viewD] at hv
        cases hid : A.heap id with
        | none => rw [hid] at hv; cases hv
        | some o =>
          cases o with
          | box cs => rw [hid] at hv; cases hv
          | row e t2 xs =>
            rw [hid] at hv
            simp only [Option.some.injEq, D.slc.injEq] at hv
            obtain ⟨_, rfl, hx⟩ := hv
            have hx' := eq_of_heq hx
            subst hx'
            obtain ⟨vs, h1, h2⟩ := R.obj id _ hid
            have hr' : v = ι id := hr
            subst hr'
            rcases h1.2 with ⟨hv, h0⟩ | ⟨g, cap, cur, hv, _⟩
            · exact ⟨xs, vs, none, 0, hk, by rw [hv, h0], ⟨h1.1, h2⟩, fun h => by omega⟩
            · exact ⟨xs, vs, _, cap, hk, hv, ⟨h1.1, h2⟩, fun _ => ⟨_, rfl, fun j u hj => by
                rw [hv] at h1; exact h1.cells (g := g) rfl j u hj⟩⟩
      | ptr id off =>
        simp only [viewD] at hv
        split at hv <;> simp at hv
      | eptr _ _ _ _ => simp [viewD] at hv
      | clo f caps =>
        simp only [viewD] at hv
        split at hv <;> simp at hv
      | tup l => simp [viewD] at hv
    · exact hk.elim
  · rename_i hv
    cases x with
    | d d =>
      simp only [viewD, Option.some.injEq] at hv
      subst hv
      have hr' : v = .slice none 0 0 := hr
      subst hr'
      exact ⟨[], [], none, 0, hk, rfl, ⟨by simp, fun j hj => by simp at hj⟩, fun h => absurd h (by simp)⟩
    | own id =>
      simp only [viewD] at hv
      split at hv <;> simp at hv
    | ptr id off =>
      simp only [viewD] at hv
      split at hv <;> simp at hv
    | eptr _ _ _ _ => simp [viewD] at hv
    | clo f caps =>
      simp only [viewD] at hv
      split at hv <;> simp at hv
    | tup l => simp [viewD] at hv
  · exact hk.elim

end
end Fw
