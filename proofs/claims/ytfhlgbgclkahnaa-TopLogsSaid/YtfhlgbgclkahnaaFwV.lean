/- Every order of a region comes to what the order of the text comes to. -/
import Derived.Test.YtfhlgbgclkahnaaFwU
set_option linter.unusedVariables false
set_option linter.unusedSimpArgs false
namespace Fw
open Go Go.RowKit

section
variable {T : Ctx} {H : Hints} {ops : Array Oper}

theorem bif_elim {b : Bool} {X : Prop} (h : bif b then X else False) : X := by
  cases b
  · exact h.elim
  · exact h

theorem capOf_ids {h : Hp} : ∀ {xs : List AV} {cs : List (D ⊕ (Nat × Nat))}, optAll (xs.map qmakeFunc.capOf) = some cs → (∀ x ∈ xs, ∀ id ∈ x.ids, h id ≠ none) → ∀ id ∈ capIds cs, h id ≠ none
  | [], cs, hc, _, id, hid => by simp [optAll] at hc; subst hc; simp [capIds] at hid
  | x :: xs, cs, hc, hx, id, hid => by
    rw [List.map_cons] at hc
    obtain ⟨c, ys, e1, e2, e3⟩ := optAll_cons hc
    subst e3
    have ih := capOf_ids (h := h) e2 (fun y hy => hx y (by simp [hy]))
    cases x with
    | d y =>
      simp only [qmakeFunc.capOf, Option.some.injEq] at e1
      subst e1
      exact ih id hid
    | ptr i off =>
      simp only [qmakeFunc.capOf, Option.some.injEq] at e1
      subst e1
      simp only [capIds, List.mem_cons] at hid
      rcases hid with rfl | hid
      · exact hx (.ptr id off) (by simp) id (by simp [AV.ids])
      · exact ih id hid
    | _ => simp [qmakeFunc.capOf] at e1

/-- What a quiet step yields refers to objects that its operands refer to. -/
theorem q_ids {op : Op} {ρ : Env} {h : Hp} {v : AV} (ha : ∀ x : Operand, ∀ id ∈ (ρ x).ids, h id ≠ none) (hq : qstep T op ρ h (fun z => z = v)) : ∀ id ∈ v.ids, h id ≠ none := by
  have dat : ∀ {d : D}, AV.d d = v → ∀ id ∈ v.ids, h id ≠ none := fun hd id hid => by subst hd; simp [AV.ids] at hid
  have res : ∀ {C : Con} {args : List AV}, qcon C h args (fun z => z = v) → ∀ id ∈ v.ids, h id ≠ none := by
    intro C args hc id hid
    unfold qcon at hc
    split at hc
    · split at hc
      · rename_i x _
        replace hc := bif_elim hc
        have := hc.2; subst this; rw [resAV_ids] at hid; simp at hid
      · exact hc.elim
    · exact hc.elim
  have cel : ∀ {i : TInf} {cs : List D}, cellsAt i cs (fun z => z = v) → ∀ id ∈ v.ids, h id ≠ none := by
    intro i cs hc
    unfold cellsAt at hc
    cases hb : i.desc.agg <;> rw [hb] at hc
    · simp only [cond_false] at hc
      split at hc
      · exact dat hc
      · exact hc.elim
    · simp only [cond_true] at hc
      replace hc := bif_elim hc
      exact dat hc
  cases op <;> simp only [qstep] at hq <;> try (exact hq.elim)
  case move x => subst hq; exact ha x
  case assign x => subst hq; exact ha x
  case pick c a b =>
    unfold qpick at hq
    split at hq
    · split at hq
      · exact dat hq
      · unfold Br at hq
        split at hq
        · subst hq; exact ha a
        · subst hq; exact ha b
    · exact hq.elim
  case load t a =>
    unfold qload at hq
    split at hq
    · split at hq
      · exact cel hq
      · split at hq
        · exact cel hq
        · exact hq.elim
      · split at hq
        · rename_i sz ix off e t' xs _
          replace hq := bif_elim hq
          exact cel hq.2.2
        · exact hq.elim
      · exact hq.elim
    · exact hq.elim
  case nilCheck x =>
    unfold qnil at hq
    split at hq
    · subst hq; exact ha x
    · exact hq.elim
  case binOp op t x y yt =>
    unfold qbin at hq
    split at hq
    · rename_i kd a kd' b _ _
      replace hq := bif_elim hq
      
      cases op <;> simp only [qint] at hq <;> first | exact dat hq | exact dat hq.2
    · cases op <;> first | exact hq.elim | exact dat hq | exact dat hq.2
    · split at hq
      · split at hq
        · cases op <;> first | exact hq.elim | exact dat hq
        · split at hq <;> first | exact hq.elim | exact dat hq
      · exact hq.elim
  case unOp op t x => unfold qun at hq; split at hq <;> first | exact dat hq | exact hq.elim
  case convert s t x =>
    unfold qconv at hq
    split at hq
    · split at hq <;> first | exact dat hq | exact hq.elim
    · exact hq.elim
  case makeInterface t x =>
    split at hq
    · split at hq
      · exact hq.elim
      · exact dat hq
    · exact hq.elim
  case makeFunc fn first caps =>
    unfold qmakeFunc at hq
    split at hq
    · split at hq
      · rename_i cs hcs
        unfold qmakeFunc.pack at hq
        split at hq
        · exact dat hq
        · subst hq
          refine capOf_ids hcs fun x hx => ?_
          obtain ⟨y, _, rfl⟩ := List.mem_map.1 hx
          exact ha y
      · exact hq.elim
    · exact hq.elim
  case build t parts =>
    unfold qbuild at hq
    repeat' (split at hq <;> try (exact hq.elim))
    all_goals exact dat hq
  case buildSlice t len parts =>
    unfold qbuildSlice at hq
    split at hq
    · rename_i e ie _
      unfold qbs at hq
      split at hq
      · cases hb : (Nat.beq ie.size (tyOf T.tt 6 e).size && Nat.blt 0 (len * ie.size) && Nat.ble (len * ie.size) 1000000) <;> rw [hb] at hq
        · exact hq.elim
        · simp only [cond_true] at hq
          split at hq
          · split at hq
            · exact dat hq
            · exact hq.elim
          · exact hq.elim
      · exact hq.elim
    · exact hq.elim
  case slice t x lo hi mx =>
    unfold qslice at hq
    split at hq
    · split at hq
      · split at hq
        · unfold cutOf at hq
          split at hq <;> first | exact dat hq | exact dat hq.2.2 | exact dat hq.2.2.2 | exact hq.elim
        · exact hq.elim
      · split at hq
        · rename_i t' xs _ _ ie _
          replace hq := bif_elim hq
          
          split at hq
          · unfold cutOf at hq
            split at hq <;> first | exact dat hq | exact dat hq.2.2 | exact dat hq.2.2.2 | exact hq.elim
          · unfold cutOf3 at hq
            split at hq <;> first | exact dat hq.2.2.2 | exact dat hq.2.2.2.2 | exact hq.elim
          · exact hq.elim
        · exact hq.elim
      · exact hq.elim
    · exact hq.elim
  case fieldAddr s x f =>
    unfold qfieldAddr at hq
    have hx := ha x
    split at hq
    · split at hq
      · exact dat hq
      · rename_i id o he; subst hq; rw [he] at hx; simpa [AV.ids] using hx
      · rename_i id sz i o he; subst hq; rw [he] at hx; simpa [AV.ids] using hx
      · exact hq.elim
    · exact hq.elim
  case field t x f =>
    unfold qfield at hq
    split at hq
    · split at hq
      · exact cel hq
      · exact hq.elim
    · exact hq.elim
  case indexAddr t x ix =>
    unfold qindexAddr at hq
    have hx := ha x
    split at hq
    · split at hq
      · rename_i e ie _
        split at hq
        · rename_i id he
          split at hq
          · rename_i e' t' xs hid
            replace hq := bif_elim hq
            have := hq.2.2
            subst this
            rw [he] at hx; simpa [AV.ids] using hx
          · exact hq.elim
        · rename_i f t' xs he
          replace hq := bif_elim hq
          exact dat hq.2.2
        · exact hq.elim
      · split at hq
        · split at hq
          · rename_i id off he
            obtain ⟨m, _, _, hq⟩ := arrBr_spec hq
            subst hq
            rw [he] at hx; simpa [AV.ids] using hx
          · obtain ⟨m, _, _, hq⟩ := arrBr_spec hq
            exact dat hq
          · exact hq.elim
        · exact hq.elim
    · exact hq.elim
  case index t x ix =>
    unfold qindex at hq
    split at hq
    · split at hq
      · split at hq
        · exact dat hq.2.2
        · exact hq.elim
      · exact hq.elim
    · exact hq.elim
  case extract t ix =>
    split at hq
    · split at hq
      · exact dat hq
      · exact hq.elim
    · exact hq.elim
  case call c =>
    unfold qcall at hq
    split at hq
    · split at hq
      · exact res hq
      · exact hq.elim
    · unfold qcallv at hq
      split at hq
      · split at hq
        · exact res hq
        · exact hq.elim
      · split at hq
        · exact res hq
        · split at hq
          · split at hq
            · exact res hq
            · exact hq.elim
          · exact hq.elim
      · exact hq.elim
    · split at hq
      · exact res hq
      · exact hq.elim
    · unfold qbuiltin at hq
      split at hq
      · split at hq
        · split at hq
          · exact dat hq
          · exact hq.elim
        · exact hq.elim
      · rename_i kd x kd' y _
        replace hq := bif_elim hq
        exact dat hq
      · rename_i kd x kd' y _
        replace hq := bif_elim hq
        exact dat hq
      · exact hq.elim

/-- Objects stay, but for the one that goes. -/
def WOk (h : Hp) (r : WRes) : Prop := (∀ id, h id ≠ none → r.kill ≠ some id → r.heap id ≠ none) ∧ ∀ id ∈ r.val.ids, r.heap id ≠ none

theorem wok_set {h : Hp} {d : Nat} {o : Obj} {v : AV} (hv : ∀ id ∈ v.ids, id = d) : WOk h ⟨none, upd h d (some o), v⟩ := by
  refine ⟨fun id hid _ => ?_, fun id hid => ?_⟩
  · show upd h d (some o) id ≠ none
    rw [upd_eq]; split
    · simp
    · exact hid
  · show upd h d (some o) id ≠ none
    rw [upd_eq, if_pos (hv id hid)]; simp
theorem wok_move {h : Hp} {i d : Nat} {o : Obj} {v : AV} (hv : ∀ id ∈ v.ids, id = d) : WOk h ⟨some i, upd (upd h i none) d (some o), v⟩ := by
  refine ⟨fun id hid hk => ?_, fun id hid => ?_⟩
  · show upd (upd h i none) d (some o) id ≠ none
    rw [upd_eq, upd_eq]; split
    · simp
    · rw [if_neg fun e => hk (by rw [e])]; exact hid
  · show upd (upd h i none) d (some o) id ≠ none
    rw [upd_eq, if_pos (hv id hid)]; simp

theorem elems_ok {h h2 : Hp} {t : Ty} {x : AV} {r : WRes} {F : List t.El → Prop} (he : elems h t x F) (hF : ∀ ys, F ys → WOk h2 r) : WOk h2 r := by
  unfold elems at he
  split at he
  · split at he
    · exact hF _ he
    · exact he.elim
  · exact hF _ he
  · exact he.elim

theorem w_ids {op : Op} {d : Nat} {ρ : Env} {h : Hp} {r : WRes} (hw : wstep T op d ρ h (fun z => z = r)) : WOk h r := by
  cases op <;> simp only [wstep] at hw <;> try (exact hw.elim)
  case alloc t =>
    split at hw
    · subst hw; exact wok_set (by simp [AV.ids])
    · exact hw.elim
  case box t x =>
    split at hw
    · rename_i v _ _
      replace hw := bif_elim hw
      have hw' : _ = r := hw
      subst hw'; exact wok_set (by simp [AV.ids])
    · exact hw.elim
  case makeSlice t l c =>
    unfold wmake at hw
    split at hw
    · rename_i e ie _ _ _ _
      unfold wmk at hw
      split at hw
      · cases hb : (Nat.beq ie.size (tyOf T.tt 6 e).size && Nat.blt 0 ie.size && Nat.blt 0 ie.bytes) <;> rw [hb] at hw
        · exact hw.elim
        · have := hw.2.2.2
          subst this; exact wok_set (by simp [AV.ids])
      · exact hw.elim
    · exact hw.elim
  case store t a x =>
    split at hw
    · rename_i i _
      unfold wstore at hw
      split at hw
      · rename_i v _
        split at hw
        · rename_i id off _
          split at hw
          · rename_i cs _
            replace hw := bif_elim hw
            have hw' : _ = r := hw
            subst hw'; exact wok_set (by simp [AV.ids, aundef])
          · exact hw.elim
        · rename_i id s ix off _
          split at hw
          · rename_i e t' xs _
            replace hw := bif_elim hw
            have h3 := hw.2.2
            split at h3
            · subst h3; exact wok_set (by simp [AV.ids, aundef])
            · exact h3.elim
          · exact hw.elim
        · exact hw.elim
      · exact hw.elim
    · exact hw.elim
  case slice t x lo hi mx =>
    unfold wcut at hw
    split at hw
    · split at hw
      · rename_i id _
        split at hw
        · split at hw
          · cases hb : okId h id d <;> rw [hb] at hw
            · exact hw.elim
            · have := hw.2.2
              subst this; exact wok_move (by simp [AV.ids])
          · exact hw.elim
        · exact hw.elim
      · exact hw.elim
    · exact hw.elim
  case call c =>
    split at hw
    · rename_i s x ts tx _ _
      unfold wappend at hw
      split at hw
      · rename_i e ie _
        replace hw := bif_elim hw
        
        split at hw
        · rename_i id _
          split at hw
          · rename_i e' t xs _
            replace hw := bif_elim hw
            exact elems_ok hw fun ys hy => by have := hy.2; subst this; exact wok_move (by simp [AV.ids])
          · exact hw.elim
        · split at hw
          · unfold wapn at hw
            replace hw := bif_elim hw
            exact elems_ok hw fun ys hy => by have := hy.2; subst this; exact wok_set (by simp [AV.ids])
          · exact hw.elim
        · exact hw.elim
      · exact hw.elim
    · rename_i s x ts tx _ _
      unfold wcopy at hw
      split at hw
      · rename_i e ie _
        replace hw := bif_elim hw
        
        split at hw
        · split at hw
          · rename_i e' t xs _
            replace hw := bif_elim hw
            exact elems_ok hw fun ys hy => by subst hy; exact wok_set (by simp [AV.ids])
          · exact hw.elim
        · exact hw.elim
      · exact hw.elim
    · exact hw.elim

theorem ge_wf {o : Oper} {A : AState} {e : Eff} (hwf : wfA A) (h : GE T H ops o A e) : wfA (e.app A o.dst) := by
  cases e with
  | set av =>
    have hav : ∀ id ∈ av.ids, A.heap id ≠ none := by
      rcases h with ⟨_, rfl⟩ | ⟨_, _, h3⟩
      · simp [AV.ids, aundef]
      · exact q_ids hwf.ev (h3 (fun z => z = av) rfl)
    intro t id hid
    rw [show ((Eff.set av).app A o.dst).heap = A.heap from put_heap]
    by_cases hd : o.dst = some t
    · rw [show (Eff.set av).app A o.dst = A.put o.dst av from rfl, hd] at hid
      have : (A.put (some t) av).env t = av := by show upd A.env t av t = av; rw [upd_eq, if_pos rfl]
      rw [this] at hid
      exact hav id hid
    · rw [show (Eff.set av).app A o.dst = A.put o.dst av from rfl, put_env' hd] at hid
      exact hwf t id hid
  | obj r =>
    obtain ⟨_, _, h3⟩ := h
    obtain ⟨k1, k2⟩ := w_ids (h3 (fun z => z = r) rfl)
    intro t id hid
    rw [show ((Eff.obj r).app A o.dst).heap = r.heap from act_heap]
    by_cases hd : o.dst = some t
    · rw [show (Eff.obj r).app A o.dst = r.act A o.dst from rfl, hd] at hid
      have : (r.act A (some t)).env t = r.val := by show upd _ t r.val t = r.val; rw [upd_eq, if_pos rfl]
      rw [this] at hid
      exact k2 id hid
    · rw [show (Eff.obj r).app A o.dst = r.act A o.dst from rfl, act_env hd, scrub_at] at hid
      have hne : r.kill ≠ some id ∧ id ∈ (A.env t).ids := by
        cases hk : r.kill with
        | none => rw [hk] at hid; exact ⟨by simp, hid⟩
        | some i =>
          rw [hk] at hid
          simp only [scrubV] at hid
          cases hx : A.env t with
          | d x => rw [hx] at hid; simp [scrub1, AV.ids] at hid
          | own j =>
            rw [hx] at hid
            simp only [scrub1] at hid
            cases hb : Nat.beq j i <;> rw [hb] at hid
            · simp only [cond_false, AV.ids, List.mem_singleton] at hid
              subst hid
              exact ⟨fun e => by injection e with e; subst e; simp at hb, by simp [AV.ids]⟩
            · simp [AV.ids] at hid
          | ptr j o =>
            rw [hx] at hid
            simp only [scrub1] at hid
            cases hb : Nat.beq j i <;> rw [hb] at hid
            · simp only [cond_false, AV.ids, List.mem_singleton] at hid
              subst hid
              exact ⟨fun e => by injection e with e; subst e; simp at hb, by simp [AV.ids]⟩
            · simp [AV.ids] at hid
          | eptr j s ix o =>
            rw [hx] at hid
            simp only [scrub1] at hid
            cases hb : Nat.beq j i <;> rw [hb] at hid
            · simp only [cond_false, AV.ids, List.mem_singleton] at hid
              subst hid
              exact ⟨fun e => by injection e with e; subst e; simp at hb, by simp [AV.ids]⟩
            · simp [AV.ids] at hid
          | clo f c => rw [hx] at hid; simp [scrub1, AV.ids] at hid
          | tup l => rw [hx] at hid; simp [scrub1, AV.ids] at hid
      exact k1 id (hwf t id hne.2) hne.1

end
end Fw
