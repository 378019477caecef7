/- Functions are sound. -/
import Derived.Test.YtfhlgbgclkahnaaFwY
set_option linter.unusedVariables false
set_option linter.unusedSimpArgs false
namespace Fw
open Go Go.RowKit

section
variable {P : Program} {T : Ctx} {H : Hints}
variable {w0 w : World} {O0 : Nat → Prop} {N : Nat} {A : AState} {ι : Nat → Value} {a : Act}

theorem start_rel (hO : ∀ b, O0 b → b < w.heap.size) {ds : List D} {vs : Array Value} (hl : LRep w O0 ds vs.toList) (hN : ds.length ≤ N) :
    Rel w O0 N (start ds) (fun _ => undef) ⟨vs ++ Array.replicate (N - vs.size) undef, []⟩ w := by
  have hlen : vs.size = ds.length := by have := hl.length; simpa using this
  have hown : ∀ b, Own O0 (start ds).heap (fun _ => undef) b → O0 b := by
    rintro b (hb | ⟨id, h, _⟩)
    · exact hb
    · exact absurd rfl h
  have hl' := LRep.keeps (Keeps.weaken (w := w) hown) ds _ hl
  refine ⟨Below.refl _ _, hO, fun t => ?_, fun id o h => (by cases h), fun _ _ h => absurd rfl h, fun t id hid => ?_, (by simp; omega), rfl⟩
  · show ARep w _ _ (match ds[t]? with | some d => .d d | none => aundef) _
    cases hd : ds[t]? with
    | none =>
      have hge : vs.size ≤ t := by rw [hlen]; exact List.getElem?_eq_none_iff.1 hd
      show _ = _
      simp only [Array.getD_eq_getD_getElem?]
      rw [Array.getElem?_append_right hge]
      simp only [Array.getElem?_replicate]
      split <;> rfl
    | some d =>
      obtain ⟨u, h1, h2⟩ := hl'.get hd
      have hlt : t < vs.size := by
        have := (List.getElem?_eq_some_iff.1 h1).1
        simpa using this
      have h3 : vs[t]? = some u := by simpa using h1
      simp only [Array.getD_eq_getD_getElem?]
      rw [Array.getElem?_append_left hlt, h3]
      exact h2
  · exfalso
    have : (start ds).env t = (match ds[t]? with | some d => .d d | none => aundef) := rfl
    rw [this] at hid
    cases hd : ds[t]? with
    | none => rw [hd] at hid; simp [AV.ids, aundef] at hid
    | some d => rw [hd] at hid; simp [AV.ids] at hid

/-! ### Seen from without -/
theorem cap_out {w : World} {O O' : Nat → Prop} {h : Hp} {ι : Nat → Value} {base : Nat} (hsub : ∀ b, O' b → O b) (hout : ∀ b, O' b → b < base) (ho : ∀ id o, h id = some o → ObjRep w O base o (ι id)) :
    ∀ (caps : List (D ⊕ (Nat × Nat))) (cs : List D) (vs : List Value), optAll (caps.map (capD h)) = some cs → capsRep w O ι caps vs → LRep w O' cs vs
  | [], cs, vs, hc, hr => by simp [optAll] at hc; subst hc; exact hr
  | c :: caps, cs, _, hc, ⟨u, us, h1, h2, h3⟩ => by
    rw [List.map_cons] at hc
    obtain ⟨x, ys, e1, e2, e3⟩ := optAll_cons hc
    subst h1 e3
    refine ⟨u, us, rfl, ?_, cap_out hsub hout ho caps ys us e2 h3⟩
    cases c with
    | inl d => simp [capD] at e1; subst e1; exact VRep.keeps (Keeps.weaken hsub) _ _ h2
    | inr p =>
      obtain ⟨id, off⟩ := p
      obtain ⟨b, hb, rfl⟩ := h2
      simp only [capD] at e1
      cases hid : h id with
      | none => simp [hid] at e1
      | some o =>
        cases o with
        | row e t xs => simp [hid] at e1
        | box cs =>
          simp [hid] at e1
          subst e1
          obtain ⟨b', vs', e, h4, hge, h5, h6⟩ := ho id _ hid
          have := ptr_inj hb h4
          subst this
          refine ⟨_, rfl, ((LRep.keeps (Keeps.weaken hsub) cs _ h6).drop off).prep fun j u hu => ⟨fun hb => ?_, ?_⟩⟩
          · rw [add_plain] at hb
            have := hout _ hb
            simp at this
            omega
          · rw [List.getElem?_drop] at hu
            rw [add_plain]
            simp only [World.cell?, h5, Nat.zero_add]
            simpa using hu

theorem view_out {w : World} {O O' : Nat → Prop} {h : Hp} {ι : Nat → Value} {base : Nat} (hsub : ∀ b, O' b → O b) (hout : ∀ b, O' b → b < base) (ho : ∀ id o, h id = some o → ObjRep w O base o (ι id)) :
    ∀ {x : AV} {d : D} {v : Value}, viewD h x = some d → ARep w O ι x v → VRep w O' d v
  | .d x, d, v, hv, hr => by simp [viewD] at hv; subst hv; exact VRep.keeps (Keeps.weaken hsub) _ _ hr
  | .own id, d, v, hv, hr => by
    simp only [viewD] at hv
    cases hid : h id with
    | none => simp [hid] at hv
    | some o =>
      cases o with
      | box cs => simp [hid] at hv
      | row e t xs =>
        simp [hid] at hv
        subst hv
        obtain ⟨vs, h1, h2⟩ := ho id _ hid
        have hr' : v = ι id := hr
        rw [← hr'] at h1
        refine ⟨?_, fun h => by cases h⟩
        rcases h1.2 with ⟨rfl, h0⟩ | ⟨g, cap, cur, rfl, hg, hh, hnc, hcm, hcs, ht⟩
        · exact ⟨none, 0, by rw [h0], by omega, fun hp => by omega⟩
        · refine ⟨_, cap, rfl, hnc, fun hp => ⟨_, rfl, fun j hj => ?_⟩⟩
          refine ERep.imp (w := w) (O := O) (Keeps.weaken hsub) t _ _ _ _ _ (fun i u hi hu => ⟨fun hb => ?_, h1.cells (g := g) rfl _ _ hu⟩) (h2 j hj)
          rw [add_block] at hb
          have := hout _ hb
          simp at this
          omega
  | .ptr id off, d, v, hv, hr => by
    simp only [viewD] at hv
    cases hid : h id with
    | none => simp [hid] at hv
    | some o =>
      cases o with
      | row e t xs => simp [hid] at hv
      | box cs =>
        simp [hid] at hv
        subst hv
        have := cap_out hsub hout ho [.inr (id, off)] [.rptr (cs.drop off)] [v] (by simp [optAll, capD, hid]) ⟨v, [], rfl, hr, rfl⟩
        obtain ⟨u, us, e, h1, _⟩ := this
        injection e with e1 e2
        subst e1
        exact h1
  | .eptr .., d, v, hv, hr => by simp [viewD] at hv
  | .clo f caps, d, v, hv, hr => by
    simp only [viewD] at hv
    cases hc : optAll (caps.map (capD h)) with
    | none => rw [hc] at hv; cases hv
    | some cs =>
      rw [hc] at hv
      injection hv with hv
      subst hv
      obtain ⟨vs, rfl, h2⟩ := hr
      exact ⟨vs, rfl, cap_out hsub hout ho caps cs _ hc h2⟩
  | .tup l, d, v, hv, hr => by simp [viewD] at hv

/-! ### Results -/
theorem run_load_d {t : Nat} {i : TInf} (hi : mkTI P t = some i) {ad : Addr} {us : List Value} {ds : List D} {O : Nat → Prop}
    (hl : LRep w O ds us) (hc : ∀ j u, us[j]? = some u → w.cell? (ad.add j) = some u) {d : D}
    (hk : (bif i.desc.agg then (bif Nat.ble i.size ds.length then some (D.agg (ds.take i.size)) else none) else ds[0]?) = some d) :
    ∃ v, (loadVar t ad).run P w = .ok v w ∧ VRep w O d v := by
  obtain ⟨inf, d0, z, h1, h2, h3, h4, h5, h6, h7⟩ := mkTI_spec hi
  have hagg : (isAgg t).run P w = .ok i.desc.agg w := by
    rw [← h6, tdOf_agg]
    unfold isAgg
    simp only [Sem.run_bind, run_underlying h2]
    cases d0 <;> rfl
  cases ha : i.desc.agg with
  | true =>
    rw [ha] at hk hagg
    simp only [cond_true] at hk
    cases hb : Nat.ble i.size ds.length with
    | false => rw [hb] at hk; cases hk
    | true =>
      rw [hb] at hk
      simp only [cond_true, Option.some.injEq] at hk
      subst hk
      have hle := Nat.le_of_ble_eq_true hb
      have hlen : us.length = ds.length := hl.length
      refine ⟨.agg (us.take i.size).toArray, ?_, ⟨_, rfl, by simpa using hl.take i.size⟩⟩
      have hlc := run_loadCells_list (P := P) (w := w) ad (us.take i.size) (fun j v hj => hc j v (by rw [List.getElem?_take] at hj; split at hj <;> simp_all))
      have hn : (us.take i.size).length = i.size := by simp; omega
      rw [hn] at hlc
      unfold loadVar
      simp [hagg, Go.sizeOf, typeInfo, h1, h4, hlc]
  | false =>
    rw [ha] at hk hagg
    simp only [cond_false] at hk
    obtain ⟨u, h3, h4⟩ := hl.get hk
    have h0 := hc 0 u h3
    rw [add_zero'] at h0
    refine ⟨u, ?_, h4⟩
    unfold loadVar
    simp [hagg, load, Sem.run, h0]

def resOne (tmps : Array Value) : ResultVar → Sem Value
  | .tmp t => pure (tmps.getD t undef)
  | .cell a t => do loadVar t (← asAddr (tmps.getD a undef))

theorem resD_sound (tt : ∀ t i, look T.tt t = some i → mkTI P t = some i) (R : Rel w0 O0 N A ι a w) : ∀ (l : List ResultVar) (ds : List D), resD T A l = some ds →
    ∃ vs : List Value, (l.mapM (resOne a.tmps)).run P w = .ok vs w ∧ LRep w O0 ds vs
  | [], ds, h => by
    simp only [resD, Option.some.injEq] at h
    subst h
    exact ⟨[], by simp, rfl⟩
  | .tmp t :: l, ds, h => by
    simp only [resD] at h
    cases hv : viewD A.heap (A.env t) with
    | none => rw [hv] at h; cases h
    | some d =>
      rw [hv] at h
      cases hl : resD T A l with
      | none => rw [hl] at h; cases h
      | some ds' =>
        rw [hl] at h
        simp only [Option.some.injEq] at h
        subst h
        obtain ⟨vs, h1, h2⟩ := resD_sound tt R l ds' hl
        refine ⟨a.tmps.getD t undef :: vs, ?_, _, _, rfl, view_out (fun b hb => .inl hb) R.o0 R.obj hv (R.env t), h2⟩
        simp [resOne, h1]
  | .cell s t :: l, ds, h => by
    simp only [resD] at h
    split at h
    · rename_i id off i he hi
      split at h
      · rename_i cs hh
        split at h
        · rename_i d ds' hd hl
          simp only [Option.some.injEq] at h
          subst h
          obtain ⟨vs, h1, h2⟩ := resD_sound tt R l ds' hl
          have hr := R.env s
          rw [he] at hr
          obtain ⟨b, k1, k2⟩ := hr
          obtain ⟨us, k3, k4⟩ := ptr_cells R.obj (off := off) hh k1
          obtain ⟨v, k5, k6⟩ := run_load_d (tt t i hi) k3 k4 hd
          refine ⟨v :: vs, ?_, _, _, rfl, VRep.keeps (Keeps.weaken fun b hb => .inl hb) _ _ k6, h2⟩
          simp only [List.mapM_cons, Sem.run_bind, resOne, k2, asAddr, Sem.run_pure, Result.andThen, k5, h1]
        · cases h
      · cases h
    · cases h

def oneOf : List Value → Value
  | [v] => v
  | vs => .tuple vs.toArray
theorem results_run {fn : Func} {tmps : Array Value} {vs : List Value} (h : (fn.results.toList.mapM (resOne tmps)).run P w = .ok vs w) :
    (results fn tmps).run P w = .ok (oneOf vs) w := by
  have e : results fn tmps = (do
      let vs ← fn.results.mapM (resOne tmps)
      pure (if h : vs.size = 1 then vs[0] else .tuple vs)) := by
    unfold results
    congr 2
  rw [e, Array.mapM_eq_mapM_toList]
  simp only [Sem.run_bind, map_eq_pure_bind, Sem.run_pure, Result.andThen, h]
  cases vs with
  | nil => rfl
  | cons v vs => cases vs <;> simp [oneOf]

theorem res_arep {O : Nat → Prop} {ds : List D} {vs : List Value} (h : LRep w O ds vs) (ι : Nat → Value) : ARep w O ι (resAV ds) (oneOf vs) := by
  cases ds with
  | nil => have h' : vs = [] := h; subst h'; exact ⟨#[], rfl, rfl⟩
  | cons d ds =>
    obtain ⟨u, us, rfl, h1, h2⟩ := h
    cases ds with
    | nil => have h' : us = [] := h2; subst h'; exact h1
    | cons d' ds =>
      obtain ⟨u', us', rfl, h3, h4⟩ := h2
      exact ⟨_, rfl, _, _, rfl, h1, _, _, rfl, h3, h4⟩

theorem slc_dec {t t' : Ty} {xs : List t.El} {xs' : List t'.El} : ∀ {a : Ar} {y : a.El}, a.dec (.slc false t xs) = some y → a.enc y = .slc false t' xs' → ∃ e : t = t', xs' = e ▸ xs
  | .raw, y, h, h' => by
    simp only [Ar.dec, Option.some.injEq] at h
    subst h
    have h'' : D.slc false t xs = .slc false t' xs' := h'
    injection h'' with _ h1 h2
    subst h1
    exact ⟨rfl, (eq_of_heq h2).symm⟩
  | .ty τ, y, h, h' => by
    cases τ with
    | slc τ =>
      simp only [Ar.enc, Ty.toD] at h'
      injection h' with _ h1 h2
      subst h1
      have h2' := eq_of_heq h2
      subst h2'
      simp only [Ar.dec, Ty.ofD, Ty.isAgg, cond_false, Ty.ofCells] at h
      cases hc : castL t τ xs with
      | none => rw [hc] at h; simp [fin] at h
      | some zs =>
        rw [hc] at h
        simp [fin] at h
        subst h
        exact castL_spec hc
    | int k => simp [Ar.enc, Ty.toD] at h'
    | bool => simp [Ar.enc, Ty.toD] at h'
    | str => simp [Ar.enc, Ty.toD] at h'
    | pair a b => simp [Ar.enc, Ty.toD] at h'
    | unit => simp [Ar.enc, Ty.toD] at h'

theorem decs_one {l : List Ar} {d : D} {y : Ars l} {c : D} (h : decs l [d] = some y) (h' : encs l y = [c]) : ∃ (a : Ar) (z : a.El), a.dec d = some z ∧ a.enc z = c := by
  cases l with
  | nil => simp [decs] at h
  | cons a l =>
    simp only [encs, List.cons.injEq] at h'
    simp only [decs] at h
    cases hd : a.dec d with
    | none => rw [hd] at h; cases h
    | some z =>
      rw [hd] at h
      simp only at h
      cases hl : decs l [] with
      | none => rw [hl] at h; cases h
      | some zs =>
        rw [hl] at h
        simp only [Option.some.injEq] at h
        subst h
        exact ⟨a, z, hd, h'.1⟩

theorem nil_slc {t' : Ty} {xs' : List t'.El} {a : Ar} {y : a.El} (h : a.dec (.val (.slice none 0 0)) = some y) (h' : a.enc y = .slc false t' xs') : xs' = [] := by
  cases a with
  | raw => simp only [Ar.dec, Option.some.injEq] at h; subst h; cases h'
  | ty τ =>
    cases τ with
    | slc τ =>
      simp only [Ar.enc, Ty.toD] at h'
      injection h' with _ h1 h2
      subst h1
      have h2' := eq_of_heq h2
      subst h2'
      simp [Ar.dec, Ty.ofD, Ty.isAgg, Ty.ofCells, fin] at h
      first | exact h | exact h.symm
    | int k => simp [Ar.enc, Ty.toD] at h'
    | bool => simp [Ar.enc, Ty.toD] at h'
    | str => simp [Ar.enc, Ty.toD] at h'
    | pair a b => simp [Ar.enc, Ty.toD] at h'
    | unit => simp [Ar.enc, Ty.toD] at h'

theorem finish_sound (tt : ∀ t i, look T.tt t = some i → mkTI P t = some i) (R : Rel w0 O0 N A ι a w) {fn : Func} {C : Con} {x : Ars C.args} {e : AX} (h : finish T fn.results.toList C x e A) :
    (e = .normal ∨ e = .ret) ∧ ∃ v, (results fn a.tmps).run P w = .ok v w ∧ CPost C x w0 O0 (.returned v) w := by
  have main : (match C.fresh with
      | some e => finishF e fn.results.toList C x A
      | none => (match resD T A fn.results.toList with
        | some ds => (match decs C.res ds with
          | some y => y = C.post x
          | none => False)
        | none => False)) → ∃ v, (results fn a.tmps).run P w = .ok v w ∧ CPost C x w0 O0 (.returned v) w := by
    intro h
    have plain : ∀ ds, resD T A fn.results.toList = some ds → ∀ y, decs C.res ds = some y → y = C.post x →
        (∀ v, (results fn a.tmps).run P w = .ok v w → FreshR C x w0 w O0 v) → ∃ v, (results fn a.tmps).run P w = .ok v w ∧ CPost C x w0 O0 (.returned v) w := by
      intro ds hds y hy hxy hf
      subst hxy
      obtain ⟨vs, h1, h2⟩ := resD_sound tt R _ _ hds
      have hrun := results_run h1
      exact ⟨_, hrun, _, rfl, R.below, fun ι' => res_arep (decs_encs _ _ _ _ hy h2) ι', hf _ hrun⟩
    cases hfr : C.fresh with
    | none =>
      rw [hfr] at h
      simp only at h
      split at h
      · rename_i ds hds
        split at h
        · rename_i y hy
          exact plain ds hds y hy h fun v _ e he => by rw [hfr] at he; cases he
        · exact h.elim
      · exact h.elim
    | some e =>
      rw [hfr] at h
      simp only at h
      unfold finishF at h
      split at h
      · rename_i t hres
        have hrun : (results fn a.tmps).run P w = .ok (a.tmps.getD t undef) w := results_run (vs := [a.tmps.getD t undef]) (by rw [hres]; simp [resOne])
        have hr := R.env t
        split at h
        · rename_i id he
          rw [he] at hr
          split at h
          · rename_i e' ty xs hh
            cases hb : Nat.beq e e' with
            | false => rw [hb] at h; exact h.elim
            | true =>
              rw [hb] at h
              simp only [cond_true] at h
              have := Nat.eq_of_beq_eq_true hb
              subst this
              split at h
              · rename_i y hy
                refine plain [.slc false ty xs] (by rw [hres]; simp [resD, he, viewD, hh]) y hy h fun v hv e1 he1 t' xs' hen => ?_
                rw [hrun] at hv
                injection hv with hv
                rw [hfr] at he1
                injection he1 with he1
                subst he1
                rw [← h] at hen
                obtain ⟨ar, z, k1, k2⟩ := decs_one hy hen
                obtain ⟨rfl, hxs⟩ := slc_dec k1 k2
                simp only at hxs
                subst hxs
                obtain ⟨vs, k3, k4⟩ := R.obj id _ hh
                have hr' : a.tmps.getD t undef = ι id := hr
                rw [← hv, hr']
                exact ⟨vs, k3, fun j hj => ERep.imp (Keeps.weaken fun b hb => .inl hb) _ _ _ _ _ _ (fun _ _ _ h => h) (k4 j hj)⟩
              · exact h.elim
          · exact h.elim
        · rename_i he
          rw [he] at hr
          split at h
          · rename_i y hy
            refine plain [.val (.slice none 0 0)] (by rw [hres]; simp [resD, he, viewD]) y hy h fun v hv e1 he1 t' xs' hen => ?_
            rw [hrun] at hv
            injection hv with hv
            rw [← h] at hen
            obtain ⟨ar, z, k1, k2⟩ := decs_one hy hen
            have hxs := nil_slc k1 k2
            subst hxs
            have hr' : a.tmps.getD t undef = .slice none 0 0 := hr
            rw [← hv, hr']
            exact ⟨[], ⟨by simp, .inl ⟨rfl, rfl⟩⟩, fun j hj => by simp at hj⟩
          · exact h.elim
        · exact h.elim
      · exact h.elim
  cases e with
  | normal => exact ⟨.inl rfl, main h⟩
  | ret => exact ⟨.inr rfl, main h⟩
  | exit i => exact h.elim

/-- A function whose condition holds is sound. -/
theorem fn_sound (tok : Tok P T) {f : FuncId} {fn : Func} {C : Con} (hf : P.funcs[f]? = some fn) (hname : (fn.name == "runtime.NumGoroutine") = false) (H : Hints)
    (hvc : ∀ x, C.pre x → VC T H fn C x) (hb : fn.body.isNone = false) : Sound P f C := by
  refine ⟨⟨fn, hf, hb, hname⟩, fun x hx w O vs hO hl => ?_⟩
  have h := hvc x hx
  unfold VC at h
  split at h
  · rename_i c hc
    cases hn : Nat.ble C.args.length fn.ntmps with
    | false => rw [hn] at h; exact h.elim
    | true =>
      rw [hn] at h
      simp only [cond_true] at h
      have hle := Nat.le_of_ble_eq_true hn
      have hlen : ∀ (l : List Ar) (x : Ars l), (encs l x).length = l.length := by
        intro l
        induction l with
        | nil => intro x; rfl
        | cons a l ih => intro x; simp [encs, ih]
      have R := start_rel (N := fn.ntmps) hO hl (by rw [hlen]; exact hle)
      refine calls_of_wp hf hc (code_sound tok c 0 _ _ R h ?_)
      intro e A' a' w' hK haf
      obtain ⟨ι', R', _⟩ := haf
      obtain ⟨he, v, h1, h2⟩ := finish_sound tok.tt R' hK
      rcases he with rfl | rfl
      · exact ⟨R'.defers, v, h1, h2⟩
      · exact ⟨R'.defers, v, h1, h2⟩
  · exact h.elim

end
end Fw
