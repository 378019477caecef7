/- The quiet operations are sound: all of them. -/
import Derived.Test.YtfhlgbgclkahnaaFwH
set_option linter.unusedVariables false
set_option linter.unusedSimpArgs false
namespace Fw
open Go Go.RowKit

section
variable {P : Program} {T : Ctx} {w : World} {O : Nat → Prop} {h : Hp} {ι : Nat → Value} {base : Nat}

theorem q_makeInterface (tt : ∀ t i, look T.tt t = some i → mkTI P t = some i) {t : Nat} {i : TInf} {x : D} {v : Value} {k : AV → Prop}
    (hs : look T.tt t = some i) (hd : ∀ z : Unit, i.desc = .iface → False) (hr : VRep w O x v) (hk : k (.d (.iface t x))) : Yields P w O h ι (Instr.makeInterface t v) k := by
  obtain ⟨inf, d, z, h1, h2, h3, h4, h5, h6, h7⟩ := mkTI_spec (tt _ _ hs)
  refine Yields.data hk (v := .iface t v) ?_ ⟨v, rfl, hr⟩
  unfold Instr.makeInterface
  simp only [Sem.run_bind, run_underlying h2, Result.andThen]
  cases d <;> first | rfl | (exfalso; exact hd () h6.symm)

theorem q_extract {l : List D} {ix : Nat} {v : Value} {k : AV → Prop} {d : D} (hr : ARep w O ι (.tup l) v) (hl : l[ix]? = some d) (hk : k (.d d)) : Yields P w O h ι (Instr.extract v ix) k := by
  obtain ⟨vs, rfl, h2⟩ := hr
  obtain ⟨u, h3, h4⟩ := h2.get hl
  refine Yields.data hk (v := u) ?_ h4
  have : vs[ix]? = some u := by simpa using h3
  simp [Instr.extract, this]


theorem mk_caps {env : Operand → AV} {ev : Operand → Value} (he : ∀ x, ARep w O ι (env x) (ev x)) (hal : ∀ x, ∀ id ∈ (env x).ids, h id ≠ none) :
    ∀ (xs : List Operand) (cs : List (D ⊕ (Nat × Nat))), optAll ((xs.map env).map qmakeFunc.capOf) = some cs →
      capsRep w O ι cs (xs.map ev) ∧ (∀ id ∈ capIds cs, h id ≠ none) ∧ ∀ ds, optAll (cs.map fun | .inl d => some d | .inr _ => none) = some ds → LRep w O ds (xs.map ev)
  | [], cs, hc => by simp [optAll] at hc; subst hc; exact ⟨rfl, by simp [capIds], fun ds hd => by simp [optAll] at hd; subst hd; rfl⟩
  | x :: xs, cs, hc => by
    simp only [List.map_cons] at hc
    obtain ⟨c, ys, e1, e2, e3⟩ := optAll_cons hc
    subst e3
    obtain ⟨k1, k2, k3⟩ := mk_caps he hal xs ys e2
    have hx := he x
    have hax := hal x
    cases hv : env x with
    | d y =>
      rw [hv] at e1 hx
      simp only [qmakeFunc.capOf, Option.some.injEq] at e1
      subst e1
      refine ⟨⟨_, _, rfl, hx, k1⟩, k2, fun ds hd => ?_⟩
      simp only [List.map_cons] at hd
      obtain ⟨d', ds', f1, f2, f3⟩ := optAll_cons hd
      injection f1 with f1
      subst f1 f3
      exact ⟨_, _, rfl, hx, k3 ds' f2⟩
    | ptr id off =>
      rw [hv] at e1 hx hax
      simp only [qmakeFunc.capOf, Option.some.injEq] at e1
      subst e1
      refine ⟨⟨_, _, rfl, hx, k1⟩, ?_, fun ds hd => ?_⟩
      · intro i hi
        simp only [capIds, List.mem_cons] at hi
        rcases hi with rfl | hi
        · exact hax _ (by simp [AV.ids])
        · exact k2 i hi
      · simp only [List.map_cons] at hd
        obtain ⟨d', ds', f1, f2, f3⟩ := optAll_cons hd
        cases f1
    | _ => rw [hv] at e1; simp [qmakeFunc.capOf] at e1

theorem q_makeFunc {env : Operand → AV} {ev : Operand → Value} (he : ∀ x, ARep w O ι (env x) (ev x)) (hal : ∀ x, ∀ id ∈ (env x).ids, h id ≠ none) {fn : Fn} {first caps : Array Operand} {k : AV → Prop}
    (hk : qmakeFunc fn (first.toList.map env) (caps.toList.map env) k) : Yields P w O h ι (Instr.makeFunc fn (first.map ev) (caps.map ev)) k := by
  unfold qmakeFunc at hk
  split at hk
  · rename_i f hf
    have hf0 : first.map ev = #[] := by
      have : first.toList = [] := by simpa using hf
      have : first = #[] := by simpa using this
      subst this; simp
    split at hk
    · rename_i cs hcs
      obtain ⟨k1, k2, k3⟩ := mk_caps he hal _ _ hcs
      unfold qmakeFunc.pack at hk
      split at hk
      · rename_i ds hds
        refine Yields.data hk (v := .func (.func f) (first.map ev) (caps.map ev)) (by simp [Instr.makeFunc]) ⟨_, by rw [hf0], ?_⟩
        simpa using k3 ds hds
      · refine Yields.same (av := .clo f cs) (v := .func (.func f) (first.map ev) (caps.map ev)) hk (by simpa [AV.ids] using k2) (by simp [Instr.makeFunc]) ⟨_, by rw [hf0], ?_⟩
        simpa using k1
    · exact hk.elim
  · exact hk.elim

theorem al_views (ho : ∀ id o, h id = some o → ObjRep w O base o (ι id)) : ∀ {xs : List AV} {vs : List Value}, ALRep w O ι xs vs →
    (xs.map (viewD h)).length = vs.length ∧ ∀ (i : Nat) (d : D) (v : Value), (xs.map (viewD h))[i]? = some (some d) → vs[i]? = some v → VRep w (fun _ => False) d v
  | [], vs, hr => by have hr' : vs = [] := hr; subst hr'; exact ⟨rfl, fun i d v h => by simp at h⟩
  | x :: xs, _, ⟨u, us, h1, h2, h3⟩ => by
    subst h1
    obtain ⟨k1, k2⟩ := al_views ho h3
    refine ⟨by simpa using k1, fun i d v hi hv => ?_⟩
    cases i with
    | zero =>
      simp at hi hv
      subst hv
      exact view_rep ho hi h2
    | succ i => exact k2 i d v (by simpa using hi) (by simpa using hv)

/-- What a call of a built-in function comes to. -/
theorem q_builtin (tt : ∀ t i, look T.tt t = some i → mkTI P t = some i) (ho : ∀ id o, h id = some o → ObjRep w O base o (ι id)) {b : Builtin} {ts : Array TypeId} {ty : TypeId} {cs : Array Bool} {args : List AV} {vs : Array Value} {k : AV → Prop}
    (hr : ALRep w O ι args vs.toList) (hk : qbuiltin T b ts.toList (args.map (viewD h)) k) :
    ∃ d v, k (.d d) ∧ VRep w O d v ∧ (builtin b ts ty cs vs).run P w = .ok (.value v) w := by
  obtain ⟨hl, hv⟩ := al_views ho hr
  unfold qbuiltin at hk
  split at hk
  · rename_i t x hts hx
    rw [hx] at hl hv
    obtain ⟨u, rfl⟩ : ∃ u, vs = #[u] := by
      have : vs.size = 1 := by simpa using hl.symm
      exact ⟨vs[0], by
        apply Array.ext
        · simp [this]
        · intro i h3 h4
          have : i = 0 := by omega
          subst this; rfl⟩
    have hts' : ts = #[t] := by simpa using congrArg List.toArray hts
    subst hts'
    split at hk
    · rename_i i hs
      obtain ⟨inf, d, z, h1, h2, h3, h4, h5, h6, h7⟩ := mkTI_spec (tt _ _ hs)
      split at hk
      · rename_i n hn
        refine ⟨_, .int .i64 n, hk, rfl, ?_⟩
        rw [← h6] at hn
        have hv0 := fun d (hd : x = some d) => hv 0 d u (by simp [hd]) (by simp)
        unfold lenD at hn
        split at hn
        · rename_i s hd
          have := tdOf_str hd
          subst this
          have e2' : u = .string s := hv0 _ rfl
          injection hn with hn
          subst e2' hn
          simp [builtin, Builtin.len_, run_underlying h2, goInt]
        · rename_i e f t' xs hd
          have := tdOf_slice hd
          subst this
          obtain ⟨⟨a, c, rfl, _⟩, _⟩ := hv0 _ rfl
          injection hn with hn
          subst hn
          simp [builtin, Builtin.len_, run_underlying h2, goInt]
        · rename_i e hd
          have := tdOf_slice hd
          subst this
          have e2' : u = .slice none 0 0 := hv0 _ rfl
          injection hn with hn
          subst e2' hn
          simp [builtin, Builtin.len_, run_underlying h2, goInt]
        · cases hn
      · exact hk.elim
    · exact hk.elim
  · rename_i kd x kd' y hx
    rw [hx] at hl hv
    obtain ⟨u, u', rfl⟩ : ∃ u u', vs = #[u, u'] := by
      have h2 : vs.size = 2 := by simpa using hl.symm
      refine ⟨vs[0], vs[1], ?_⟩
      apply Array.ext
      · simp [h2]
      · intro i h3 h4
        have : i = 0 ∨ i = 1 := by omega
        rcases this with rfl | rfl <;> rfl
    have e1 : u = .int kd x := hv 0 _ u rfl rfl
    have e2 : u' = .int kd' y := hv 1 _ u' rfl rfl
    subst e1 e2
    cases hb : ikb kd kd' with
    | false => rw [hb] at hk; exact hk.elim
    | true =>
      rw [hb] at hk
      exact ⟨_, .int kd (if y < x then y else x), hk, rfl, by simp [builtin, Builtin.min_, Builtin.min2]⟩
  · rename_i kd x kd' y hx
    rw [hx] at hl hv
    obtain ⟨u, u', rfl⟩ : ∃ u u', vs = #[u, u'] := by
      have h2 : vs.size = 2 := by simpa using hl.symm
      refine ⟨vs[0], vs[1], ?_⟩
      apply Array.ext
      · simp [h2]
      · intro i h3 h4
        have : i = 0 ∨ i = 1 := by omega
        rcases this with rfl | rfl <;> rfl
    have e1 : u = .int kd x := hv 0 _ u rfl rfl
    have e2 : u' = .int kd' y := hv 1 _ u' rfl rfl
    subst e1 e2
    cases hb : ikb kd kd' with
    | false => rw [hb] at hk; exact hk.elim
    | true =>
      rw [hb] at hk
      exact ⟨_, .int kd (if y > x then y else x), hk, rfl, by simp [builtin, Builtin.max_, Builtin.max2]⟩
  · exact hk.elim

theorem ALRep.map {env : Operand → AV} {ev : Operand → Value} (he : ∀ x, ARep w O ι (env x) (ev x)) : ∀ xs : List Operand, ALRep w O ι (xs.map env) (xs.map ev)
  | [] => rfl
  | x :: xs => ⟨_, _, rfl, he x, ALRep.map he xs⟩
theorem ALRep.append : ∀ {xs ys : List AV} {vs us : List Value}, ALRep w O ι xs vs → ALRep w O ι ys us → ALRep w O ι (xs ++ ys) (vs ++ us)
  | [], _, _, _, h, k => by have h' : _ = [] := h; subst h'; exact k
  | x :: xs, ys, _, us, ⟨u, vs', h1, h2, h3⟩, k => by subst h1; exact ⟨u, vs' ++ us, rfl, h2, ALRep.append h3 k⟩
theorem capsRep.al : ∀ {cs : List (D ⊕ (Nat × Nat))} {vs : List Value}, capsRep w O ι cs vs → ALRep w O ι (cs.map capAV) vs
  | [], _, h => h
  | .inl d :: cs, _, ⟨u, us, h1, h2, h3⟩ => ⟨u, us, h1, h2, capsRep.al h3⟩
  | .inr (id, off) :: cs, _, ⟨u, us, h1, h2, h3⟩ => ⟨u, us, h1, h2, capsRep.al h3⟩
theorem LRep.al : ∀ {ds : List D} {vs : List Value}, LRep w O ds vs → ALRep w O ι (ds.map .d) vs
  | [], _, h => h
  | d :: ds, _, ⟨u, us, h1, h2, h3⟩ => ⟨u, us, h1, h2, LRep.al h3⟩

theorem run_callFunc {f : FuncId} {fn : Func} (hfn : P.funcs[f]? = some fn) (hbody : fn.body.isNone = false) (hname : (fn.name == "runtime.NumGoroutine") = false) (vs : Array Value) :
    (callFunc f vs).run P w = .ok (.enter f vs) w := by
  unfold callFunc
  simp only [Sem.run_bind, run_program, Result.andThen, hfn]
  rw [if_neg (by rw [hname]; simp), if_neg (by rw [hbody]; simp)]
  rfl

/-- What a quiet operation yields, whether it is a call or not. -/
def Answers (P : Program) (w : World) (O : Nat → Prop) (h : Hp) (ι : Nat → Value) (s : Sem Next) (k : AV → Prop) : Prop :=
  ∃ av, k av ∧ (∀ id ∈ av.ids, h id ≠ none) ∧
    ((∃ v w', s.run P w = .ok (.value v) w' ∧ ARep w' O ι av v ∧ Below w.heap.size w w') ∨
     (∃ f args, s.run P w = .ok (.enter f args) w ∧ Calls P f args w fun e w' => ∃ v, e = .returned v ∧ ARep w' O ι av v ∧ Below w.heap.size w w'))

theorem Yields.answers {s : Sem Value} {k : AV → Prop} (hy : Yields P w O h ι s k) : Answers P w O h ι (do pure (.value (← s))) k := by
  obtain ⟨av, v, w', h1, h2, h3, h4, h5⟩ := hy
  exact ⟨av, h1, h2, .inl ⟨v, w', by simp [h3], h4, h5⟩⟩

theorem resAV_ids (ds : List D) : (resAV ds).ids = [] := by
  cases ds with
  | nil => rfl
  | cons d l => cases l <;> rfl

theorem q_call {O0 : Nat → Prop} (tok : Tok P T) (ho : ∀ id o, h id = some o → ObjRep w (Own O0 h ι) base o (ι id)) (hlt : ∀ b, Own O0 h ι b → b < w.heap.size)
    {env : Operand → AV} {ev : Operand → Value} (he : ∀ x, ARep w (Own O0 h ι) ι (env x) (ev x)) (hev : ∀ f, ev (.func f) = .func (.func f) #[] #[]) {c : Call} {ty : TypeId} {k : AV → Prop} (hk : qcall T c env h k) :
    Answers P w (Own O0 h ι) h ι (do let d ← resolve ev c ty; invoke d.target d.args) k := by
  obtain ⟨callee, args, ats⟩ := c
  have hargs := ALRep.map he args.toList
  -- a call of a function with a contract
  have direct : ∀ (f : FuncId) (C : Con) (avs : List AV) (vs : Array Value) (s : Sem Next), look T.fs f = some C → ALRep w (Own O0 h ι) ι avs vs.toList → qcon C h avs k → s.run P w = (callFunc f vs).run P w →
      Answers P w (Own O0 h ι) h ι s k := by
    intro f C avs vs s hC hr hq hs
    obtain ⟨⟨fn, hfn, hbody, hname⟩, hS⟩ := tok.fs f C hC
    obtain ⟨x, hpre, hk', Oq, hO, hl, hback⟩ := qcon_spec ho hq hr hlt (R := fun _ _ => True)
    refine ⟨_, hk', by simp [resAV_ids], .inr ⟨f, vs, ?_, (hS x hpre w Oq vs hO hl).mono ?_⟩⟩
    · rw [hs]; exact run_callFunc hfn hbody hname vs
    · rintro e w' ⟨v, rfl, hb, hv, _⟩
      exact ⟨v, rfl, hback v w' hv, hb⟩
  cases callee with
  | builtin b =>
    simp only [qcall] at hk
    obtain ⟨d, v, h1, h2, h3⟩ := q_builtin (P := P) (ts := ats) (ty := ty) (cs := args.map fun | .const _ => true | _ => false) (vs := args.map ev) tok.tt ho (by simpa using hargs) hk
    refine ⟨_, h1, by simp [AV.ids], .inl ⟨v, w, ?_, h2, Below.refl _ _⟩⟩
    simp only [resolve, invoke, Sem.run_bind, Sem.run_pure, Result.andThen]
    exact h3
  | invoke r name =>
    simp only [qcall] at hk
    cases hC : looks T.invs name with
    | none => rw [hC] at hk; exact hk.elim
    | some C =>
      rw [hC] at hk
      have hS := tok.invs name C hC
      obtain ⟨x, hpre, hk', Oq, hO, hl, hback⟩ := qcon_spec ho hk (vs := ev r :: args.toList.map ev) ⟨_, _, rfl, he r, hargs⟩ hlt (R := fun _ _ => True)
      obtain ⟨f, args', hr, hc⟩ := hS x hpre w Oq (ev r) (args.toList.map ev) hO hl
      refine ⟨_, hk', by simp [resAV_ids], .inr ⟨f, args', ?_, hc.mono ?_⟩⟩
      · simp only [resolve, invoke, Sem.run_bind, Sem.run_pure, Result.andThen]
        rw [← hr]
        have e1 : (#[ev r] ++ args.map ev)[0]? = some (ev r) := by rw [Array.getElem?_append_left (by simp)]; rfl
        have e2 : (#[ev r] ++ args.map ev).extract 1 (#[ev r] ++ args.map ev).size = (args.toList.map ev).toArray := by
          apply Array.ext'
          simp
          rw [List.take_of_length_le (by simp)]
        rw [← e2, e1]
      · rintro e w' ⟨v, rfl, hb, hv, _⟩
        exact ⟨v, rfl, hback v w' hv, hb⟩
  | value x =>
    have indirect : qcallv T (env x) (args.toList.map env) h k → Answers P w (Own O0 h ι) h ι (do let d ← resolve ev { callee := .value x, args, argTypes := ats } ty; invoke d.target d.args) k := by
      intro hk
      unfold qcallv at hk
      split at hk
      · rename_i f caps hx
        split at hk
        · rename_i C hC
          have hr := he x
          rw [hx] at hr
          obtain ⟨cs, hv, hcs⟩ := hr
          refine direct f C _ (args.map ev ++ cs) _ hC (by simpa using ALRep.append hargs hcs.al) hk ?_
          simp [resolve, invoke, hv, Deferred.ofValue]
        · exact hk.elim
      · rename_i dv hx
        have hr := he x
        rw [hx] at hr
        split at hk
        · rename_i C hC
          obtain ⟨y, hpre, hk', Oq, hO, hl, hback⟩ := qcon_spec ho hk (vs := ev x :: args.toList.map ev) ⟨_, _, rfl, hr, hargs⟩ hlt (R := fun _ _ => True)
          obtain ⟨f, args', hrun, hc⟩ := tok.cv C hC y hpre w Oq (ev x) (args.toList.map ev) hO hl
          refine ⟨_, hk', by simp [resAV_ids], .inr ⟨f, args', ?_, hc.mono ?_⟩⟩
          · rw [← hrun]
            have e2 : args.map ev = (args.toList.map ev).toArray := by apply Array.ext'; simp
            simp [resolve, e2]
          · rintro e w' ⟨v, rfl, hb, hv, _⟩
            exact ⟨v, rfl, hback v w' hv, hb⟩
        · split at hk
          · rename_i f caps
            split at hk
            · rename_i C hC
              obtain ⟨cs, hv, hcs⟩ := hr
              refine direct f C _ (args.map ev ++ cs) _ hC (by simpa using ALRep.append hargs hcs.al) hk ?_
              simp [resolve, invoke, hv, Deferred.ofValue]
            · exact hk.elim
          · exact hk.elim
      · exact hk.elim
    cases x with
    | func f =>
      simp only [qcall] at hk
      split at hk
      · rename_i C hC
        refine direct f C _ (args.map ev) _ hC (by simpa using hargs) hk ?_
        simp [resolve, invoke, hev, Deferred.ofValue]
      · exact hk.elim
    | _ => exact indirect hk

end
end Fw
