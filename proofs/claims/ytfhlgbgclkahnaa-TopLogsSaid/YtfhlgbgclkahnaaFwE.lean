/- How a state of the small machine stands for a frame and a world. -/
import Derived.Test.YtfhlgbgclkahnaaFwD
set_option linter.unusedVariables false
set_option linter.unusedSimpArgs false
namespace Fw
open Go Go.RowKit

def hblk : Value → Option Nat
  | .slice (some a) _ _ => some a.block
  | .pointer (some a) => some a.block
  | _ => none
def OwnB (h : Hp) (ι : Nat → Value) (b : Nat) : Prop := ∃ id, h id ≠ none ∧ hblk (ι id) = some b
def Own (O0 : Nat → Prop) (h : Hp) (ι : Nat → Value) (b : Nat) : Prop := O0 b ∨ OwnB h ι b

def ObjRep (w : World) (O : Nat → Prop) (base : Nat) : Obj → Value → Prop
  | .row e t xs, v => ∃ vs, w.ownsRow base e t.size v xs.length vs ∧ ∀ j (hj : j < xs.length), ERep w O t xs[j] (lat vs) (j * t.size)
  | .box cs, v => ∃ b vs e, v = .pointer (some ⟨b, 0, none⟩) ∧ base ≤ b ∧ w.heap[b]? = some (.cells vs e (0, 0)) ∧ LRep w O cs vs.toList

def capRep (w : World) (O : Nat → Prop) (ι : Nat → Value) : (D ⊕ (Nat × Nat)) → Value → Prop
  | .inl d, v => VRep w O d v
  | .inr (id, off), v => ∃ b, ι id = .pointer (some ⟨b, 0, none⟩) ∧ v = .pointer (some ⟨b, off, none⟩)
def capsRep (w : World) (O : Nat → Prop) (ι : Nat → Value) : List (D ⊕ (Nat × Nat)) → List Value → Prop
  | [], vs => vs = []
  | c :: cs, vs => ∃ u us, vs = u :: us ∧ capRep w O ι c u ∧ capsRep w O ι cs us

def ARep (w : World) (O : Nat → Prop) (ι : Nat → Value) : AV → Value → Prop
  | .d x, v => VRep w O x v
  | .own id, v => v = ι id
  | .ptr id off, v => ∃ b, ι id = .pointer (some ⟨b, 0, none⟩) ∧ v = .pointer (some ⟨b, off, none⟩)
  | .eptr id sz i off, v => ∃ b n c, ι id = .slice (some ⟨b, 0, none⟩) n c ∧ v = .pointer (some ⟨b, i.toNat * sz + off, none⟩)
  | .clo f caps, v => ∃ vs : Array Value, v = .func (.func f) #[] vs ∧ capsRep w O ι caps vs.toList
  | .tup l, v => ∃ vs : Array Value, v = .tuple vs ∧ LRep w O l vs.toList
def ALRep (w : World) (O : Nat → Prop) (ι : Nat → Value) : List AV → List Value → Prop
  | [], vs => vs = []
  | c :: cs, vs => ∃ u us, vs = u :: us ∧ ARep w O ι c u ∧ ALRep w O ι cs us

def capIds : List (D ⊕ (Nat × Nat)) → List Nat
  | [] => []
  | .inl _ :: l => capIds l
  | .inr (id, _) :: l => id :: capIds l
def AV.ids : AV → List Nat
  | .own id => [id]
  | .ptr id _ => [id]
  | .eptr id _ _ _ => [id]
  | .clo _ caps => capIds caps
  | _ => []

structure Rel (w0 : World) (O0 : Nat → Prop) (N : Nat) (A : AState) (ι : Nat → Value) (a : Act) (w : World) : Prop where
  below : Below w0.heap.size w0 w
  o0 : ∀ b, O0 b → b < w0.heap.size
  env : ∀ t, ARep w (Own O0 A.heap ι) ι (A.env t) (a.tmps.getD t undef)
  obj : ∀ id o, A.heap id = some o → ObjRep w (Own O0 A.heap ι) w0.heap.size o (ι id)
  dist : ∀ id id', A.heap id ≠ none → A.heap id' ≠ none → id ≠ id' → hblk (ι id) = none ∨ hblk (ι id) ≠ hblk (ι id')
  wf : ∀ t id, id ∈ (A.env t).ids → A.heap id ≠ none
  size : a.tmps.size = N
  defers : a.defers = []

/-! ### What stays -/
theorem Keeps.of_below {w w' : World} {O : Nat → Prop} (h : Below w.heap.size w w') : Keeps w O w' O :=
  ⟨fun b hb _ => h.block b hb, fun _ _ h => h⟩
theorem Keeps.weaken {w : World} {O O' : Nat → Prop} (h : ∀ b, O' b → O b) : Keeps w O w O' := ⟨fun _ _ _ => rfl, fun b _ hn ho => hn (h b ho)⟩
theorem Keeps.trans {w1 w2 w3 : World} {O1 O2 O3 : Nat → Prop} (h : Keeps w1 O1 w2 O2) (k : Keeps w2 O2 w3 O3) (hs : w1.heap.size ≤ w2.heap.size) : Keeps w1 O1 w3 O3 :=
  ⟨fun b hb hn => (k.same b (Nat.lt_of_lt_of_le hb hs) (h.out b hb hn)).trans (h.same b hb hn), fun b hb hn => k.out b (Nat.lt_of_lt_of_le hb hs) (h.out b hb hn)⟩

theorem capRep.keeps {w w' : World} {O O' : Nat → Prop} {ι : Nat → Value} (k : Keeps w O w' O') : ∀ (c : D ⊕ (Nat × Nat)) (v : Value), capRep w O ι c v → capRep w' O' ι c v
  | .inl d, _, h => VRep.keeps k d _ h
  | .inr _, _, h => h
theorem capsRep.keeps {w w' : World} {O O' : Nat → Prop} {ι : Nat → Value} (k : Keeps w O w' O') : ∀ (c : List (D ⊕ (Nat × Nat))) (vs : List Value), capsRep w O ι c vs → capsRep w' O' ι c vs
  | [], _, h => h
  | c :: cs, _, ⟨u, us, h1, h2, h3⟩ => ⟨u, us, h1, capRep.keeps k c _ h2, capsRep.keeps k cs _ h3⟩
theorem ARep.keeps {w w' : World} {O O' : Nat → Prop} {ι : Nat → Value} (k : Keeps w O w' O') : ∀ (x : AV) (v : Value), ARep w O ι x v → ARep w' O' ι x v
  | .d x, _, h => VRep.keeps k x _ h
  | .own _, _, h => h
  | .ptr _ _, _, h => h
  | .eptr .., _, h => h
  | .clo f caps, _, ⟨vs, h1, h2⟩ => ⟨vs, h1, capsRep.keeps k caps _ h2⟩
  | .tup l, _, ⟨vs, h1, h2⟩ => ⟨vs, h1, LRep.keeps k l _ h2⟩

theorem capRep.iota {w : World} {O : Nat → Prop} {ι ι' : Nat → Value} : ∀ (c : List (D ⊕ (Nat × Nat))) (vs : List Value), (∀ id ∈ capIds c, ι' id = ι id) → capsRep w O ι c vs → capsRep w O ι' c vs
  | [], _, _, h => h
  | .inl d :: cs, _, hi, ⟨u, us, h1, h2, h3⟩ => ⟨u, us, h1, h2, capRep.iota cs _ hi h3⟩
  | .inr (id, off) :: cs, _, hi, ⟨u, us, h1, ⟨b, h4, h5⟩, h3⟩ =>
    ⟨u, us, h1, ⟨b, by rw [hi id (by simp [capIds])]; exact h4, h5⟩, capRep.iota cs _ (fun i hi' => hi i (by simp [capIds, hi'])) h3⟩
theorem ARep.iota {w : World} {O : Nat → Prop} {ι ι' : Nat → Value} : ∀ (x : AV) (v : Value), (∀ id ∈ x.ids, ι' id = ι id) → ARep w O ι x v → ARep w O ι' x v
  | .d x, _, _, h => h
  | .own id, _, hi, h => by rw [show ARep w O ι' (.own id) _ ↔ _ = ι' id from Iff.rfl, hi id (by simp [AV.ids])]; exact h
  | .ptr id _, _, hi, ⟨b, h1, h2⟩ => ⟨b, by rw [hi id (by simp [AV.ids])]; exact h1, h2⟩
  | .eptr id .., _, hi, ⟨b, n, c, h1, h2⟩ => ⟨b, n, c, by rw [hi id (by simp [AV.ids])]; exact h1, h2⟩
  | .clo f caps, _, hi, ⟨vs, h1, h2⟩ => ⟨vs, h1, capRep.iota caps _ hi h2⟩
  | .tup l, _, _, h => h

/-! ### Contracts of calls -/
def FreshR (C : Con) (x : Ars C.args) (w w' : World) (O : Nat → Prop) (v : Value) : Prop :=
  ∀ e, C.fresh = some e → ∀ t xs, encs C.res (C.post x) = [.slc false t xs] →
    ∃ vs, w'.ownsRow w.heap.size e t.size v xs.length vs ∧ ∀ j (hj : j < xs.length), ERep w' O t xs[j] (lat vs) (j * t.size)
def CPost (C : Con) (x : Ars C.args) (w : World) (O : Nat → Prop) (e : Ending) (w' : World) : Prop :=
  ∃ v, e = .returned v ∧ Below w.heap.size w w' ∧ (∀ ι, ARep w' O ι (resAV (encs C.res (C.post x))) v) ∧ FreshR C x w w' O v

def Sound (P : Program) (f : FuncId) (C : Con) : Prop :=
  (∃ fn, P.funcs[f]? = some fn ∧ fn.body.isNone = false ∧ (fn.name == "runtime.NumGoroutine") = false) ∧
  ∀ x, C.pre x → ∀ (w : World) (O : Nat → Prop) (vs : Array Value), (∀ b, O b → b < w.heap.size) → LRep w O (encs C.args x) vs.toList →
    Calls P f vs w (CPost C x w O)
def SoundInv (P : Program) (name : String) (C : Con) : Prop :=
  ∀ x, C.pre x → ∀ (w : World) (O : Nat → Prop) (r : Value) (vs : List Value), (∀ b, O b → b < w.heap.size) → LRep w O (encs C.args x) (r :: vs) →
    ∃ f args', (callMethod r name vs.toArray).run P w = .ok (.enter f args') w ∧ Calls P f args' w (CPost C x w O)
def SoundCv (P : Program) (C : Con) : Prop :=
  ∀ x, C.pre x → ∀ (w : World) (O : Nat → Prop) (r : Value) (vs : List Value), (∀ b, O b → b < w.heap.size) → LRep w O (encs C.args x) (r :: vs) →
    ∃ f args', (do let d ← Deferred.ofValue r vs.toArray; invoke d.target d.args : Sem Next).run P w = .ok (.enter f args') w ∧ Calls P f args' w (CPost C x w O)

structure Tok (P : Program) (T : Ctx) : Prop where
  mixed : P.follows .mixedOrders = true
  tt : ∀ t i, look T.tt t = some i → mkTI P t = some i
  fs : ∀ f C, look T.fs f = some C → Sound P f C
  invs : ∀ n C, looks T.invs n = some C → SoundInv P n C
  cv : ∀ C, T.cv = some C → SoundCv P C

/-! ### Seen as data -/
theorem weakO {w : World} {O : Nat → Prop} {d : D} {v : Value} (h : VRep w O d v) : VRep w (fun _ => False) d v := VRep.keeps (Keeps.weaken fun _ h => h.elim) d v h

theorem row_srep {w : World} {O : Nat → Prop} {base e : Nat} {t : Ty} {xs : List t.El} {v : Value} {vs : List Value}
    (h : w.ownsRow base e t.size v xs.length vs) (he : ∀ j (hj : j < xs.length), ERep w O t xs[j] (lat vs) (j * t.size)) : SRep w (fun _ => False) t xs v := by
  rcases h.2 with ⟨rfl, h0⟩ | ⟨g, cap, cur, rfl, hg, hh, hnc, hcm, hcs, ht⟩
  · exact ⟨none, 0, by rw [h0], by omega, fun hp => by omega⟩
  · refine ⟨_, cap, rfl, hnc, fun hp => ⟨_, rfl, fun j hj => ?_⟩⟩
    refine ERep.imp (w := w) (O := O) (Keeps.weaken fun _ h => h.elim) t _ _ _ _ _ (fun i u hi hu => ?_) (he j hj)
    exact ⟨fun h => h, h.cells (g := g) rfl _ _ hu⟩

theorem box_prep {w : World} {O : Nat → Prop} {b : Nat} {vs : Array Value} {e : TypeId} {fr : Nat × Nat} {cs : List D} (h : w.heap[b]? = some (.cells vs e fr)) (hl : LRep w O cs vs.toList) (off : Nat) :
    PRep w (fun _ => False) (cs.drop off) ⟨b, off, none⟩ 0 := by
  have hl' := LRep.keeps (Keeps.weaken (w := w) (O := O) (O' := fun _ => False) fun _ h => h.elim) cs _ hl
  refine (hl'.drop off).prep fun j u hu => ⟨fun h => h, ?_⟩
  rw [List.getElem?_drop] at hu
  rw [add_plain]
  simp only [World.cell?, h, Nat.zero_add]
  simpa using hu

theorem optAll_cons {α : Type} {o : Option α} {l : List (Option α)} {xs : List α} (h : optAll (o :: l) = some xs) : ∃ x ys, o = some x ∧ optAll l = some ys ∧ xs = x :: ys := by
  cases o with
  | none => cases h
  | some x =>
    simp only [optAll] at h
    cases hl : optAll l with
    | none => rw [hl] at h; cases h
    | some ys => rw [hl] at h; simp at h; exact ⟨x, ys, rfl, rfl, h.symm⟩

theorem cap_view {w : World} {O : Nat → Prop} {h : Hp} {ι : Nat → Value} {base : Nat} (ho : ∀ id o, h id = some o → ObjRep w O base o (ι id)) :
    ∀ (caps : List (D ⊕ (Nat × Nat))) (cs : List D) (vs : List Value), optAll (caps.map (capD h)) = some cs → capsRep w O ι caps vs → LRep w (fun _ => False) cs vs
  | [], cs, vs, hc, hr => by simp [optAll] at hc; subst hc; exact hr
  | c :: caps, cs, _, hc, ⟨u, us, h1, h2, h3⟩ => by
    rw [List.map_cons] at hc
    obtain ⟨x, ys, e1, e2, e3⟩ := optAll_cons hc
    subst h1 e3
    refine ⟨u, us, rfl, ?_, cap_view ho caps ys us e2 h3⟩
    cases c with
    | inl d => simp [capD] at e1; subst e1; exact weakO h2
    | inr p =>
      obtain ⟨id, off⟩ := p
      obtain ⟨b, hb, rfl⟩ := h2
      simp only [capD] at e1
      cases hid : h id with
      | none => simp [hid] at e1
      | some o =>
        cases o with
        | row e t xs => simp [hid] at e1
        | box cs =>
          simp [hid] at e1
          subst e1
          obtain ⟨b', vs', e, h4, _, h5, h6⟩ := ho id _ hid
          rw [hb] at h4
          injection h4 with h4
          injection h4 with h4
          injection h4 with h4
          subst h4
          exact ⟨_, rfl, box_prep h5 h6 off⟩

/-- What is seen as data is so represented, for whoever shuts nothing out. -/
theorem view_rep {w : World} {O : Nat → Prop} {h : Hp} {ι : Nat → Value} {base : Nat} (ho : ∀ id o, h id = some o → ObjRep w O base o (ι id)) :
    ∀ {x : AV} {d : D} {v : Value}, viewD h x = some d → ARep w O ι x v → VRep w (fun _ => False) d v
  | .d x, d, v, hv, hr => by simp [viewD] at hv; subst hv; exact weakO hr
  | .own id, d, v, hv, hr => by
    simp only [viewD] at hv
    cases hid : h id with
    | none => simp [hid] at hv
    | some o =>
      cases o with
      | box cs => simp [hid] at hv
      | row e t xs =>
        simp [hid] at hv
        subst hv
        obtain ⟨vs, h1, h2⟩ := ho id _ hid
        have hr' : v = ι id := hr
        subst hr'
        exact ⟨row_srep h1 h2, fun h => by cases h⟩
  | .ptr id off, d, v, hv, hr => by
    simp only [viewD] at hv
    cases hid : h id with
    | none => simp [hid] at hv
    | some o =>
      cases o with
      | row e t xs => simp [hid] at hv
      | box cs =>
        simp [hid] at hv
        subst hv
        obtain ⟨b, hb, rfl⟩ := hr
        obtain ⟨b', vs', e, h4, _, h5, h6⟩ := ho id _ hid
        rw [hb] at h4
        injection h4 with h4
        injection h4 with h4
        injection h4 with h4
        subst h4
        exact ⟨_, rfl, box_prep h5 h6 off⟩
  | .eptr .., d, v, hv, hr => by simp [viewD] at hv
  | .clo f caps, d, v, hv, hr => by
    simp only [viewD] at hv
    cases hc : optAll (caps.map (capD h)) with
    | none => rw [hc] at hv; cases hv
    | some cs =>
      rw [hc] at hv
      injection hv with hv
      subst hv
      obtain ⟨vs, rfl, h2⟩ := hr
      exact ⟨vs, rfl, cap_view ho caps cs _ hc h2⟩
  | .tup l, d, v, hv, hr => by simp [viewD] at hv

theorem views_rep {w : World} {O : Nat → Prop} {h : Hp} {ι : Nat → Value} {base : Nat} (ho : ∀ id o, h id = some o → ObjRep w O base o (ι id)) :
    ∀ (xs : List AV) (ds : List D) (vs : List Value), optAll (xs.map (viewD h)) = some ds → ALRep w O ι xs vs → LRep w (fun _ => False) ds vs
  | [], ds, vs, hc, hr => by simp [optAll] at hc; subst hc; exact hr
  | c :: caps, cs, _, hc, ⟨u, us, h1, h2, h3⟩ => by
    rw [List.map_cons] at hc
    obtain ⟨x, ys, e1, e2, e3⟩ := optAll_cons hc
    subst h1 e3
    exact ⟨u, us, rfl, view_rep ho e1 h2, views_rep ho caps ys us e2 h3⟩
theorem views_data {w : World} {O : Nat → Prop} {h : Hp} {ι : Nat → Value} :
    ∀ (xs : List AV) (ds : List D) (vs : List Value), xs.all AV.isD = true → optAll (xs.map (viewD h)) = some ds → ALRep w O ι xs vs → LRep w O ds vs
  | [], ds, vs, _, hc, hr => by simp [optAll] at hc; subst hc; exact hr
  | c :: caps, cs, _, ha, hc, ⟨u, us, h1, h2, h3⟩ => by
    rw [List.map_cons] at hc
    obtain ⟨x, ys, e1, e2, e3⟩ := optAll_cons hc
    simp only [List.all_cons, Bool.and_eq_true] at ha
    subst h1 e3
    refine ⟨u, us, rfl, ?_, views_data caps ys us ha.2 e2 h3⟩
    cases c <;> simp [AV.isD] at ha
    simp [viewD] at e1
    subst e1
    exact h2

theorem fin_spec {α : Type} {o : Option (α × List D)} {x : α} (h : fin o = some x) : o = some (x, []) := by
  unfold fin at h
  split at h
  · injection h with h; subst h; rfl
  · cases h

theorem ERep.toD {w : World} {O : Nat → Prop} {t : Ty} {x : t.El} {v : Value} (ha : t.isAgg = false) (h : ERep w O t x (lat [v]) 0) : VRep w O (t.toD x) v := by
  cases t with
  | int k => simpa [ERep, lat, Ty.toD, VRep] using h
  | bool => simpa [ERep, lat, Ty.toD, VRep] using h
  | str => simpa [ERep, lat, Ty.toD, VRep] using h
  | slc t =>
    obtain ⟨a, c, h1, h2, h3⟩ := h
    simp only [lat, List.getElem?_cons_zero, Option.some.injEq] at h1
    exact ⟨⟨a, c, h1, h2, h3⟩, fun h => by cases h⟩
  | pair a b => cases ha
  | unit => cases ha

theorem toD_agg {t : Ty} (ha : t.isAgg = true) (x : t.El) : t.toD x = .agg (t.cells x) := by
  cases t <;> first | rfl | cases ha

theorem ERep.lrep {w : World} {O : Nat → Prop} {t : Ty} {x : t.El} {vs : List Value} (h : ERep w O t x (lat vs) 0) (hl : vs.length = t.size) : LRep w O (t.cells x) vs := by
  obtain ⟨us, k1, k2⟩ := ERep.cells t _ _ _ h
  have hlen : us.length = vs.length := by rw [k1.length, cells_length, hl]
  have : us = vs := by
    refine List.ext_getElem? fun i => ?_
    rcases Nat.lt_or_ge i us.length with hi | hi
    · have := k2 i us[i] (List.getElem?_eq_getElem hi)
      simp only [lat, Nat.zero_add] at this
      rw [this, List.getElem?_eq_getElem hi]
    · rw [List.getElem?_eq_none hi, List.getElem?_eq_none (by omega)]
  subst this
  exact k1

/-- Data of a type: in a cell or as cells. -/
theorem ofD_spec {w : World} {O : Nat → Prop} {t : Ty} {d : D} {x : t.El} {v : Value} (h : t.ofD d = some x) (hr : VRep w O d v) :
    VRep w O (t.toD x) v ∧ ∃ vs : List Value, vs = v.cells.toList ∧ vs.length = t.size ∧ ERep w O t x (lat vs) 0 := by
  unfold Ty.ofD at h
  cases ha : t.isAgg with
  | true =>
    rw [ha] at h
    cases d <;> simp only [cond_true] at h <;> try (cases h; done)
    rename_i cs
    obtain ⟨vs, rfl, h2⟩ := hr
    obtain ⟨us, ws, e1, e2, e3, e4⟩ := ofCells_spec t _ _ _ _ (fin_spec h) h2
    have ew : ws = [] := by simpa [LRep] using e4
    subst ew
    simp only [List.append_nil] at e1
    subst e1
    rw [toD_agg ha]
    exact ⟨⟨vs, rfl, e3.lrep e2⟩, vs.toList, rfl, e2, e3⟩
  | false =>
    rw [ha] at h
    simp only [cond_false] at h
    obtain ⟨us, ws, e1, e2, e3, e4⟩ := ofCells_spec t _ _ _ [v] (fin_spec h) ⟨v, [], rfl, hr, rfl⟩
    have ew : ws = [] := by simpa [LRep] using e4
    subst ew
    simp only [List.append_nil] at e1
    subst e1
    have hv := e3.toD ha
    refine ⟨hv, [v], ?_, e2, e3⟩
    cases t <;> simp [Ty.isAgg] at ha <;> simp [Ty.toD, VRep] at hv
    · subst hv; rfl
    · subst hv; rfl
    · subst hv; rfl
    · obtain ⟨a, c, rfl, _⟩ := hv; rfl

theorem dec_enc {w : World} {O : Nat → Prop} (a : Ar) (d : D) (x : a.El) (v : Value) (h : a.dec d = some x) (hr : VRep w O d v) : VRep w O (a.enc x) v := by
  cases a with
  | raw => simp only [Ar.dec, Option.some.injEq] at h; subst h; exact hr
  | ty t => exact (ofD_spec h hr).1
theorem decs_encs {w : World} {O : Nat → Prop} : ∀ (l : List Ar) (ds : List D) (x : Ars l) (vs : List Value), decs l ds = some x → LRep w O ds vs → LRep w O (encs l x) vs
  | [], [], x, vs, _, hr => hr
  | [], _ :: _, x, vs, h, _ => by simp [decs] at h
  | _ :: _, [], x, vs, h, _ => by simp [decs] at h
  | a :: l, d :: ds, x, vs, h, ⟨u, us, h1, h2, h3⟩ => by
    simp only [decs] at h
    cases hd : a.dec d with
    | none => rw [hd] at h; cases h
    | some y =>
      rw [hd] at h
      simp only at h
      cases hl : decs l ds with
      | none => rw [hl] at h; cases h
      | some ys =>
        rw [hl] at h
        injection h with h
        subst h
        exact ⟨u, us, h1, dec_enc a d y u hd h2, decs_encs l ds ys us hl h3⟩

/-- What has no memory in it is so represented whatever is shut out. -/
theorem scalar_rep {w : World} {O O' : Nat → Prop} : ∀ (l : List Ar) (x : Ars l) (vs : List Value), l.all Ar.scalar = true → LRep w O (encs l x) vs → LRep w O' (encs l x) vs
  | [], x, vs, _, h => h
  | a :: l, x, vs, hs, ⟨u, us, h1, h2, h3⟩ => by
    simp only [List.all_cons, Bool.and_eq_true] at hs
    refine ⟨u, us, h1, ?_, scalar_rep l x.2 us hs.2 h3⟩
    cases a with
    | raw => simp [Ar.scalar] at hs
    | ty t => cases t <;> simp [Ar.scalar] at hs <;> exact h2

/-- A contract's result, by whatever arguments. -/
theorem qcon_spec {w : World} {O0 : Nat → Prop} {h : Hp} {ι : Nat → Value} {base : Nat} (ho : ∀ id o, h id = some o → ObjRep w (Own O0 h ι) base o (ι id))
    {C : Con} {args : List AV} {vs : List Value} {k : AV → Prop} (hq : qcon C h args k) (hr : ALRep w (Own O0 h ι) ι args vs) (hlt : ∀ b, Own O0 h ι b → b < w.heap.size)
    {R : Ending → World → Prop} :
    ∃ x : Ars C.args, C.pre x ∧ k (resAV (encs C.res (C.post x))) ∧
      ∃ O : Nat → Prop, (∀ b, O b → b < w.heap.size) ∧ LRep w O (encs C.args x) vs ∧
        ∀ v w' , (∀ ι', ARep w' O ι' (resAV (encs C.res (C.post x))) v) → ARep w' (Own O0 h ι) ι (resAV (encs C.res (C.post x))) v := by
  unfold qcon at hq
  split at hq
  · rename_i ds hds
    split at hq
    · rename_i x hx
      cases hc : (args.all AV.isD || C.res.all Ar.scalar) with
      | false => rw [hc] at hq; exact hq.elim
      | true =>
        rw [hc] at hq
        simp only [cond_true] at hq
        refine ⟨x, hq.1, hq.2, ?_⟩
        simp only [Bool.or_eq_true] at hc
        by_cases hd : args.all AV.isD = true
        · exact ⟨Own O0 h ι, hlt, decs_encs _ _ _ _ hx (views_data args ds vs hd hds hr), fun v w' hv => hv ι⟩
        · refine ⟨fun _ => False, fun _ h => h.elim, decs_encs _ _ _ _ hx (views_rep ho args ds vs hds hr), fun v w' hv => ?_⟩
          have hs := hc.resolve_left hd
          have hv' := hv ι
          revert hv'
          have key := fun vs => scalar_rep (w := w') (O := fun _ => False) (O' := Own O0 h ι) C.res (C.post x) vs hs
          generalize encs C.res (C.post x) = l at key
          intro hv'
          cases l with
          | nil => obtain ⟨us, e1, e2⟩ := hv'; exact ⟨us, e1, key _ e2⟩
          | cons d l =>
            cases l with
            | nil =>
              obtain ⟨u, us, e, e1, e2⟩ := key [v] ⟨v, [], rfl, hv', rfl⟩
              injection e with e3 e4
              subst e3
              exact e1
            | cons d' l => obtain ⟨us, e1, e2⟩ := hv'; exact ⟨us, e1, key _ e2⟩
    · exact hq.elim
  · exact hq.elim

end Fw
