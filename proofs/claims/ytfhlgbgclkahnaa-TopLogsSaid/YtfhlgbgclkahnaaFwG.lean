/- The quiet operations are sound: comparisons, literals, calls. -/
import Derived.Test.YtfhlgbgclkahnaaFwF
set_option linter.unusedVariables false
set_option linter.unusedSimpArgs false
namespace Fw
open Go Go.RowKit

section
variable {P : Program} {T : Ctx} {w : World} {O : Nat → Prop} {h : Hp} {ι : Nat → Value} {base : Nat}

theorem equalIn_ptr (n : Nat) {t e : TypeId} (p : Option Addr) (hu : P.underlying t = some (.pointer e)) : (Op.equalIn (n + 1) t (.pointer p) (.pointer none)).run P w = .ok p.isNone w := by
  cases p <;> simp [Op.equalIn, run_underlying hu]
theorem equal_ptr {t e : TypeId} (p : Option Addr) (hu : P.underlying t = some (.pointer e)) : (Op.equal t (.pointer p) (.pointer none)).run P w = .ok p.isNone w := equalIn_ptr 9999 p hu
theorem equalIn_iface (n : Nat) {t t' : TypeId} {ms : Array (String × TypeId)} (u : Value) (hu : P.underlying t = some (.interface ms)) : (Op.equalIn (n + 1) t (.iface t' u) .nilIface).run P w = .ok false w := by
  simp [Op.equalIn, run_underlying hu]
theorem equal_iface {t t' : TypeId} {ms : Array (String × TypeId)} (u : Value) (hu : P.underlying t = some (.interface ms)) : (Op.equal t (.iface t' u) .nilIface).run P w = .ok false w := equalIn_iface 9999 u hu
theorem equalIn_func (n : Nat) {t : TypeId} {ps rs : Array TypeId} {va : Bool} (f : Fn) (a b : Array Value) (hu : P.underlying t = some (.func ps rs va)) : (Op.equalIn (n + 1) t (.func f a b) .nilFunc).run P w = .ok false w := by
  simp [Op.equalIn, run_underlying hu]
theorem equal_func {t : TypeId} {ps rs : Array TypeId} {va : Bool} (f : Fn) (a b : Array Value) (hu : P.underlying t = some (.func ps rs va)) : (Op.equal t (.func f a b) .nilFunc).run P w = .ok false w := equalIn_func 9999 f a b hu
theorem equalIn_func0 (n : Nat) {t : TypeId} {ps rs : Array TypeId} {va : Bool} (hu : P.underlying t = some (.func ps rs va)) : (Op.equalIn (n + 1) t .nilFunc .nilFunc).run P w = .ok true w := by
  simp [Op.equalIn, run_underlying hu]
theorem equal_func0 {t : TypeId} {ps rs : Array TypeId} {va : Bool} (hu : P.underlying t = some (.func ps rs va)) : (Op.equal t .nilFunc .nilFunc).run P w = .ok true w := equalIn_func0 9999 hu
theorem equalIn_slice0 (n : Nat) {t e : TypeId} (hu : P.underlying t = some (.slice e)) : (Op.equalIn (n + 1) t (.slice none 0 0) (.slice none 0 0)).run P w = .ok true w := by
  simp [Op.equalIn, run_underlying hu]
theorem equal_slice0 {t e : TypeId} (hu : P.underlying t = some (.slice e)) : (Op.equal t (.slice none 0 0) (.slice none 0 0)).run P w = .ok true w := equalIn_slice0 9999 hu

/-- Both comparisons come to an answer. -/
def Cmps (P : Program) (w : World) (t : Nat) (vx vy : Value) (b : Bool) : Prop :=
  ∀ xo yo : Operand, (do eqGuard .eql t xo yo vx vy; binOp .eql t vx vy : Sem Value).run P w = .ok (.bool b) w ∧
    (do eqGuard .neq t xo yo vx vy; binOp .neq t vx vy : Sem Value).run P w = .ok (.bool (!b)) w
theorem cmps_ptr {t e : TypeId} (p : Option Addr) (hu : P.underlying t = some (.pointer e)) : Cmps P w t (.pointer p) (.pointer none) p.isNone := by
  intro xo yo
  have hk := equal_ptr (P := P) (w := w) p hu
  constructor <;> cases p <;> simp [eqGuard, binOp] <;> simp_all
theorem cmps_iface {t t' : TypeId} {ms : Array (String × TypeId)} (u : Value) (hu : P.underlying t = some (.interface ms)) : Cmps P w t (.iface t' u) .nilIface false := by
  intro xo yo
  have hk := equal_iface (P := P) (w := w) (t' := t') u hu
  constructor <;> simp [eqGuard, binOp, hk]
theorem cmps_func {t : TypeId} {ps rs : Array TypeId} {va : Bool} (f : Fn) (a b : Array Value) (hu : P.underlying t = some (.func ps rs va)) : Cmps P w t (.func f a b) .nilFunc false := by
  intro xo yo
  have hk := equal_func (P := P) (w := w) f a b hu
  constructor <;> simp [eqGuard, binOp, hk]
theorem cmps_func0 {t : TypeId} {ps rs : Array TypeId} {va : Bool} (hu : P.underlying t = some (.func ps rs va)) : Cmps P w t .nilFunc .nilFunc true := by
  intro xo yo
  have hk := equal_func0 (P := P) (w := w) hu
  constructor <;> simp [eqGuard, binOp, hk]
theorem cmps_slice0 {t e : TypeId} (hu : P.underlying t = some (.slice e)) : Cmps P w t (.slice none 0 0) (.slice none 0 0) true := by
  intro xo yo
  have hk := equal_slice0 (P := P) (w := w) hu
  constructor <;> simp [eqGuard, binOp, hk]

theorem eqNil_spec {d : TypeDesc} {t : Nat} (hu : P.underlying t = some d) {x y : AV} {b : Bool} (h : eqNil (tdOf d) x y = some b) {vx vy : Value}
    (hx : ARep w O ι x vx) (hy : ARep w O ι y vy) : Cmps P w t vx vy b := by
  cases d with
  | pointer e =>
    simp only [tdOf] at h
    unfold eqNil at h
    split at h <;> (try (rename_i h1; cases h1; done)) <;> (try (cases h; done))
    · have hy' : vy = .pointer none := hy
      subst hy'
      have key := fun p => cmps_ptr (P := P) (w := w) (t := t) (e := e) p hu
      split at h <;> (try (cases h; done)) <;> injection h with h <;> subst h
      · obtain ⟨b, _, rfl⟩ := hx; exact key _
      · obtain ⟨b, n, c, _, rfl⟩ := hx; exact key _
      · obtain ⟨b, rfl, _⟩ := hx; exact key _
      · have hx' : vx = .pointer none := hx
        subst hx'; exact key _
  | interface ms =>
    simp only [tdOf] at h
    unfold eqNil at h
    split at h <;> (try (rename_i h1; cases h1; done)) <;> (try (cases h; done))
    · injection h with h
      subst h
      obtain ⟨u, rfl, _⟩ := hx
      have hy' : vy = .nilIface := hy
      subst hy'
      exact cmps_iface _ hu
  | func ps rs v =>
    simp only [tdOf] at h
    unfold eqNil at h
    split at h <;> (try (rename_i h1; cases h1; done)) <;> (try (cases h; done))
    · have hy' : vy = .nilFunc := hy
      subst hy'
      split at h <;> (try (cases h; done)) <;> injection h with h <;> subst h
      · obtain ⟨b, rfl, _⟩ := hx; exact cmps_func _ _ _ hu
      · obtain ⟨b, rfl, _⟩ := hx; exact cmps_func _ _ _ hu
      · have hx' : vx = .nilFunc := hx
        subst hx'; exact cmps_func0 hu
  | slice e =>
    simp only [tdOf] at h
    unfold eqNil at h
    split at h <;> (try (rename_i h1; cases h1; done)) <;> (try (cases h; done))
    · injection h with h
      subst h
      have hx' : vx = .slice none 0 0 := hx
      have hy' : vy = .slice none 0 0 := hy
      subst hx' hy'
      exact cmps_slice0 hu
  | _ => simp [tdOf, eqNil] at h

theorem q_bin (tt : ∀ t i, look T.tt t = some i → mkTI P t = some i) {op : BinOp} {t : Nat} {x y : AV} {xo yo : Operand} {vx vy : Value} {k : AV → Prop}
    (hx : ARep w O ι x vx) (hy : ARep w O ι y vy) (hk : qbin T op t x y k) :
    Yields P w O h ι (do eqGuard op t xo yo vx vy; binOp op t vx vy) k := by
  unfold qbin at hk
  split at hk
  · rename_i kd a kd' b
    have hx' : vx = .int kd a := hx
    have hy' : vy = .int kd' b := hy
    subst hx' hy'
    cases hb : (isShift op || ikb kd kd') with
    | false => rw [hb] at hk; exact hk.elim
    | true =>
      rw [hb] at hk
      simp only [cond_true] at hk
      obtain ⟨d, v, h1, h2, h3⟩ := q_int (w := w) (O := O) (P := P) (t := t) hb hk
      refine Yields.data h1 (v := v) ?_ h2
      have hg : (eqGuard op t xo yo (.int kd a) (.int kd' b)).run P w = .ok () w := by
        unfold eqGuard
        cases op <;> simp
      simp [hg, h3]
  · rename_i a b
    have hx' : vx = .string a := hx
    have hy' : vy = .string b := hy
    subst hx' hy'
    have hg : (eqGuard op t xo yo (.string a) (.string b)).run P w = .ok () w := by
      unfold eqGuard
      cases op <;> simp
    split at hk
    · refine Yields.data hk.2 (v := .string (a ++ b)) ?_ rfl
      have : ¬ (((a.size + b.size : Nat) : Int) > IntKind.i64.max) := by
        have := hk.1
        simp [IntKind.max, IntKind.signed, IntKind.bits]; omega
      simp only [Sem.run_bind, hg, Result.andThen, binOp, Op.stringOp, this, if_false, Sem.run_pure]
    · exact Yields.data hk (v := .bool _) (by simp [hg, binOp, Op.stringOp]) rfl
    · exact Yields.data hk (v := .bool _) (by simp [hg, binOp, Op.stringOp]) rfl
    · exact hk.elim
  · split at hk
    · rename_i i hs
      obtain ⟨inf, d, z, h1, h2, h3, h4, h5, h6, h7⟩ := mkTI_spec (tt _ _ hs)
      split at hk
      · rename_i a b hd _ _
        have hx' : vx = .bool a := hx
        have hy' : vy = .bool b := hy
        subst hx' hy'
        have hg : (eqGuard op t xo yo (.bool a) (.bool b)).run P w = .ok () w := by
          unfold eqGuard
          cases op <;> simp
        have hdb : d = .bool := by
          rw [hd] at h6
          cases d <;> simp [tdOf] at h6; rfl
        subst hdb
        have he := run_equal_bool (P := P) w t a b h2
        split at hk
        · exact Yields.data hk (v := .bool _) (by simp [hg, binOp, he]) rfl
        · exact Yields.data hk (v := .bool _) (by simp [hg, binOp, he]) rfl
        · exact hk.elim
      · rw [← h6] at hk
        split at hk
        · rename_i b he
          exact Yields.data hk (v := .bool b) (eqNil_spec (P := P) h2 he hx hy xo yo).1 rfl
        · rename_i b he
          exact Yields.data hk (v := .bool (!b)) (eqNil_spec (P := P) h2 he hx hy xo yo).2 rfl
        · exact hk.elim
    · exact hk.elim


/-! ### Literals -/
def spl (vs : List Value) (off : Nat) (us : List Value) : List Value := vs.take off ++ us ++ vs.drop (off + us.length)

theorem spl_nil (vs : List Value) (off : Nat) : spl vs off [] = vs := by simp [spl]
theorem spl_length {vs : List Value} {off : Nat} {us : List Value} (h : off + us.length ≤ vs.length) : (spl vs off us).length = vs.length := by simp [spl]; omega
theorem spl_cons {vs : List Value} {off : Nat} {u : Value} {us : List Value} (h : off + us.length + 1 ≤ vs.length) : spl (vs.set off u) (off + 1) us = spl vs off (u :: us) := by
  refine List.ext_getElem? fun i => ?_
  simp only [spl, List.length_cons, List.getElem?_append, List.getElem?_take, List.getElem?_drop, List.getElem?_set, List.length_append, List.length_take, List.length_set]
  have e1 : min (off + 1) vs.length = off + 1 := by omega
  have e2 : min off vs.length = off := by omega
  rw [e1, e2]
  rcases Nat.lt_trichotomy i off with h1 | h1 | h1
  · simp [show i < off + 1 + us.length by omega, show i < off + 1 by omega, show i < off + (us.length + 1) by omega, h1, show off ≠ i by omega]
  · subst h1
    simp [show i < i + 1 + us.length by omega, show i < i + (us.length + 1) by omega, show i < vs.length by omega]
  · by_cases h2 : i < off + 1 + us.length
    · have e3 : i - off = (i - (off + 1)) + 1 := by omega
      simp [h2, show ¬ i < off + 1 by omega, show i < off + (us.length + 1) by omega, show ¬ i < off by omega, e3]
    · simp [h2, show ¬ i < off + (us.length + 1) by omega, show off ≠ off + 1 + us.length + (i - (off + 1 + us.length)) by omega]
      congr 1
      omega

theorem fold_spl : ∀ (us : List Value) (k off : Nat) (cells : Array Value), off + k + us.length ≤ cells.size →
    ((us.zipIdx k).foldl (fun (cs : Array Value) (c : Value × Nat) => cs.setIfInBounds (off + c.2) c.1) cells).toList = spl cells.toList (off + k) us
  | [], k, off, cells, _ => by simp [spl_nil]
  | u :: us, k, off, cells, h => by
    simp only [List.zipIdx_cons, List.foldl_cons]
    rw [fold_spl us (k + 1) off _ (by simp at h ⊢; omega)]
    rw [Array.toList_setIfInBounds, ← Nat.add_assoc]
    exact spl_cons (by simp at h ⊢; omega)

theorem LRep.splice {ds es : List D} {vs us : List Value} (h : LRep w O ds vs) (k : LRep w O es us) (off : Nat) :
    LRep w O (ds.take off ++ es ++ ds.drop (off + es.length)) (spl vs off us) := by
  unfold spl
  rw [k.length]
  exact ((h.take off).append k).append (h.drop _)

theorem D.cells_rep {d : D} {v : Value} (h : VRep w O d v) (hn : ∀ a, v = .agg a → ∃ cs, d = .agg cs) : LRep w O d.cells v.cells.toList := by
  cases d with
  | agg cs => obtain ⟨vs, rfl, h2⟩ := h; exact h2
  | _ =>
    have e : v.cells = #[v] := by
      cases v <;> try rfl
      obtain ⟨cs, hc⟩ := hn _ rfl
      cases hc
    rw [e]
    exact ⟨v, [], rfl, h, rfl⟩

theorem solid_agg {d : D} {v : Value} (h : VRep w O d v) (hs : d.solid = true) : ∀ a, v = .agg a → ∃ cs, d = .agg cs := by
  intro a ha
  subst ha
  cases d with
  | agg cs => exact ⟨cs, rfl⟩
  | slc f t xs => obtain ⟨⟨a, c, h1, _⟩, _⟩ := h; cases h1
  | iface t d => obtain ⟨u, h1, _⟩ := h; cases h1
  | rptr cs => obtain ⟨u, h1, _⟩ := h; cases h1
  | clo f cs => obtain ⟨u, h1, _⟩ := h; cases h1
  | val u => have h' : Value.agg a = u := h; subst h'; simp [D.solid] at hs
  | top => simp [D.solid] at hs
  | _ => cases h

theorem D.cells_solid {d : D} {v : Value} (h : VRep w O d v) (hs : d.solid = true) : LRep w O d.cells v.cells.toList := D.cells_rep h (solid_agg h hs)

theorem fill_spec {pl : List (Nat × Nat)} {places : Nat → Option (Nat × Nat)} (hpl : ∀ i p, pl[i]? = some p → places i = some p) : ∀ (ps : List (Nat × D)) (vs : List (Nat × Value)) (cs cs' : List D) (cells : Array Value),
    fillD pl cs ps = some cs' → LRep w O cs cells.toList → (ps.length = vs.length ∧ ∀ (i : Nat) (p : Nat × D) (q : Nat × Value), ps[i]? = some p → vs[i]? = some q → p.1 = q.1 ∧ VRep w O p.2 q.2) →
    ∃ cells', Instr.fill places cells vs = some cells' ∧ LRep w O cs' cells'.toList
  | [], vs, cs, cs', cells, h, hl, hp => by
    have : vs = [] := List.eq_nil_of_length_eq_zero hp.1.symm
    subst this
    simp only [fillD, Option.some.injEq] at h
    subst h
    exact ⟨cells, rfl, hl⟩
  | (i, d) :: ps, vs, cs, cs', cells, h, hl, hp => by
    cases vs with
    | nil => simp at hp
    | cons q vs =>
      obtain ⟨h1, h2⟩ := hp.2 0 _ _ rfl rfl
      obtain ⟨i', v⟩ := q
      simp only at h1 h2
      subst h1
      simp only [fillD] at h
      cases hi : pl[i]? with
      | none => rw [hi] at h; cases h
      | some p =>
        obtain ⟨off, sz⟩ := p
        rw [hi] at h
        simp only at h
        cases hc : (d.solid && Nat.beq d.cells.length sz && Nat.ble (off + d.cells.length) cs.length) with
        | false => rw [hc] at h; cases h
        | true =>
          rw [hc] at h
          simp only [cond_true] at h
          simp only [Bool.and_eq_true] at hc
          have hsz := Nat.eq_of_beq_eq_true hc.1.2
          have hle := Nat.le_of_ble_eq_true hc.2
          rw [splice_eq] at h
          have hdc := D.cells_solid h2 hc.1.1
          have hlen : v.cells.size = d.cells.length := by have := hdc.length; simpa using this
          have hcl : cells.size = cs.length := by have := hl.length; simpa using this
          have hf : (v.cells.zipIdx.foldl (fun cs (c, j) => cs.setIfInBounds (off + j) c) cells).toList = spl cells.toList off v.cells.toList := by
            have := fold_spl v.cells.toList 0 off cells (by simp; omega)
            rw [← Array.foldl_toList, Array.toList_zipIdx]
            simpa using this
          have hl' : LRep w O (cs.take off ++ d.cells ++ cs.drop (off + d.cells.length)) (v.cells.zipIdx.foldl (fun cs (c, j) => cs.setIfInBounds (off + j) c) cells).toList := by
            rw [hf]; exact hl.splice hdc off
          obtain ⟨cells', e1, e2⟩ := fill_spec hpl ps vs _ cs' _ h hl' ⟨by simpa using hp.1, fun j p q hj hq => hp.2 (j + 1) p q (by simpa using hj) (by simpa using hq)⟩
          refine ⟨cells', ?_, e2⟩
          unfold Instr.fill
          simp only [hpl _ _ hi]
          have hno : ¬ (v.cells.size ≠ sz ∨ off + v.cells.size > cells.size) := by
            rw [hlen, hcl, ← hsz]; omega
          rw [if_neg (by simpa using hno)]
          simpa using e1

theorem partsD_spec {env : Operand → AV} {ev : Operand → Value} (he : ∀ x, ARep w O ι (env x) (ev x)) : ∀ (ps : List (Nat × Operand)) (ds : List (Nat × D)), partsD (ps.map fun p => (p.1, env p.2)) = some ds →
    ds.length = ps.length ∧ ∀ (i : Nat) (p : Nat × D) (q : Nat × Value), ds[i]? = some p → (ps.map fun p => (p.1, ev p.2))[i]? = some q → p.1 = q.1 ∧ VRep w O p.2 q.2
  | [], ds, h => by simp [partsD] at h; subst h; exact ⟨rfl, fun i p q h => by simp at h⟩
  | (i, x) :: ps, ds, h => by
    simp only [List.map_cons] at h
    cases hx : env x with
    | d y =>
      rw [hx] at h
      simp only [partsD] at h
      cases hr : partsD (ps.map fun p => (p.1, env p.2)) with
      | none => rw [hr] at h; cases h
      | some r =>
        rw [hr] at h
        injection h with h
        subst h
        obtain ⟨h1, h2⟩ := partsD_spec he ps r hr
        refine ⟨by simp [h1], fun j p q hj hq => ?_⟩
        cases j with
        | zero =>
          simp at hj hq
          subst hj hq
          have := he x
          rw [hx] at this
          exact ⟨rfl, this⟩
        | succ j => exact h2 j p q (by simpa using hj) (by simpa using hq)
    | _ => rw [hx] at h; simp [partsD] at h

theorem sizesF_spec (tt : ∀ t i, look T.tt t = some i → mkTI P t = some i) : ∀ (fa : List Field) (pl : List (Nat × Nat)), sizesF T.tt (fa.map fun f => (f.offset, f.type)) = some pl →
    fa.mapM (fun f => (P.info? f.type).map fun i => (f.offset, i.size)) = some pl
  | [], pl, h => by simp [sizesF] at h; subst h; rfl
  | f :: fa, pl, h => by
    simp only [List.map_cons, sizesF] at h
    cases hi : look T.tt f.type with
    | none => rw [hi] at h; cases h
    | some i =>
      cases hr : sizesF T.tt (fa.map fun f => (f.offset, f.type)) with
      | none => rw [hi, hr] at h; cases h
      | some r =>
        rw [hi, hr] at h
        injection h with h
        subst h
        obtain ⟨inf, g1, g2, g3, _⟩ := info_of (tt _ _ hi)
        have := sizesF_spec tt fa r hr
        simp [List.mapM_cons, g1, this, g2]

theorem q_build (tt : ∀ t i, look T.tt t = some i → mkTI P t = some i) {env : Operand → AV} {ev : Operand → Value} (he : ∀ x, ARep w O ι (env x) (ev x)) {t : Nat} {parts : Array (Nat × Operand)} {k : AV → Prop}
    (hk : qbuild T t (parts.toList.map fun p => (p.1, env p.2)) k) : Yields P w O h ι (Instr.build t (parts.map fun (i, x) => (i, ev x))) k := by
  unfold qbuild at hk
  split at hk
  · rename_i i hs
    obtain ⟨inf, d, z, h1, h2, h3, h4, h5, h6, h7⟩ := mkTI_spec (tt _ _ hs)
    split at hk
    · rename_i fs hd
      rw [hd] at h6
      obtain ⟨fa, rfl, hfs⟩ := tdOf_struct h6
      subst hfs
      split at hk
      · rename_i ds hds
        split at hk
        · rename_i pl hpl
          split at hk
          · rename_i cs hcs
            obtain ⟨p1, p2⟩ := partsD_spec he _ _ hds
            have hz : LRep w O i.zero z.cells.toList := by rw [← h7]; exact constDs_rep w O _
            obtain ⟨cells, c1, c2⟩ := fill_spec (w := w) (O := O) (pl := pl) (places := (pl.toArray[·]?)) (fun i p h => by simpa using h) ds (parts.toList.map fun p => (p.1, ev p.2)) i.zero cs z.cells hcs hz ⟨by simp [p1], p2⟩
            refine Yields.data hk (v := .agg cells) (run_build w t _ cells ?_) ⟨cells, rfl, c2⟩
            unfold Program.built
            have hm := sizesF_spec (P := P) tt _ _ hpl
            simp only [h1, h2, h3, hm]
            rw [show (parts.map fun (i, x) => (i, ev x)).toList = parts.toList.map fun p => (p.1, ev p.2) by simp]
            exact c1
          · exact hk.elim
        · exact hk.elim
      · exact hk.elim
    · rename_i n e hd
      rw [hd] at h6
      have hd' := tdOf_array h6
      subst hd'
      split at hk
      · rename_i ds hds
        split at hk
        · rename_i ie hie
          split at hk
          · rename_i cs hcs
            obtain ⟨p1, p2⟩ := partsD_spec he _ _ hds
            have hz : LRep w O i.zero z.cells.toList := by rw [← h7]; exact constDs_rep w O _
            obtain ⟨infe, g1, g2, g3, _⟩ := info_of (tt _ _ hie)
            obtain ⟨cells, c1, c2⟩ := fill_spec (w := w) (O := O) (places := fun j => some (j * infe.size, infe.size)) (fun j p hj => by
              rw [List.getElem?_map] at hj
              rcases Nat.lt_or_ge j n with hlt | hge
              · rw [List.getElem?_range hlt] at hj
                simp only [Option.map_some, Option.some.injEq] at hj
                rw [← hj, g2]
              · rw [List.getElem?_eq_none (by simpa using hge)] at hj
                cases hj) ds (parts.toList.map fun p => (p.1, ev p.2)) i.zero cs z.cells hcs hz ⟨by simp [p1], p2⟩
            refine Yields.data hk (v := .agg cells) (run_build w t _ cells ?_) ⟨cells, rfl, c2⟩
            unfold Program.built
            simp only [h1, h2, h3, g1]
            rw [show (parts.map fun (i, x) => (i, ev x)).toList = parts.toList.map fun p => (p.1, ev p.2) by simp]
            exact c1
          · exact hk.elim
        · exact hk.elim
      · exact hk.elim
    · exact hk.elim
  · exact hk.elim

end
end Fw
