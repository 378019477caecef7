/- How a state of the small machine stands for a frame and a world; the quiet operations are sound. -/
import Derived.Test.YtfhlgbgclkahnaaFwC
set_option linter.unusedVariables false
set_option linter.unusedSimpArgs false
namespace Fw
open Go Go.RowKit

/-! ### The table -/
theorem mkTI_spec {P : Program} {t : Nat} {i : TInf} (h : mkTI P t = some i) :
    ∃ inf d z, P.info? t = some inf ∧ P.underlying t = some d ∧ inf.zero = some z ∧ inf.size = i.size ∧ inf.bytes = i.bytes ∧ tdOf d = i.desc ∧ z.cells.toList.map constD0 = i.zero := by
  unfold mkTI at h
  split at h
  · rename_i inf hi
    split at h
    · rename_i d hd
      split at h
      · rename_i z hz
        cases hb : Nat.beq z.cells.size inf.size with
        | false => rw [hb] at h; cases h
        | true =>
          rw [hb] at h
          injection h with h
          subst h
          exact ⟨inf, d, z, hi, hd, hz, rfl, rfl, rfl, rfl⟩
      · cases h
    · cases h
  · cases h
theorem mkTI_zero {P : Program} {t : Nat} {i : TInf} (h : mkTI P t = some i) {inf : TypeInfo} {z : Value} (h1 : P.info? t = some inf) (h2 : inf.zero = some z) : z.cells.size = inf.size := by
  unfold mkTI at h
  rw [h1] at h
  simp only [h2] at h
  split at h
  · cases hb : Nat.beq z.cells.size inf.size with
    | false => rw [hb] at h; cases h
    | true => exact Nat.eq_of_beq_eq_true hb
  · cases h

theorem tdOf_slice {d : TypeDesc} {e : Nat} (h : tdOf d = .slice e) : d = .slice e := by
  cases d <;> simp [tdOf] at h; subst h; rfl
theorem tdOf_str {d : TypeDesc} (h : tdOf d = .str) : d = .string := by
  cases d <;> simp [tdOf] at h; rfl
theorem tdOf_int {d : TypeDesc} {k : IntKind} (h : tdOf d = .int k) : d = .int k := by
  cases d <;> simp [tdOf] at h; subst h; rfl
theorem tdOf_struct {d : TypeDesc} {fs : List (Nat × Nat)} (h : tdOf d = .struct fs) : ∃ fa : Array Field, d = .struct fa ∧ fs = fa.toList.map fun f => (f.offset, f.type) := by
  cases d <;> simp [tdOf] at h; exact ⟨_, rfl, h.symm⟩
theorem tdOf_array {d : TypeDesc} {n e : Nat} (h : tdOf d = .array n e) : d = .array n e := by
  cases d <;> simp [tdOf] at h; obtain ⟨rfl, rfl⟩ := h; rfl
theorem tdOf_agg {d : TypeDesc} : (tdOf d).agg = (match d with | .struct _ | .array _ _ => true | _ => false) := by
  cases d <;> rfl

/-! ### Addresses -/
theorem add_add (a : Addr) (i j : Nat) : (a.add i).add j = a.add (i + j) := by
  unfold Addr.add
  by_cases hi : i = 0
  · subst hi; simp
  · by_cases hj : j = 0
    · subst hj; simp [hi]
    · have : i + j ≠ 0 := by omega
      simp [hi, hj, this]; omega
theorem add_zero' (a : Addr) : a.add 0 = a := by simp [Addr.add]
theorem add_block (a : Addr) (i : Nat) : (a.add i).block = a.block := by unfold Addr.add; split <;> rfl
theorem add_plain (g i j : Nat) : (⟨g, i, none⟩ : Addr).add j = ⟨g, i + j, none⟩ := by
  unfold Addr.add
  split
  · rename_i h; subst h; rfl
  · rfl

/-! ### Cells of elements -/
theorem cells_length : ∀ (t : Ty) (x : t.El), (t.cells x).length = t.size
  | .int _, _ => rfl
  | .bool, _ => rfl
  | .str, _ => rfl
  | .slc _, _ => rfl
  | .pair a b, x => by simp [Ty.cells, Ty.size, cells_length a, cells_length b]
  | .unit, _ => rfl

theorem SRep.of_slice {w : World} {O : Nat → Prop} {t : Ty} {xs : List t.El} {v : Value} (h : ∃ a c, v = .slice a xs.length c ∧ xs.length ≤ c ∧
      (0 < xs.length → ∃ ad, a = some ad ∧ ∀ j (h : j < xs.length), ERep w O t xs[j] (fun i u => Rd w O (ad.add i) u) (j * t.size))) : SRep w O t xs v := h

/-- An element is the list of its cells, wherever it is read. -/
theorem ERep.cells {w : World} {O : Nat → Prop} : ∀ (t : Ty) (x : t.El) (f : Nat → Value → Prop) (i : Nat), ERep w O t x f i →
    ∃ us, LRep w O (t.cells x) us ∧ ∀ j u, us[j]? = some u → f (i + j) u
  | .int k, n, f, i, h => ⟨[.int k n], ⟨_, [], rfl, rfl, rfl⟩, fun j u hu => by
      cases j with
      | zero => simp at hu; subst hu; exact h
      | succ j => simp at hu⟩
  | .bool, n, f, i, h => ⟨[.bool n], ⟨_, [], rfl, rfl, rfl⟩, fun j u hu => by
      cases j with
      | zero => simp at hu; subst hu; exact h
      | succ j => simp at hu⟩
  | .str, n, f, i, h => ⟨[.string n], ⟨_, [], rfl, rfl, rfl⟩, fun j u hu => by
      cases j with
      | zero => simp at hu; subst hu; exact h
      | succ j => simp at hu⟩
  | .slc t, xs, f, i, ⟨a, c, h1, h2, h3⟩ => ⟨[.slice a xs.length c], ⟨_, [], rfl, ⟨⟨a, c, rfl, h2, h3⟩, fun h => by cases h⟩, rfl⟩, fun j u hu => by
      cases j with
      | zero => simp at hu; subst hu; exact h1
      | succ j => simp at hu⟩
  | .pair a b, x, f, i, ⟨h1, h2⟩ => by
    obtain ⟨us, k1, k2⟩ := ERep.cells a x.1 f i h1
    obtain ⟨ws, l1, l2⟩ := ERep.cells b x.2 f (i + a.size) h2
    have hl : us.length = a.size := by rw [k1.length, cells_length]
    refine ⟨us ++ ws, k1.append l1, fun j u hu => ?_⟩
    rcases Nat.lt_or_ge j us.length with hj | hj
    · rw [List.getElem?_append_left hj] at hu; exact k2 j u hu
    · rw [List.getElem?_append_right hj] at hu
      have := l2 _ u hu
      rw [hl] at this hj
      have e : i + a.size + (j - a.size) = i + j := by omega
      rw [e] at this; exact this
  | .unit, _, f, i, _ => ⟨[], rfl, fun j u hu => by simp at hu⟩

theorem LRep.prep {w : World} {O : Nat → Prop} : ∀ {ds : List D} {us : List Value} {ad : Addr} {i : Nat}, LRep w O ds us → (∀ j u, us[j]? = some u → Rd w O (ad.add (i + j)) u) → PRep w O ds ad i
  | [], _, _, _, _, _ => trivial
  | d :: ds, _, ad, i, ⟨u, us, h1, h2, h3⟩, h => by
    subst h1
    refine ⟨⟨u, by simpa using h 0 u rfl, h2⟩, LRep.prep h3 fun j v hv => ?_⟩
    have := h (j + 1) v (by simpa using hv)
    have e : i + (j + 1) = i + 1 + j := by omega
    rw [e] at this; exact this
theorem PRep.lrep {w : World} {O : Nat → Prop} : ∀ {ds : List D} {ad : Addr} {i : Nat}, PRep w O ds ad i → ∃ us, LRep w O ds us ∧ ∀ j u, us[j]? = some u → Rd w O (ad.add (i + j)) u
  | [], _, _, _ => ⟨[], rfl, fun j u h => by simp at h⟩
  | d :: ds, ad, i, ⟨⟨u, h1, h2⟩, h3⟩ => by
    obtain ⟨us, k1, k2⟩ := PRep.lrep h3
    refine ⟨u :: us, ⟨u, us, rfl, h2, k1⟩, fun j v hv => ?_⟩
    cases j with
    | zero => simp at hv; subst hv; simpa using h1
    | succ j =>
      have := k2 j v (by simpa using hv)
      have e : i + 1 + j = i + (j + 1) := by omega
      rw [e] at this; exact this
theorem PRep.drop {w : World} {O : Nat → Prop} {ds : List D} {ad : Addr} {i : Nat} (h : PRep w O ds ad i) (n : Nat) : PRep w O (ds.drop n) (ad.add n) i := by
  obtain ⟨us, k1, k2⟩ := h.lrep
  refine (k1.drop n).prep fun j u hu => ?_
  rw [List.getElem?_drop] at hu
  have := k2 _ u hu
  rw [add_add]
  have e : n + (i + j) = i + (n + j) := by omega
  rw [e]; exact this

/-- Out of cells: an element. -/
theorem ofCells_spec {w : World} {O : Nat → Prop} : ∀ (t : Ty) (ds r : List D) (x : t.El) (vs : List Value), t.ofCells ds = some (x, r) → LRep w O ds vs →
    ∃ us ws, vs = us ++ ws ∧ us.length = t.size ∧ ERep w O t x (lat us) 0 ∧ LRep w O r ws
  | .int k, ds, r, x, vs, h, hl => by
    cases ds with
    | nil => simp [Ty.ofCells] at h
    | cons d ds =>
      cases d <;> simp only [Ty.ofCells] at h <;> try (cases h; done)
      rename_i k' n
      cases hk : ikb k k' <;> rw [hk] at h
      · cases h
      · simp only [cond_true, Option.some.injEq, Prod.mk.injEq] at h
        obtain ⟨rfl, rfl⟩ := h
        obtain ⟨u, us, h1, h2, h3⟩ := hl
        have := ikb_eq hk
        subst this h1 h2
        exact ⟨[_], us, rfl, rfl, rfl, h3⟩
  | .bool, ds, r, x, vs, h, hl => by
    cases ds with
    | nil => simp [Ty.ofCells] at h
    | cons d ds =>
      cases d <;> simp only [Ty.ofCells] at h <;> try (cases h; done)
      simp only [Option.some.injEq, Prod.mk.injEq] at h
      obtain ⟨rfl, rfl⟩ := h
      obtain ⟨u, us, h1, h2, h3⟩ := hl
      subst h1 h2
      exact ⟨[_], us, rfl, rfl, rfl, h3⟩
  | .str, ds, r, x, vs, h, hl => by
    cases ds with
    | nil => simp [Ty.ofCells] at h
    | cons d ds =>
      cases d <;> simp only [Ty.ofCells] at h <;> try (cases h; done)
      simp only [Option.some.injEq, Prod.mk.injEq] at h
      obtain ⟨rfl, rfl⟩ := h
      obtain ⟨u, us, h1, h2, h3⟩ := hl
      subst h1 h2
      exact ⟨[_], us, rfl, rfl, rfl, h3⟩
  | .slc t, ds, r, x, vs, h, hl => by
    cases ds with
    | nil => simp [Ty.ofCells] at h
    | cons d ds =>
      cases d with
      | slc f t' xs =>
        simp only [Ty.ofCells] at h
        cases hc : castL t' t xs with
        | none => rw [hc] at h; cases h
        | some ys =>
          rw [hc] at h
          simp only [Option.some.injEq, Prod.mk.injEq] at h
          obtain ⟨rfl, rfl⟩ := h
          obtain ⟨e, rfl⟩ := castL_spec hc
          subst e
          obtain ⟨u, us, h1, h2, h3⟩ := hl
          subst h1
          obtain ⟨⟨a, c, h4, h5, h6⟩, _⟩ := h2
          subst h4
          exact ⟨[_], us, rfl, rfl, ⟨a, c, rfl, h5, h6⟩, h3⟩
      | val v =>
        cases v with
        | slice a n c =>
          cases a <;> cases n <;> cases c <;> simp [Ty.ofCells] at h
          obtain ⟨rfl, rfl⟩ := h
          obtain ⟨u, us, h1, h2, h3⟩ := hl
          subst h1 h2
          exact ⟨[_], us, rfl, rfl, ⟨none, 0, rfl, Nat.le_refl _, fun h => absurd h (by simp)⟩, h3⟩
        | _ => simp [Ty.ofCells] at h
      | _ => simp only [Ty.ofCells] at h; cases h
  | .pair a b, ds, r, x, vs, h, hl => by
    simp only [Ty.ofCells] at h
    cases ha : a.ofCells ds with
    | none => simp [ha] at h
    | some p =>
      obtain ⟨x1, r1⟩ := p
      rw [ha] at h
      simp only at h
      cases hb : b.ofCells r1 with
      | none => simp [hb] at h
      | some q =>
        obtain ⟨x2, r2⟩ := q
        rw [hb] at h
        simp only [Option.some.injEq, Prod.mk.injEq] at h
        obtain ⟨rfl, rfl⟩ := h
        obtain ⟨us, ws, e1, e2, e3, e4⟩ := ofCells_spec a ds r1 x1 vs ha hl
        obtain ⟨us', ws', f1, f2, f3, f4⟩ := ofCells_spec b r1 r2 x2 ws hb e4
        refine ⟨us ++ us', ws', by rw [e1, f1, List.append_assoc], by simp [e2, f2, Ty.size], ⟨?_, ?_⟩, f4⟩
        · refine ERep.imp (Keeps.refl w O) a x1 _ _ 0 0 (fun j u hj hu => ?_) e3
          simp only [lat, Nat.zero_add] at hu ⊢
          rw [List.getElem?_append_left (by omega)]; exact hu
        · refine ERep.imp (Keeps.refl w O) b x2 _ _ 0 _ (fun j u hj hu => ?_) f3
          simp only [lat, Nat.zero_add] at hu ⊢
          rw [List.getElem?_append_right (by omega), e2]
          have e : a.size + j - a.size = j := by omega
          rw [e]; exact hu
  | .unit, ds, r, x, vs, h, hl => by
    simp only [Ty.ofCells, Option.some.injEq, Prod.mk.injEq] at h
    obtain ⟨_, rfl⟩ := h
    exact ⟨[], vs, rfl, rfl, trivial, hl⟩

end Fw
