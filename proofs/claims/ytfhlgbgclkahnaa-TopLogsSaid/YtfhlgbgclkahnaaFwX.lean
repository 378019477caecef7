/- Regions and code are sound. -/
import Derived.Test.YtfhlgbgclkahnaaFwW
import Derived.LoopN
set_option linter.unusedVariables false
set_option linter.unusedSimpArgs false
namespace Fw
open Go Go.RowKit

section
variable {P : Program} {T : Ctx} {H : Hints}
variable {w0 w : World} {O0 : Nat → Prop} {N : Nat} {A : AState} {ι : Nat → Value} {a : Act}

theorem After.refl (R : Rel w0 O0 N A ι a w) (D : List Nat) : After w0 O0 N w (Own O0 A.heap ι) a D A a w :=
  ⟨ι, R, Keeps.refl _ _, Nat.le_refl _, fun _ _ => rfl⟩
theorem After.trans {O : Nat → Prop} {D D' : List Nat} {A1 A2 : AState} {ι1 : Nat → Value} {a1 a2 : Act} {w1 w2 : World}
    (K1 : Keeps w O w1 (Own O0 A1.heap ι1)) (S1 : w.heap.size ≤ w1.heap.size) (E1 : ∀ s, s ∉ D → a1.tmps.getD s undef = a.tmps.getD s undef)
    (k : After w0 O0 N w1 (Own O0 A1.heap ι1) a1 D' A2 a2 w2) (hd : ∀ d ∈ D', d ∈ D) : After w0 O0 N w O a D A2 a2 w2 := by
  obtain ⟨ι2, R2, K2, S2, E2⟩ := k
  exact ⟨ι2, R2, K1.trans K2 S1, Nat.le_trans S1 S2, fun s hs => (E2 s fun h => hs (hd s h)).trans (E1 s hs)⟩
theorem After.mono {O : Nat → Prop} {D D' : List Nat} {A1 : AState} {a1 : Act} {w1 : World} (h : After w0 O0 N w O a D A1 a1 w1) (hd : ∀ d ∈ D, d ∈ D') : After w0 O0 N w O a D' A1 a1 w1 := by
  obtain ⟨ι1, R1, K1, S1, E1⟩ := h
  exact ⟨ι1, R1, K1, S1, fun s hs => E1 s fun h => hs (hd s h)⟩

/-! ### Regions -/
theorem any_sound (tok : Tok P T) {ops : Array Oper} {D : List Nat} (hN : ∀ (i : Nat) o d, ops[i]? = some o → o.dst = some d → d < N ∧ d ∈ D)
    {Q : Exit → Act → World → Prop} {KA : AState → Prop} {w1 : World} {O1 : Nat → Prop} {a1 : Act}
    (hQ : ∀ A' a' w', KA A' → After w0 O0 N w1 O1 a1 D A' a' w' → Q .normal a' w') :
    ∀ (fuel : Nat) (listed : Array Bool) (A : AState) (a : Act) (w : World), aAny T H ops KA fuel listed A → After w0 O0 N w1 O1 a1 D A a w → wpAny P .any ops Q fuel listed a w
  | 0, listed, A, a, w, h, hA => ⟨h.1, hQ _ _ _ h.2 hA⟩
  | fuel + 1, listed, A, a, w, h, hA => by
    refine ⟨fun h0 => hQ _ _ _ (h.1 h0) hA, fun i hi => ?_⟩
    obtain ⟨_, o, ho, _⟩ := mem_ready.1 hi
    obtain ⟨e, g1, g2⟩ := gstep_iff.1 (h.2 i hi o ho)
    obtain ⟨ι, R, K, S, E⟩ := hA
    have key := ge_sound (P := P) (Q := Q) tok R (fun d hd => (hN i o d ho hd).1) g1 (K := wpAny P .any ops Q fuel (listed.setIfInBounds i true)) (fun a' w' haf =>
      any_sound tok hN hQ fuel _ _ a' w' g2 (After.trans K S E haf (fun d hd => (hN i o d ho (by cases hx : o.dst <;> simp_all)).2)))
    unfold wpOp
    rw [ho]
    simp only
    split
    · rename_i hw; rw [if_pos hw] at key; exact .inl key
    · rename_i hw; rw [if_neg hw] at key; exact key

theorem lex_sound (tok : Tok P T) {ops : Array Oper} {D : List Nat} (hN : ∀ (i : Nat) o d, ops[i]? = some o → o.dst = some d → d < N ∧ d ∈ D)
    {Q : Exit → Act → World → Prop} {KA : AState → Prop} {w1 : World} {O1 : Nat → Prop} {a1 : Act}
    (hQ : ∀ A' a' w', KA A' → After w0 O0 N w1 O1 a1 D A' a' w' → Q .normal a' w') :
    ∀ (l : List Oper) (k : Nat) (A : AState) (a : Act) (w : World), (∀ j, l[j]? = ops[k + j]?) → aops T H ops l A KA → After w0 O0 N w1 O1 a1 D A a w → wpOps P ops Q (List.range' k l.length) a w
  | [], k, A, a, w, hl, h, hA => hQ _ _ _ h hA
  | o :: l, k, A, a, w, hl, h, hA => by
    have ho : ops[k]? = some o := by simpa using (hl 0).symm
    obtain ⟨e, g1, g2⟩ := gstep_iff.1 h
    obtain ⟨ι, R, K, S, E⟩ := hA
    have key := ge_sound (P := P) (Q := Q) tok R (fun d hd => (hN k o d ho hd).1) g1 (K := wpOps P ops Q (List.range' (k + 1) l.length)) (fun a' w' haf =>
      lex_sound tok hN hQ l (k + 1) _ a' w' (fun j => by have := hl (j + 1); simpa [Nat.add_assoc, Nat.add_comm 1 j] using this) g2 (After.trans K S E haf (fun d hd => (hN k o d ho (by cases hx : o.dst <;> simp_all)).2)))
    rw [List.length_cons, List.range'_succ]
    simp only [wpOps, ho]
    split
    · rename_i hw; rw [if_pos hw] at key; exact .inl key
    · rename_i hw; rw [if_neg hw] at key; exact key

theorem blt_lt {a b : Nat} (h : Nat.blt a b = true) : a < b := by
  unfold Nat.blt at h
  exact Nat.le_of_ble_eq_true h
theorem dstsIn_spec {N : Nat} {o : Oper} {d : Nat} (hd : o.dst = some d) : ∀ {l : List Oper}, dstsIn N l = true → o ∈ l → d < N := by
  intro l
  induction l with
  | nil => intro _ hm; cases hm
  | cons o' l ih =>
    intro h hm
    unfold dstsIn at h
    rw [Bool.and_eq_true] at h
    rcases List.mem_cons.1 hm with rfl | hm
    · have h1 := h.1
      rw [hd] at h1
      exact blt_lt h1
    · exact ih h.2 hm

theorem Rel.drew (R : Rel w0 O0 N A ι a w) (n : Nat) : Rel w0 O0 N A ι a { w with drawn := n } := by
  have := R.set (dst := none) (av := .d .top) (v := undef) (w' := { w with drawn := n }) (fun _ h => by cases h) ⟨rfl, rfl, rfl, Nat.le_refl _, fun _ _ => rfl⟩ trivial (by simp [AV.ids])
  exact this

/-! ### Objects become data -/
theorem own_upd {h : Hp} {id b : Nat} (hb : Own O0 (upd h id none) ι b) : Own O0 h ι b := by
  rcases hb with hb | ⟨i, hi, hb⟩
  · exact .inl hb
  · refine .inr ⟨i, ?_, hb⟩
    rw [upd_eq] at hi
    split at hi
    · exact absurd rfl hi
    · exact hi

theorem Rel.free (R : Rel w0 O0 N A ι a w) {id b : Nat} (hb : hblk (ι id) = some b) (hid : A.heap id ≠ none) : ¬ Own O0 (upd A.heap id none) ι b := by
  rintro (h | ⟨i, hi, h⟩)
  · cases ho : A.heap id with
    | none => exact hid ho
    | some o =>
      have h1 := (obj_blk (R.obj id o ho) hb).1
      have h2 := R.o0 b h
      omega
  · rw [upd_eq] at hi
    split at hi
    · exact absurd rfl hi
    · rename_i hne
      rcases R.dist i id hi hid hne with h1 | h1
      · rw [h1] at h; cases h
      · rw [h, hb] at h1; exact h1 rfl

theorem Rel.freeze1 (R : Rel w0 O0 N A ι a w) (id : Nat) : Rel w0 O0 N (freeze1 A id) ι a w ∧ ∀ b, Own O0 (freeze1 A id).heap ι b → Own O0 A.heap ι b := by
  unfold Fw.freeze1
  cases hid : A.heap id with
  | none => exact ⟨R, fun _ h => h⟩
  | some o =>
    have hsub : ∀ b, Own O0 (upd A.heap id none) ι b → Own O0 A.heap ι b := fun b h => own_upd h
    have hk : Keeps w (Own O0 A.heap ι) w (Own O0 (upd A.heap id none) ι) := Keeps.weaken hsub
    have hobj : ∀ i o', upd A.heap id none i = some o' → ObjRep w (Own O0 (upd A.heap id none) ι) w0.heap.size o' (ι i) := by
      intro i o' h
      rw [upd_eq] at h
      split at h
      · cases h
      · exact objRep_keeps hk (fun _ _ => rfl) (R.obj i o' h)
    have hdist : ∀ i j, upd A.heap id none i ≠ none → upd A.heap id none j ≠ none → i ≠ j → hblk (ι i) = none ∨ hblk (ι i) ≠ hblk (ι j) := by
      intro i j hi hj hne
      rw [upd_eq] at hi hj
      split at hi
      · exact absurd rfl hi
      · split at hj
        · exact absurd rfl hj
        · exact R.dist i j hi hj hne
    have hlive : ∀ i, i ≠ id → A.heap i ≠ none → upd A.heap id none i ≠ none := by
      intro i hi h
      rw [upd_eq, if_neg hi]
      exact h
    have hbeq : ∀ {i : Nat}, Nat.beq i id = false → i ≠ id := fun h e => by subst e; simp at h
    cases o with
    | row e t xs =>
      refine ⟨⟨R.below, R.o0, fun s => ?_, hobj, hdist, fun s i hi => ?_, R.size, R.defers⟩, hsub⟩
      · have h1 := R.env s
        show ARep w (Own O0 (upd A.heap id none) ι) ι (freeze1.fz1 id (.slc false t xs) .top (A.env s)) _
        cases hx : A.env s with
        | own i =>
          rw [hx] at h1
          simp only [freeze1.fz1]
          cases hb : Nat.beq i id with
          | false => exact h1
          | true =>
            have := Nat.eq_of_beq_eq_true hb
            subst this
            have h1' : a.tmps.getD s undef = ι i := h1
            show VRep w _ (.slc false t xs) _
            rw [h1']
            obtain ⟨vs, k1, k2⟩ := R.obj i _ hid
            refine ⟨?_, fun h => by cases h⟩
            rcases k1.2 with ⟨hv, h0⟩ | ⟨g, cap, cur, hv, hg, hh, hnc, hcm, hcs, ht⟩
            · exact ⟨none, 0, by rw [hv, h0], by omega, fun hp => by omega⟩
            · refine ⟨_, cap, hv, hnc, fun hp => ⟨_, rfl, fun j hj => ?_⟩⟩
              have hfree := R.free (id := i) (b := g) (by rw [hv]; rfl) (by rw [hid]; simp)
              refine ERep.imp hk t _ _ _ _ _ (fun m u hm hu => ?_) (k2 j hj)
              exact ⟨by rw [add_block]; exact hfree, k1.cells (g := g) (by rw [hv]; rfl) _ _ hu⟩
        | ptr i o =>
          rw [hx] at h1
          simp only [freeze1.fz1]
          cases hb : Nat.beq i id with
          | false => exact h1
          | true => trivial
        | eptr i o =>
          rw [hx] at h1
          simp only [freeze1.fz1]
          cases hb : Nat.beq i id with
          | false => exact h1
          | true => trivial
        | clo f cs => trivial
        | d x => rw [hx] at h1; exact ARep.keeps hk _ _ h1
        | tup l => rw [hx] at h1; exact ARep.keeps hk _ _ h1
      · have h1 := R.wf s
        have hi' : i ∈ (freeze1.fz1 id (.slc false t xs) .top (A.env s)).ids := hi
        cases hx : A.env s with
        | own j =>
          rw [hx] at h1 hi'
          simp only [freeze1.fz1] at hi'
          cases hb : Nat.beq j id with
          | false =>
            rw [hb] at hi'
            simp only [cond_false, AV.ids, List.mem_singleton] at hi'
            subst hi'
            exact hlive _ (hbeq hb) (h1 _ (by simp [AV.ids]))
          | true => rw [hb] at hi'; simp [AV.ids] at hi'
        | ptr j o =>
          rw [hx] at h1 hi'
          simp only [freeze1.fz1] at hi'
          cases hb : Nat.beq j id with
          | false =>
            rw [hb] at hi'
            simp only [cond_false, AV.ids, List.mem_singleton] at hi'
            subst hi'
            exact hlive _ (hbeq hb) (h1 _ (by simp [AV.ids]))
          | true => rw [hb] at hi'; simp [AV.ids] at hi'
        | eptr j o =>
          rw [hx] at h1 hi'
          simp only [freeze1.fz1] at hi'
          cases hb : Nat.beq j id with
          | false =>
            rw [hb] at hi'
            simp only [cond_false, AV.ids, List.mem_singleton] at hi'
            subst hi'
            exact hlive _ (hbeq hb) (h1 _ (by simp [AV.ids]))
          | true => rw [hb] at hi'; simp [AV.ids] at hi'
        | clo f cs => rw [hx] at hi'; simp [freeze1.fz1, AV.ids] at hi'
        | d x => rw [hx] at hi'; simp [freeze1.fz1, AV.ids] at hi'
        | tup l => rw [hx] at hi'; simp [freeze1.fz1, AV.ids] at hi'
    | box cs =>
      refine ⟨⟨R.below, R.o0, fun s => ?_, hobj, hdist, fun s i hi => ?_, R.size, R.defers⟩, hsub⟩
      · have h1 := R.env s
        show ARep w (Own O0 (upd A.heap id none) ι) ι (freeze1.fz2 id cs (A.env s)) _
        cases hx : A.env s with
        | own i =>
          rw [hx] at h1
          simp only [freeze1.fz2]
          cases hb : Nat.beq i id with
          | false => exact h1
          | true => trivial
        | ptr i o =>
          rw [hx] at h1
          simp only [freeze1.fz2]
          cases hb : Nat.beq i id with
          | false => exact h1
          | true =>
            have := Nat.eq_of_beq_eq_true hb
            subst this
            obtain ⟨b, k1, k2⟩ := h1
            show VRep w _ (.rptr (cs.drop o)) _
            obtain ⟨b', vs, e, k3, _, k4, k5⟩ := R.obj i _ hid
            have := ptr_inj k1 k3
            subst this
            have hfree := R.free (id := i) (b := b) (by rw [k1]; rfl) (by rw [hid]; simp)
            refine ⟨_, k2, ((LRep.keeps hk cs _ k5).drop o).prep fun j u hu => ⟨by rw [add_plain]; exact hfree, ?_⟩⟩
            rw [List.getElem?_drop] at hu
            rw [add_plain]
            simp only [World.cell?, k4, Nat.zero_add]
            simpa using hu
        | eptr i o =>
          rw [hx] at h1
          simp only [freeze1.fz2]
          cases hb : Nat.beq i id with
          | false => exact h1
          | true => trivial
        | clo f cs => trivial
        | d x => rw [hx] at h1; exact ARep.keeps hk _ _ h1
        | tup l => rw [hx] at h1; exact ARep.keeps hk _ _ h1
      · have h1 := R.wf s
        have hi' : i ∈ (freeze1.fz2 id cs (A.env s)).ids := hi
        cases hx : A.env s with
        | own j =>
          rw [hx] at h1 hi'
          simp only [freeze1.fz2] at hi'
          cases hb : Nat.beq j id with
          | false =>
            rw [hb] at hi'
            simp only [cond_false, AV.ids, List.mem_singleton] at hi'
            subst hi'
            exact hlive _ (hbeq hb) (h1 _ (by simp [AV.ids]))
          | true => rw [hb] at hi'; simp [AV.ids] at hi'
        | ptr j o =>
          rw [hx] at h1 hi'
          simp only [freeze1.fz2] at hi'
          cases hb : Nat.beq j id with
          | false =>
            rw [hb] at hi'
            simp only [cond_false, AV.ids, List.mem_singleton] at hi'
            subst hi'
            exact hlive _ (hbeq hb) (h1 _ (by simp [AV.ids]))
          | true => rw [hb] at hi'; simp [AV.ids] at hi'
        | eptr j o =>
          rw [hx] at h1 hi'
          simp only [freeze1.fz2] at hi'
          cases hb : Nat.beq j id with
          | false =>
            rw [hb] at hi'
            simp only [cond_false, AV.ids, List.mem_singleton] at hi'
            subst hi'
            exact hlive _ (hbeq hb) (h1 _ (by simp [AV.ids]))
          | true => rw [hb] at hi'; simp [AV.ids] at hi'
        | clo f cs => rw [hx] at hi'; simp [freeze1.fz2, AV.ids] at hi'
        | d x => rw [hx] at hi'; simp [freeze1.fz2, AV.ids] at hi'
        | tup l => rw [hx] at hi'; simp [freeze1.fz2, AV.ids] at hi'

theorem Rel.freezeAll (R : Rel w0 O0 N A ι a w) : ∀ (l : List Nat), Rel w0 O0 N (freezeAll A l) ι a w ∧ ∀ b, Own O0 (freezeAll A l).heap ι b → Own O0 A.heap ι b := by
  intro l
  induction l generalizing A with
  | nil => exact ⟨R, fun _ h => h⟩
  | cons id l ih =>
    obtain ⟨h1, h2⟩ := R.freeze1 id
    obtain ⟨h3, h4⟩ := ih h1
    exact ⟨h3, fun b hb => h2 b (h4 b hb)⟩
theorem Rel.frozen (R : Rel w0 O0 N A ι a w) (H : Hints) (id : Nat) : Rel w0 O0 N (frozenAt H A id) ι a w ∧ ∀ b, Own O0 (frozenAt H A id).heap ι b → Own O0 A.heap ι b := by
  unfold frozenAt
  split
  · exact R.freezeAll _
  · exact ⟨R, fun _ h => h⟩

theorem region_sound (tok : Tok P T) (R : Rel w0 O0 N A ι a w) {id : Nat} {ops : Array Oper} {draw : Bool} {K : AState → Prop} {Q : Exit → Act → World → Prop}
    (h : bif (dstsIn N ops.toList && (!draw || lexL H ops 0 ops.toList)) then aops T H ops ops.toList (frozenAt H A id) K else False)
    (hQ : ∀ A' a' w', K A' → After w0 O0 N w (Own O0 A.heap ι) a (ops.toList.filterMap (·.dst)) A' a' w' → Q .normal a' w') : (Code.region id ops draw).wp P Q a w := by
  cases hb : (dstsIn N ops.toList && (!draw || lexL H ops 0 ops.toList)) with
  | false => rw [hb] at h; exact h.elim
  | true =>
    rw [hb] at h
    simp only [cond_true] at h
    simp only [Bool.and_eq_true] at hb
    obtain ⟨hd, hl⟩ := hb
    have hN : ∀ (i : Nat) o d, ops[i]? = some o → o.dst = some d → d < N ∧ d ∈ ops.toList.filterMap (·.dst) := by
      intro i o d ho hod
      have hm : o ∈ ops.toList := by
        rw [← Array.getElem?_toList] at ho
        exact List.mem_of_getElem? ho
      exact ⟨dstsIn_spec hod hd hm, List.mem_filterMap.2 ⟨o, hm, hod⟩⟩
    obtain ⟨Rf, hsub⟩ := R.frozen H id
    have base : ∀ n, After w0 O0 N w (Own O0 A.heap ι) a (ops.toList.filterMap (·.dst)) (frozenAt H A id) a { w with drawn := n } := fun n =>
      ⟨ι, Rf.drew n, ⟨fun _ _ _ => rfl, fun b _ hn ho => hn (hsub b ho)⟩, Nat.le_refl _, fun _ _ => rfl⟩
    cases draw with
    | false =>
      refine wp_region ?_
      rw [List.range_eq_range', ← Array.length_toList]
      exact lex_sound tok hN hQ ops.toList 0 _ a w (by simp) h (base w.drawn)
    | true =>
      simp only [Bool.not_true, Bool.false_or] at hl
      refine wp_region_any tok.mixed ?_
      have := aAny_lex (T := T) (H := H) (ops := ops) ops.toList 0 (Array.replicate ops.size false) (frozenAt H A id) (by simp) (by simp) (by simp) (fun j hj => by simp) hl Rf.wf h
      rw [Array.length_toList] at this
      exact any_sound tok hN hQ _ _ _ _ _ this (base _)

end
end Fw
