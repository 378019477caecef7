import Derived.WalkKit
import Derived.ProofKit
import Derived.OpenShut
import Derived.Below
import Derived.Deep.Matrix
import Derived.WideKeyPair
import Derived.Test.YtfhlgbgclkahnaaRows
import Derived.Test.YtfhlgbgclkahnaaM5
section
/- Matrices of any lists; what the reference says of them. -/
set_option linter.unusedVariables false
set_option linter.unusedSimpArgs false
set_option maxRecDepth 100000
namespace Fd
open Go Fw Go.Proofs

theorem sub0 {α : Type} (l : List α) (n : Nat) : sub l (0 : Int) (n : Int) = l.take n := by unfold sub; simp
theorem vc25 : ∀ x, C25.pre x → VC (TT []) H0 Try.f25 C25 x := by
  rintro ⟨(l : List Int), (n : Int), ⟨⟩⟩ ⟨(n0 : 0 ≤ n), (n1 : n ≤ 1000)⟩
  refine cast (α := ((0 : Int) ≤ if n < (↑l.length : Int) then n else (↑l.length : Int)) ∧ (if n < (↑l.length : Int) then n else (↑l.length : Int)) ≤ (↑l.length : Int) ∧ (↑(sub l (0 : Int) (if n < (↑l.length : Int) then n else (↑l.length : Int))).length : Int) * (8 : Int) ≤ (140737488355328 : Int) ∧ (sub l (0 : Int) (if n < (↑l.length : Int) then n else (↑l.length : Int)), ()) = C25.post (l, n, ())) (by kernel_rfl) ?_
  have hp : C25.post (l, n, ()) = (l.take n.toNat, ()) := rfl
  rw [hp]
  by_cases h : n < (l.length : Int)
  · rw [if_pos h]
    obtain ⟨k, rfl⟩ : ∃ k : Nat, n = k := ⟨n.toNat, by omega⟩
    rw [sub0, Int.toNat_natCast, List.length_take]
    exact ⟨by omega, by omega, by omega, rfl⟩
  · rw [if_neg h, sub0, List.take_length]
    refine ⟨by omega, by omega, by omega, ?_⟩
    rw [List.take_of_length_le (by omega)]
theorem mtx_snoc (m : List (List Int)) (n i : Nat) (hi : i < m.length) (hn : i < n) : (m.take i).map (List.take n) ++ [(m.getD i []).take n] = (m.take (i + 1)).map (List.take n) := by
  rw [List.take_succ_eq_append_getElem hi, List.map_append, List.getD_eq_getElem?_getD, List.getElem?_eq_getElem hi]; rfl
theorem vc43 : ∀ x, C43.pre x → VC T43 H43 Try.f43 C43 x := by
  rintro ⟨(m : List (List Int)), (n : Int), ⟨⟩⟩ ⟨(n0 : 0 ≤ n), (n1 : n ≤ 1000)⟩
  refine cast (α := ∃ (n_1 : Nat), itl (fun (G : List (List Int) × Int × PUnit → Prop) (x : List (List Int) × Int × PUnit) => Br (decide (x.snd.fst < (↑m.length : Int))) (Br (decide (x.snd.fst < n)) ((0 : Int) ≤ x.snd.fst ∧ x.snd.fst < (↑m.length : Int) ∧ ((0 : Int) ≤ n ∧ n ≤ (1000 : Int)) ∧ ((↑(List.length x.fst) : Int) + (↑[List.take n.toNat (rd i64.slc m x.snd.fst)].length : Int)) * (24 : Int) ≤ (140737488355328 : Int) ∧ G (List.append x.fst [List.take n.toNat (rd i64.slc m x.snd.fst)], IntKind.i64.wrap (x.snd.fst + (1 : Int)), ())) ((x.1, ()) = C43.post (m, n, ()))) ((x.1, ()) = C43.post (m, n, ()))) n_1 ([], (0 : Int), ())) (by kernel_rfl) ?_
  obtain ⟨k, rfl⟩ : ∃ k : Nat, n = k := ⟨n.toNat, by omega⟩
  have hp : C43.post (m, (k : Int), ()) = ((m.take k).map (List.take k), ()) := rfl
  rw [hp, Int.toNat_natCast]
  refine itl_rule (fun s => ∃ i : Nat, s.2.1 = (i : Int) ∧ i ≤ m.length ∧ i ≤ k ∧ s.1 = (m.take i).map (List.take k)) (fun s => ((k : Int) - s.2.1).toNat) ⟨0, rfl, Nat.zero_le _, Nat.zero_le _, rfl⟩ ?_
  rintro ⟨out, i0, ⟨⟩⟩ G ⟨i, e, hi, hk, ho⟩ hG
  simp only at e ho hG ⊢
  subst e ho
  refine Br_of (fun h => Br_of (fun h1 => ?_) (fun h1 => ?_)) (fun h => ?_)
  · have h : i < m.length := by have := of_decide_eq_true h; omega
    have h1 : i < k := by have := of_decide_eq_true h1; omega
    rw [rd_r, wrap_i64 (by omega) (by omega)]
    refine ⟨by omega, by omega, ⟨n0, n1⟩, by simp only [List.length_singleton, List.length_map, List.length_take]; omega, hG _ ⟨i + 1, rfl, by omega, by omega, ?_⟩ (by simp only; omega)⟩
    exact mtx_snoc m k i h h1
  · have h1 : i = k := by have := of_decide_eq_false h1; omega
    subst h1; rfl
  · have h : i = m.length := by have := of_decide_eq_false h; omega
    subst h
    show ((m.take m.length).map (List.take k), ()) = _
    rw [List.take_length, List.take_of_length_le hk]
theorem vc102 : ∀ x, C102.pre x → VC (TT []) H0 Try.f102 C102 x := by
  rintro ⟨⟨(q : Int), (p : Int), (k : Int), (m : Int), ⟨⟩⟩, (a : Int), ⟨⟩⟩ -
  refine cast (α := Br (decide (a ≥ (0 : Int))) ((decide (a < q), ()) = C102.post ((q, p, k, m, ()), a, ())) ((false, ()) = C102.post ((q, p, k, m, ()), a, ()))) (by kernel_rfl) ?_
  refine Br_of (fun h => ?_) (fun h => ?_)
  · show _ = (decide (0 ≤ a) && decide (a < q), ())
    rw [decide_eq_true (of_decide_eq_true h)]; rfl
  · show _ = (decide (0 ≤ a) && decide (a < q), ())
    rw [decide_eq_false (of_decide_eq_false h)]; rfl
theorem vc47 : ∀ x, C47.pre x → VC T47 H47 Try.f47 C47 x := by
  rintro ⟨⟨(q : Int), (p : Int), (k : Int), (m : Int), ⟨⟩⟩, (l : List Int), ⟨⟩⟩ ⟨(h0 : Pl.okr _), (hl : l.length ≤ 1000000000)⟩
  refine cast (α := ∃ (n : Nat), itl (fun (G : Int × PUnit → Prop) (x : Int × PUnit) => Br (decide (x.fst < (↑l.length : Int))) ((0 : Int) ≤ x.fst ∧ x.fst < (↑l.length : Int) ∧ Pl.okr (q, p, k, m, ()) ∧ Br (!(decide ((0 : Int) ≤ rd i64 l x.fst) && decide (rd i64 l x.fst < q))) ((false, ()) = C47.post ((q, p, k, m, ()), l, ())) (G (IntKind.i64.wrap (x.fst + (1 : Int)), ()))) ((true, ()) = C47.post ((q, p, k, m, ()), l, ()))) n ((0 : Int), ())) (by kernel_rfl) ?_
  have hp : C47.post ((q, p, k, m, ()), l, ()) = (Pl.els q l, ()) := rfl
  rw [hp]
  refine itl_rule (fun s => ∃ i : Nat, s.1 = (i : Int) ∧ i ≤ l.length ∧ Pl.els q (l.drop i) = Pl.els q l) (fun s => ((l.length : Int) - s.1).toNat) ⟨0, rfl, Nat.zero_le _, rfl⟩ ?_
  rintro ⟨i0, ⟨⟩⟩ G ⟨i, e, hi, hf⟩ hG
  simp only at e hf hG ⊢
  subst e
  refine Br_of (fun h => ?_) (fun h => ?_)
  · have h : i < l.length := by have := of_decide_eq_true h; omega
    rw [rd_i, wrap_i64 (by omega) (by omega)]
    unfold Pl.els at hf ⊢
    rw [drop_cons 0 h, List.all_cons] at hf
    refine ⟨by omega, by omega, h0, Br_of (fun h1 => ?_) (fun h1 => ?_)⟩
    · have h1 : (decide (0 ≤ l.getD i 0) && decide (l.getD i 0 < q)) = false := by
        cases hb : decide (0 ≤ l.getD i 0) && decide (l.getD i 0 < q) with
        | false => rfl
        | true => rw [hb] at h1; cases h1
      rw [h1, Bool.false_and] at hf
      rw [← hf]
    · have h1 : (decide (0 ≤ l.getD i 0) && decide (l.getD i 0 < q)) = true := by
        cases hb : decide (0 ≤ l.getD i 0) && decide (l.getD i 0 < q) with
        | true => rfl
        | false => rw [hb] at h1; cases h1
      rw [h1, Bool.true_and] at hf
      exact hG _ ⟨i + 1, rfl, by omega, hf⟩ (by simp only; omega)
  · have h : i = l.length := by have := of_decide_eq_false h; omega
    subst h
    rw [List.drop_length] at hf
    rw [← hf]; rfl
theorem vc44 : ∀ x, C44.pre x → VC T44 H44 Try.f44 C44 x := by
  rintro ⟨⟨(q : Int), (p : Int), (k : Int), (m0 : Int), ⟨⟩⟩, (m : List (List Int)), ⟨⟩⟩ ⟨(h0 : Pl.okr _), (hl : m.length ≤ 1000000000), (hr : ∀ r ∈ m, r.length ≤ 1000000000)⟩
  refine cast (α := Br (decide ((↑m.length : Int) > (64 : Int))) (((2 : Int), ()) = C44.post ((q, p, k, m0, ()), m, ())) (Br (decide ((↑m.length : Int) > (0 : Int))) ((0 : Int) ≤ (0 : Int) ∧ (0 : Int) < (↑m.length : Int) ∧ Br (decide ((↑(List.length (rd i64.slc m (0 : Int))) : Int) > (64 : Int))) (((2 : Int), ()) = C44.post ((q, p, k, m0, ()), m, ())) (∃ (n : Nat), itl (fun (G : Int × PUnit → Prop) (x : Int × PUnit) => Br (decide (x.fst < (↑m.length : Int))) ((0 : Int) ≤ x.fst ∧ x.fst < (↑m.length : Int) ∧ (0 : Int) ≤ (0 : Int) ∧ (0 : Int) < (↑m.length : Int) ∧ Br ((↑(List.length (rd i64.slc m x.fst)) : Int) != (↑(List.length (rd i64.slc m (0 : Int))) : Int)) (((7 : Int), ()) = C44.post ((q, p, k, m0, ()), m, ())) (G (IntKind.i64.wrap (x.fst + (1 : Int)), ()))) (∃ (n : Nat), itl (fun (G : Int × PUnit → Prop) (x : Int × PUnit) => Br (decide (x.fst < (↑m.length : Int))) ((0 : Int) ≤ x.fst ∧ x.fst < (↑m.length : Int) ∧ (Pl.okr (q, p, k, m0, ()) ∧ List.length (rd i64.slc m x.fst) ≤ (1000000000 : Nat)) ∧ Br (!Pl.els q (rd i64.slc m x.fst)) (((1 : Int), ()) = C44.post ((q, p, k, m0, ()), m, ())) (G (IntKind.i64.wrap (x.fst + (1 : Int)), ()))) (((0 : Int), ()) = C44.post ((q, p, k, m0, ()), m, ()))) n ((0 : Int), ()))) n ((0 : Int), ()))) (∃ (n : Nat), itl (fun (G : Int × PUnit → Prop) (x : Int × PUnit) => Br (decide (x.fst < (↑m.length : Int))) ((0 : Int) ≤ x.fst ∧ x.fst < (↑m.length : Int) ∧ (0 : Int) ≤ (0 : Int) ∧ (0 : Int) < (↑m.length : Int) ∧ Br ((↑(List.length (rd i64.slc m x.fst)) : Int) != (↑(List.length (rd i64.slc m (0 : Int))) : Int)) (((7 : Int), ()) = C44.post ((q, p, k, m0, ()), m, ())) (G (IntKind.i64.wrap (x.fst + (1 : Int)), ()))) (∃ (n : Nat), itl (fun (G : Int × PUnit → Prop) (x : Int × PUnit) => Br (decide (x.fst < (↑m.length : Int))) ((0 : Int) ≤ x.fst ∧ x.fst < (↑m.length : Int) ∧ (Pl.okr (q, p, k, m0, ()) ∧ List.length (rd i64.slc m x.fst) ≤ (1000000000 : Nat)) ∧ Br (!Pl.els q (rd i64.slc m x.fst)) (((1 : Int), ()) = C44.post ((q, p, k, m0, ()), m, ())) (G (IntKind.i64.wrap (x.fst + (1 : Int)), ()))) (((0 : Int), ()) = C44.post ((q, p, k, m0, ()), m, ()))) n ((0 : Int), ()))) n ((0 : Int), ())))) (by kernel_rfl) ?_
  have hp : C44.post ((q, p, k, m0, ()), m, ()) = (Pl.shape q m, ()) := rfl
  rw [hp, rd_r0]
  refine Br_of (fun h => ?_) (fun h => ?_)
  · unfold Pl.shape
    have h : m.length > 64 := by have := of_decide_eq_true h; omega
    rw [decide_eq_true h]; rfl
  have h : ¬ m.length > 64 := by have := of_decide_eq_false h; omega
  have rest : ¬ (m.length > 0 ∧ Pl.wide m > 64) → ∃ n, itl (fun (G : Int × Unit → Prop) (x : Int × Unit) => Br (decide (x.1 < (m.length : Int))) ((0 : Int) ≤ x.1 ∧ x.1 < (m.length : Int) ∧ (0 : Int) ≤ (0 : Int) ∧ (0 : Int) < (m.length : Int) ∧ Br (((rd i64.slc m x.1).length : Int) != ((m.getD 0 []).length : Int)) (((7 : Int), ()) = (Pl.shape q m, ())) (G (IntKind.i64.wrap (x.1 + (1 : Int)), ())))
      (∃ n, itl (fun (G : Int × Unit → Prop) (x : Int × Unit) => Br (decide (x.1 < (m.length : Int))) ((0 : Int) ≤ x.1 ∧ x.1 < (m.length : Int) ∧ (Pl.okr (q, p, k, m0, ()) ∧ (rd i64.slc m x.1).length ≤ (1000000000 : Nat)) ∧ Br (!Pl.els q (rd i64.slc m x.1)) (((1 : Int), ()) = (Pl.shape q m, ())) (G (IntKind.i64.wrap (x.1 + (1 : Int)), ()))) (((0 : Int), ()) = (Pl.shape q m, ()))) n ((0 : Int), ()))) n ((0 : Int), ()) := fun hw => by
    have hs : Pl.shape q m = bif m.any (fun r => decide (r.length ≠ Pl.wide m)) then 7 else bif m.any (fun r => !Pl.els q r) then 1 else 0 := by
      unfold Pl.shape
      have e : (decide (m.length > 64) || (decide (m.length > 0) && decide (Pl.wide m > 64))) = false := by
        rw [decide_eq_false h]
        by_cases c1 : m.length > 0
        · rw [decide_eq_false (fun c2 => hw ⟨c1, c2⟩)]; simp
        · rw [decide_eq_false c1]; rfl
      rw [e]; rfl
    refine itl_rule (fun s => ∃ i : Nat, s.1 = (i : Int) ∧ i ≤ m.length ∧ (m.drop i).any (fun r => decide (r.length ≠ Pl.wide m)) = m.any (fun r => decide (r.length ≠ Pl.wide m))) (fun s => ((m.length : Int) - s.1).toNat) ⟨0, rfl, Nat.zero_le _, rfl⟩ ?_
    rintro ⟨i0, ⟨⟩⟩ G ⟨i, e, hi, hf⟩ hG
    simp only at e hf hG ⊢
    subst e
    refine Br_of (fun h => ?_) (fun h => ?_)
    · have h : i < m.length := by have := of_decide_eq_true h; omega
      rw [rd_r, wrap_i64 (by omega) (by omega)]
      rw [drop_cons [] h, List.any_cons] at hf
      refine ⟨by omega, by omega, by omega, by omega, Br_of (fun h1 => ?_) (fun h1 => ?_)⟩
      · have h1 : (m.getD i []).length ≠ Pl.wide m := by
          have : ((m.getD i []).length : Int) ≠ ((m.getD 0 []).length : Int) := by simpa using h1
          unfold Pl.wide; omega
        rw [decide_eq_true h1, Bool.true_or] at hf
        rw [hs, ← hf]; rfl
      · have h1 : (m.getD i []).length = Pl.wide m := by
          have : ((m.getD i []).length : Int) = ((m.getD 0 []).length : Int) := by simpa using h1
          unfold Pl.wide; omega
        rw [decide_eq_false (not_not_intro h1), Bool.false_or] at hf
        exact hG _ ⟨i + 1, rfl, by omega, hf⟩ (by simp only; omega)
    · have h : i = m.length := by have := of_decide_eq_false h; omega
      subst h
      rw [List.drop_length] at hf
      rw [← hf] at hs
      have hs : Pl.shape q m = bif m.any (fun r => !Pl.els q r) then 1 else 0 := hs
      rw [hs]
      refine itl_rule (fun s => ∃ i : Nat, s.1 = (i : Int) ∧ i ≤ m.length ∧ (m.drop i).any (fun r => !Pl.els q r) = m.any (fun r => !Pl.els q r)) (fun s => ((m.length : Int) - s.1).toNat) ⟨0, rfl, Nat.zero_le _, rfl⟩ ?_
      rintro ⟨i0, ⟨⟩⟩ G1 ⟨i, e, hi, hf⟩ hG1
      simp only at e hf hG1 ⊢
      subst e
      refine Br_of (fun h => ?_) (fun h => ?_)
      · have h : i < m.length := by have := of_decide_eq_true h; omega
        rw [rd_r, wrap_i64 (by omega) (by omega)]
        rw [drop_cons [] h, List.any_cons] at hf
        refine ⟨by omega, by omega, ⟨h0, hr _ (rowD_mem h)⟩, Br_of (fun h1 => ?_) (fun h1 => ?_)⟩
        · rw [h1, Bool.true_or] at hf
          rw [← hf]; rfl
        · rw [h1, Bool.false_or] at hf
          exact hG1 _ ⟨i + 1, rfl, by omega, hf⟩ (by simp only; omega)
      · have h : i = m.length := by have := of_decide_eq_false h; omega
        subst h
        rw [List.drop_length] at hf
        rw [← hf]; rfl
  refine Br_of (fun h2 => ?_) (fun h2 => ?_)
  · have h2 : m.length > 0 := by have := of_decide_eq_true h2; omega
    refine ⟨by omega, by omega, Br_of (fun h3 => ?_) (fun h3 => ?_)⟩
    · have h3 : Pl.wide m > 64 := by have := of_decide_eq_true h3; unfold Pl.wide; omega
      unfold Pl.shape
      rw [decide_eq_true h2, decide_eq_true h3, decide_eq_false h]; rfl
    · have h3 : ¬ Pl.wide m > 64 := by have := of_decide_eq_false h3; unfold Pl.wide; omega
      exact rest (fun hh => h3 hh.2)
  · have h2 : ¬ m.length > 0 := by have := of_decide_eq_false h2; omega
    exact rest (fun hh => h2 hh.1)
theorem colS_in {q : Int} (hq : isQ q) (j : Nat) : ∀ (s : Int) (w : List Int) (m : List (List Int)), Pl.inQ q s → Pl.inQ q (Pl.colS q j s w m)
  | s, [], _, h => by rw [Pl.colS]; exact h; simp
  | s, _ :: _, [], h => by rw [Pl.colS]; exact h; simp
  | s, w :: ws, r :: rs, h => by rw [Pl.colS]; exact colS_in hq j _ ws rs (add_inQ hq _ _)
theorem vc27 : ∀ x, C27.pre x → VC T27 H27 Try.f27 C27 x := by
  rintro ⟨v, (m : List (List Int)), (b : List Int), (w : List Int), ⟨⟩⟩ ⟨⟨q, hq, (rfl : v = _)⟩, (hm : Pl.okMM m), (hb : b.length ≤ 1000000000), (hw : w.length ≤ 1000000000)⟩
  refine cast (α := (Pl.okF (D.rptr (fieldC q)) ∧ Pl.okMM m ∧ b.length ≤ (1000000000 : Nat)) ∧ Br (Pl.sys (Pl.qF (D.rptr (fieldC q))) m b != (0 : Int)) ((false, ()) = C27.post (fieldD q, m, b, w, ())) (Br ((↑w.length : Int) != (↑m.length : Int)) ((false, ()) = C27.post (fieldD q, m, b, w, ())) ((Pl.okF (D.rptr (fieldC q)) ∧ w.length ≤ (1000000000 : Nat)) ∧ Br (!Pl.els (Pl.qF (D.rptr (fieldC q))) w) ((false, ()) = C27.post (fieldD q, m, b, w, ())) (Br ((↑m.length : Int) == (0 : Int)) ((false, ()) = C27.post (fieldD q, m, b, w, ())) ((0 : Int) ≤ (0 : Int) ∧ (0 : Int) < (↑m.length : Int) ∧ ∃ (n : Nat), itl (fun (G : Int × PUnit → Prop) (x : Int × PUnit) => Br (decide (x.fst < (↑(List.length (rd i64.slc m (0 : Int))) : Int))) (∃ (n : Nat), itl (fun (G_1 : Int × Int × PUnit → Prop) (x_1 : Int × Int × PUnit) => Br (decide (x_1.snd.fst < (↑m.length : Int))) ((0 : Int) ≤ x_1.snd.fst ∧ x_1.snd.fst < (↑m.length : Int) ∧ (0 : Int) ≤ x_1.snd.fst ∧ x_1.snd.fst < (↑w.length : Int) ∧ (0 : Int) ≤ x.fst ∧ x.fst < (↑(List.length (rd i64.slc m x_1.snd.fst)) : Int) ∧ (Pl.okM (arD q) ∧ Pl.inQ (Pl.qA (arD q)) (rd i64 w x_1.snd.fst) ∧ Pl.inQ (Pl.qA (arD q)) (rd i64 (rd i64.slc m x_1.snd.fst) x.fst)) ∧ (Pl.okA (arD q) ∧ Pl.inQ (Pl.qA (arD q)) x_1.fst ∧ Pl.inQ (Pl.qA (arD q)) (Pl.mul (Pl.qA (arD q)) (rd i64 w x_1.snd.fst) (rd i64 (rd i64.slc m x_1.snd.fst) x.fst))) ∧ G_1 (Pl.add (Pl.qA (arD q)) x_1.fst (Pl.mul (Pl.qA (arD q)) (rd i64 w x_1.snd.fst) (rd i64 (rd i64.slc m x_1.snd.fst) x.fst)), IntKind.i64.wrap (x_1.snd.fst + (1 : Int)), ())) (Br (x_1.fst != (0 : Int)) ((false, ()) = C27.post (fieldD q, m, b, w, ())) (G (IntKind.i64.wrap (x.fst + (1 : Int)), ())))) n ((0 : Int), (0 : Int), ())) ((Pl.okF (D.rptr (fieldC q)) ∧ Pl.inAll (Pl.qF (D.rptr (fieldC q))) w ∧ Pl.inAll (Pl.qF (D.rptr (fieldC q))) b ∧ w.length ≤ b.length) ∧ (Pl.dot (Pl.qF (D.rptr (fieldC q))) w b != (0 : Int), ()) = C27.post (fieldD q, m, b, w, ()))) n ((0 : Int), ())))))) (by kernel_rfl) ?_
  rw [qF_f, qA_ar hq, rd_r0]
  have hp : C27.post (fieldD q, m, b, w, ()) = (Pl.denies q m b w, ()) := rfl
  rw [hp]
  have oF := okF_f hq
  refine ⟨⟨oF, hm, hb⟩, Br_of (fun h => ?_) (fun h => Br_of (fun h1 => ?_) (fun h1 => ⟨⟨oF, hw⟩, Br_of (fun h2 => ?_) (fun h2 => Br_of (fun h3 => ?_) (fun h3 => ?_))⟩))⟩
  · have h : Pl.sys q m b ≠ 0 := by simpa using h
    unfold Pl.denies; rw [decide_eq_true h]; rfl
  · have h1 : w.length ≠ m.length := by have : (w.length : Int) ≠ m.length := by simpa using h1
                                        omega
    unfold Pl.denies; rw [decide_eq_true h1, Bool.true_or, Bool.or_true]; rfl
  · unfold Pl.denies; rw [h2, Bool.or_true, Bool.or_true]; rfl
  · have h3 : m.length = 0 := by have := eq_of_beq h3; omega
    unfold Pl.denies
    rw [decide_eq_true h3]
    cases decide (Pl.sys q m b ≠ 0) || (decide (w.length ≠ m.length) || !Pl.els q w) <;> rfl
  have h : Pl.sys q m b = 0 := by simpa using h
  have h1 : w.length = m.length := by have : (w.length : Int) = m.length := by simpa using h1
                                      omega
  have h2 : Pl.els q w = true := by simpa using h2
  have h3 : m.length ≠ 0 := fun e => by rw [e] at h3; cases h3
  obtain ⟨s1, s2, s3⟩ := den_sys h
  obtain ⟨t1, t2, t3⟩ := shape_0 s1
  have hwi := els_in h2
  have hd : Pl.denies q m b w = (Pl.cols0 q w m (Pl.wide m) 0 && decide (Pl.dot q w b ≠ 0)) := by
    unfold Pl.denies
    rw [decide_eq_false (not_not_intro h), decide_eq_false (not_not_intro h1), decide_eq_false h3, h2]; rfl
  rw [hd]
  have hwd : (m.getD 0 []).length = Pl.wide m := rfl
  rw [hwd]
  refine ⟨by omega, by omega, itl_rule (fun s => ∃ j : Nat, s.1 = (j : Int) ∧ j ≤ Pl.wide m ∧ Pl.cols0 q w m (Pl.wide m - j) j = Pl.cols0 q w m (Pl.wide m) 0) (fun s => ((Pl.wide m : Int) - s.1).toNat) ⟨0, rfl, Nat.zero_le _, rfl⟩ ?_⟩
  rintro ⟨j0, ⟨⟩⟩ G ⟨j, e, hj, hf⟩ hG
  simp only at e hf hG ⊢
  subst e
  refine Br_of (fun h4 => ?_) (fun h4 => ?_)
  · have h4 : j < Pl.wide m := by have := of_decide_eq_true h4; omega
    rw [show Pl.wide m - j = (Pl.wide m - (j + 1)) + 1 by omega, Pl.cols0] at hf
    refine itl_rule (fun s => ∃ i : Nat, s.2.1 = (i : Int) ∧ i ≤ m.length ∧ Pl.inQ q s.1 ∧ Pl.colS q j s.1 (w.drop i) (m.drop i) = Pl.colS q j 0 w m) (fun s => ((m.length : Int) - s.2.1).toNat) ⟨0, rfl, Nat.zero_le _, zero_inQ hq, rfl⟩ ?_
    rintro ⟨s, i0, ⟨⟩⟩ G1 ⟨i, e, hi, hs, hc⟩ hG1
    simp only at e hs hc hG1 ⊢
    subst e
    refine Br_of (fun h5 => ?_) (fun h5 => ?_)
    · have h5 : i < m.length := by have := of_decide_eq_true h5; omega
      obtain ⟨u1, u2⟩ := t3 _ (rowD_mem h5)
      rw [rd_r, rd_i, rd_i, wrap_i64 (by omega) (by omega)]
      rw [drop_cons 0 (show i < w.length by omega), drop_cons [] h5, Pl.colS] at hc
      exact ⟨by omega, by omega, by omega, by omega, by omega, by omega, ⟨okM_ar hq, getD_inQ hwi (by omega), getD_inQ u2 (by omega)⟩, ⟨okA_ar hq, hs, mul_inQ hq _ _⟩, hG1 _ ⟨i + 1, rfl, by omega, add_inQ hq _ _, hc⟩ (by simp only; omega)⟩
    · have h5 : i = m.length := by have := of_decide_eq_false h5; omega
      subst h5
      rw [List.drop_length, ← h1, List.drop_length] at hc
      have hc : s = Pl.colS q j 0 w m := hc
      refine Br_of (fun h6 => ?_) (fun h6 => ?_)
      · have h6 : s ≠ 0 := by simpa using h6
        rw [← hc, decide_eq_true h6, cond_true] at hf
        rw [← hf]; rfl
      · have h6 : s = 0 := by simpa using h6
        rw [← hc, decide_eq_false (not_not_intro h6), cond_false] at hf
        rw [wrap_i64 (by omega) (by omega)]
        exact hG _ ⟨j + 1, rfl, by omega, hf⟩ (by simp only; omega)
  · have h4 : j = Pl.wide m := by have := of_decide_eq_false h4; omega
    subst h4
    rw [Nat.sub_self, Pl.cols0] at hf
    rw [← hf, Bool.true_and]
    refine ⟨⟨oF, ⟨hwi, hw⟩, ⟨s3, hb⟩, by omega⟩, ?_⟩
    congr 1
    by_cases e : Pl.dot q w b = 0
    · rw [e, decide_eq_false (by simp)]; rfl
    · rw [decide_eq_true e]; simpa using e
theorem nrc27 : NRC C27 := ⟨fun x hx => ⟨okF_nr hx.1, rfl, rfl, rfl, trivial⟩, fun x hx => ⟨trivial, trivial⟩⟩
theorem snd25 : Sound Try.prog 25 C25 := fn_sound (T := TT []) (fn := Try.f25) (tok0 trivial) Try.func25 (by kernel_rfl) H0 vc25 (by kernel_rfl)
theorem snd43 : Sound Try.prog 43 C43 := fn_sound (T := T43) (fn := Try.f43) (tok0 ⟨snd25, trivial⟩) Try.func43 (by kernel_rfl) H43 vc43 (by kernel_rfl)
theorem snd102 : Sound Try.prog 102 C102 := fn_sound (T := TT []) (fn := Try.f102) (tok0 trivial) Try.func102 (by kernel_rfl) H0 vc102 (by kernel_rfl)
theorem snd47 : Sound Try.prog 47 C47 := fn_sound (T := T47) (fn := Try.f47) (tok0 ⟨snd102, trivial⟩) Try.func47 (by kernel_rfl) H47 vc47 (by kernel_rfl)
theorem snd44 : Sound Try.prog 44 C44 := fn_sound (T := T44) (fn := Try.f44) (tok0 ⟨snd47, trivial⟩) Try.func44 (by kernel_rfl) H44 vc44 (by kernel_rfl)
theorem snd27 : Sound Try.prog 27 C27 := fn_sound (T := T27) (fn := Try.f27) (tokF ⟨snd92, snd93, snd94, trivial⟩) Try.func27 (by kernel_rfl) H27 vc27 (by kernel_rfl) (hC := nrc27)
/-! ### FieldMatrices -/
theorem Br_n2 {a b : Int} {p r : Prop} (e : a = b) (h : r) : Br (a != b) p r := by subst e; exact Br_ne h
theorem denies_bad {q : Int} {m : List (List Int)} {b w : List Int} (h : Pl.sys q m b ≠ 0) : Pl.denies q m b w = false := by
  unfold Pl.denies; rw [decide_eq_true h]; rfl
theorem mtx_ok (m : List (List Int)) (n : Nat) : (Pl.mtx m n).length ≤ n ∧ ∀ r ∈ Pl.mtx m n, r.length ≤ n := by
  unfold Pl.mtx
  refine ⟨by rw [List.length_map, List.length_take]; omega, fun r hr => ?_⟩
  obtain ⟨x, _, rfl⟩ := List.mem_map.1 hr
  rw [List.length_take]; omega
theorem vc8 : ∀ x, C8.pre x → VC T8 H8 Try.f8 C8 x := by
  rintro ⟨(o : Int), (m : List (List Int)), (b : List Int), ⟨⟩⟩ -
  refine cast (α := True ∧ ((0 : Int) ≤ (65 : Int) ∧ (65 : Int) ≤ (1000 : Int)) ∧ (Pl.okr (Pl.someQ o (300 : Int), Pl.lpf (Pl.someQ o (300 : Int)), Pl.K (Pl.someQ o (300 : Int)), Pl.Mod (Pl.someQ o (300 : Int)), ()) ∧ Pl.okMM (Pl.mtx m (Int.toNat (65 : Int)))) ∧ (Pl.okF (D.rptr (fieldC (Pl.someQ o (300 : Int)))) ∧ Pl.okMM (Pl.mtx m (Int.toNat (65 : Int)))) ∧ Br (Pl.shape (Pl.qF (D.rptr (fieldC (Pl.someQ o (300 : Int))))) (Pl.mtx m (Int.toNat (65 : Int))) != Pl.shape (Pl.someQ o (300 : Int)) (Pl.mtx m (Int.toNat (65 : Int)))) ((false, ()) = C8.post (o, m, b, ())) (Br (Pl.shape (Pl.someQ o (300 : Int)) (Pl.mtx m (Int.toNat (65 : Int))) != (0 : Int)) (Br ((↑(List.length (bif decide (Pl.shape (Pl.qF (D.rptr (fieldC (Pl.someQ o (300 : Int))))) (Pl.mtx m (Int.toNat (65 : Int))) ≠ (0 : Int)) then [] else Pl.echelon (Pl.qF (D.rptr (fieldC (Pl.someQ o (300 : Int))))) (Pl.mtx m (Int.toNat (65 : Int))))) : Int) != (0 : Int)) ((false, ()) = C8.post (o, m, b, ())) (((0 : Int) ≤ (70 : Int) ∧ (70 : Int) ≤ (1000 : Int)) ∧ (Pl.okSy (D.rptr (fieldC (Pl.someQ o (300 : Int))), Pl.mtx m (Int.toNat (65 : Int)), List.take (Int.toNat (70 : Int)) b, ()) ∧ True) ∧ ((0 : Int) ≤ (70 : Int) ∧ (70 : Int) ≤ (1000 : Int)) ∧ (Pl.okSy (D.rptr (fieldC (Pl.someQ o (300 : Int))), Pl.mtx m (Int.toNat (65 : Int)), List.take (Int.toNat (70 : Int)) b, ()) ∧ True) ∧ Br (Pl.shape (Pl.someQ o (300 : Int)) (Pl.mtx m (Int.toNat (65 : Int))) != (0 : Int)) (Br ((Pl.solve (Pl.qF (D.rptr (fieldC (Pl.someQ o (300 : Int))))) (Pl.mtx m (Int.toNat (65 : Int))) (List.take (Int.toNat (70 : Int)) b)).snd == Pl.shape (Pl.someQ o (300 : Int)) (Pl.mtx m (Int.toNat (65 : Int)))) (Br ((↑(Pl.solve (Pl.qF (D.rptr (fieldC (Pl.someQ o (300 : Int))))) (Pl.mtx m (Int.toNat (65 : Int))) (List.take (Int.toNat (70 : Int)) b)).fst.length : Int) == (0 : Int)) (Br (!(Pl.deny (Pl.qF (D.rptr (fieldC (Pl.someQ o (300 : Int))))) (Pl.mtx m (Int.toNat (65 : Int))) (List.take (Int.toNat (70 : Int)) b)).snd) (Br ((↑(Pl.deny (Pl.qF (D.rptr (fieldC (Pl.someQ o (300 : Int))))) (Pl.mtx m (Int.toNat (65 : Int))) (List.take (Int.toNat (70 : Int)) b)).fst.length : Int) == (0 : Int)) (((0 : Int) ≤ (70 : Int) ∧ (70 : Int) ≤ (1000 : Int)) ∧ (0 : Int) ≤ (↑(Pl.mtx m (Int.toNat (65 : Int))).length : Int) ∧ (↑(Pl.mtx m (Int.toNat (65 : Int))).length : Int) = (↑(Pl.mtx m (Int.toNat (65 : Int))).length : Int) ∧ (↑(Pl.mtx m (Int.toNat (65 : Int))).length : Int) * (8 : Int) ≤ (140737488355328 : Int) ∧ (Pl.okF (D.rptr (fieldC (Pl.someQ o (300 : Int)))) ∧ Pl.okMM (Pl.mtx m (Int.toNat (65 : Int))) ∧ (List.take (Int.toNat (70 : Int)) b).length ≤ (1000000000 : Nat) ∧ (List.replicate (↑(Pl.mtx m (Int.toNat (65 : Int))).length : Int).toNat (0 : Int)).length ≤ (1000000000 : Nat)) ∧ Br (!Pl.denies (Pl.qF (D.rptr (fieldC (Pl.someQ o (300 : Int))))) (Pl.mtx m (Int.toNat (65 : Int))) (List.take (Int.toNat (70 : Int)) b) (List.replicate (↑(Pl.mtx m (Int.toNat (65 : Int))).length : Int).toNat (0 : Int))) (True ∧ (true, ()) = C8.post (o, m, b, ())) ((false, ()) = C8.post (o, m, b, ()))) ((false, ()) = C8.post (o, m, b, ()))) ((false, ()) = C8.post (o, m, b, ()))) ((false, ()) = C8.post (o, m, b, ()))) ((false, ()) = C8.post (o, m, b, ()))) (((0 : Int) ≤ (70 : Int) ∧ (70 : Int) ≤ (1000 : Int)) ∧ Br ((↑(List.take (Int.toNat (70 : Int)) b).length : Int) != (↑(Pl.mtx m (Int.toNat (65 : Int))).length : Int)) (Br ((Pl.solve (Pl.qF (D.rptr (fieldC (Pl.someQ o (300 : Int))))) (Pl.mtx m (Int.toNat (65 : Int))) (List.take (Int.toNat (70 : Int)) b)).snd == (7 : Int)) (Br ((↑(Pl.solve (Pl.qF (D.rptr (fieldC (Pl.someQ o (300 : Int))))) (Pl.mtx m (Int.toNat (65 : Int))) (List.take (Int.toNat (70 : Int)) b)).fst.length : Int) == (0 : Int)) (Br (!(Pl.deny (Pl.qF (D.rptr (fieldC (Pl.someQ o (300 : Int))))) (Pl.mtx m (Int.toNat (65 : Int))) (List.take (Int.toNat (70 : Int)) b)).snd) (Br ((↑(Pl.deny (Pl.qF (D.rptr (fieldC (Pl.someQ o (300 : Int))))) (Pl.mtx m (Int.toNat (65 : Int))) (List.take (Int.toNat (70 : Int)) b)).fst.length : Int) == (0 : Int)) (((0 : Int) ≤ (70 : Int) ∧ (70 : Int) ≤ (1000 : Int)) ∧ (0 : Int) ≤ (↑(Pl.mtx m (Int.toNat (65 : Int))).length : Int) ∧ (↑(Pl.mtx m (Int.toNat (65 : Int))).length : Int) = (↑(Pl.mtx m (Int.toNat (65 : Int))).length : Int) ∧ (↑(Pl.mtx m (Int.toNat (65 : Int))).length : Int) * (8 : Int) ≤ (140737488355328 : Int) ∧ (Pl.okF (D.rptr (fieldC (Pl.someQ o (300 : Int)))) ∧ Pl.okMM (Pl.mtx m (Int.toNat (65 : Int))) ∧ (List.take (Int.toNat (70 : Int)) b).length ≤ (1000000000 : Nat) ∧ (List.replicate (↑(Pl.mtx m (Int.toNat (65 : Int))).length : Int).toNat (0 : Int)).length ≤ (1000000000 : Nat)) ∧ Br (!Pl.denies (Pl.qF (D.rptr (fieldC (Pl.someQ o (300 : Int))))) (Pl.mtx m (Int.toNat (65 : Int))) (List.take (Int.toNat (70 : Int)) b) (List.replicate (↑(Pl.mtx m (Int.toNat (65 : Int))).length : Int).toNat (0 : Int))) (True ∧ (true, ()) = C8.post (o, m, b, ())) ((false, ()) = C8.post (o, m, b, ()))) ((false, ()) = C8.post (o, m, b, ()))) ((false, ()) = C8.post (o, m, b, ()))) ((false, ()) = C8.post (o, m, b, ()))) ((false, ()) = C8.post (o, m, b, ()))) (((0 : Int) ≤ (70 : Int) ∧ (70 : Int) ≤ (1000 : Int)) ∧ (Pl.okr (Pl.someQ o (300 : Int), Pl.lpf (Pl.someQ o (300 : Int)), Pl.K (Pl.someQ o (300 : Int)), Pl.Mod (Pl.someQ o (300 : Int)), ()) ∧ (List.take (Int.toNat (70 : Int)) b).length ≤ (1000000000 : Nat)) ∧ Br (!Pl.els (Pl.someQ o (300 : Int)) (List.take (Int.toNat (70 : Int)) b)) (Br ((Pl.solve (Pl.qF (D.rptr (fieldC (Pl.someQ o (300 : Int))))) (Pl.mtx m (Int.toNat (65 : Int))) (List.take (Int.toNat (70 : Int)) b)).snd == (1 : Int)) (Br ((↑(Pl.solve (Pl.qF (D.rptr (fieldC (Pl.someQ o (300 : Int))))) (Pl.mtx m (Int.toNat (65 : Int))) (List.take (Int.toNat (70 : Int)) b)).fst.length : Int) == (0 : Int)) (Br (!(Pl.deny (Pl.qF (D.rptr (fieldC (Pl.someQ o (300 : Int))))) (Pl.mtx m (Int.toNat (65 : Int))) (List.take (Int.toNat (70 : Int)) b)).snd) (Br ((↑(Pl.deny (Pl.qF (D.rptr (fieldC (Pl.someQ o (300 : Int))))) (Pl.mtx m (Int.toNat (65 : Int))) (List.take (Int.toNat (70 : Int)) b)).fst.length : Int) == (0 : Int)) (((0 : Int) ≤ (70 : Int) ∧ (70 : Int) ≤ (1000 : Int)) ∧ (0 : Int) ≤ (↑(Pl.mtx m (Int.toNat (65 : Int))).length : Int) ∧ (↑(Pl.mtx m (Int.toNat (65 : Int))).length : Int) = (↑(Pl.mtx m (Int.toNat (65 : Int))).length : Int) ∧ (↑(Pl.mtx m (Int.toNat (65 : Int))).length : Int) * (8 : Int) ≤ (140737488355328 : Int) ∧ (Pl.okF (D.rptr (fieldC (Pl.someQ o (300 : Int)))) ∧ Pl.okMM (Pl.mtx m (Int.toNat (65 : Int))) ∧ (List.take (Int.toNat (70 : Int)) b).length ≤ (1000000000 : Nat) ∧ (List.replicate (↑(Pl.mtx m (Int.toNat (65 : Int))).length : Int).toNat (0 : Int)).length ≤ (1000000000 : Nat)) ∧ Br (!Pl.denies (Pl.qF (D.rptr (fieldC (Pl.someQ o (300 : Int))))) (Pl.mtx m (Int.toNat (65 : Int))) (List.take (Int.toNat (70 : Int)) b) (List.replicate (↑(Pl.mtx m (Int.toNat (65 : Int))).length : Int).toNat (0 : Int))) (True ∧ (true, ()) = C8.post (o, m, b, ())) ((false, ()) = C8.post (o, m, b, ()))) ((false, ()) = C8.post (o, m, b, ()))) ((false, ()) = C8.post (o, m, b, ()))) ((false, ()) = C8.post (o, m, b, ()))) ((false, ()) = C8.post (o, m, b, ()))) (True ∧ (true, ()) = C8.post (o, m, b, ())))))) (((0 : Int) ≤ (70 : Int) ∧ (70 : Int) ≤ (1000 : Int)) ∧ (Pl.okSy (D.rptr (fieldC (Pl.someQ o (300 : Int))), Pl.mtx m (Int.toNat (65 : Int)), List.take (Int.toNat (70 : Int)) b, ()) ∧ True) ∧ ((0 : Int) ≤ (70 : Int) ∧ (70 : Int) ≤ (1000 : Int)) ∧ (Pl.okSy (D.rptr (fieldC (Pl.someQ o (300 : Int))), Pl.mtx m (Int.toNat (65 : Int)), List.take (Int.toNat (70 : Int)) b, ()) ∧ True) ∧ Br (Pl.shape (Pl.someQ o (300 : Int)) (Pl.mtx m (Int.toNat (65 : Int))) != (0 : Int)) (Br ((Pl.solve (Pl.qF (D.rptr (fieldC (Pl.someQ o (300 : Int))))) (Pl.mtx m (Int.toNat (65 : Int))) (List.take (Int.toNat (70 : Int)) b)).snd == Pl.shape (Pl.someQ o (300 : Int)) (Pl.mtx m (Int.toNat (65 : Int)))) (Br ((↑(Pl.solve (Pl.qF (D.rptr (fieldC (Pl.someQ o (300 : Int))))) (Pl.mtx m (Int.toNat (65 : Int))) (List.take (Int.toNat (70 : Int)) b)).fst.length : Int) == (0 : Int)) (Br (!(Pl.deny (Pl.qF (D.rptr (fieldC (Pl.someQ o (300 : Int))))) (Pl.mtx m (Int.toNat (65 : Int))) (List.take (Int.toNat (70 : Int)) b)).snd) (Br ((↑(Pl.deny (Pl.qF (D.rptr (fieldC (Pl.someQ o (300 : Int))))) (Pl.mtx m (Int.toNat (65 : Int))) (List.take (Int.toNat (70 : Int)) b)).fst.length : Int) == (0 : Int)) (((0 : Int) ≤ (70 : Int) ∧ (70 : Int) ≤ (1000 : Int)) ∧ (0 : Int) ≤ (↑(Pl.mtx m (Int.toNat (65 : Int))).length : Int) ∧ (↑(Pl.mtx m (Int.toNat (65 : Int))).length : Int) = (↑(Pl.mtx m (Int.toNat (65 : Int))).length : Int) ∧ (↑(Pl.mtx m (Int.toNat (65 : Int))).length : Int) * (8 : Int) ≤ (140737488355328 : Int) ∧ (Pl.okF (D.rptr (fieldC (Pl.someQ o (300 : Int)))) ∧ Pl.okMM (Pl.mtx m (Int.toNat (65 : Int))) ∧ (List.take (Int.toNat (70 : Int)) b).length ≤ (1000000000 : Nat) ∧ (List.replicate (↑(Pl.mtx m (Int.toNat (65 : Int))).length : Int).toNat (0 : Int)).length ≤ (1000000000 : Nat)) ∧ Br (!Pl.denies (Pl.qF (D.rptr (fieldC (Pl.someQ o (300 : Int))))) (Pl.mtx m (Int.toNat (65 : Int))) (List.take (Int.toNat (70 : Int)) b) (List.replicate (↑(Pl.mtx m (Int.toNat (65 : Int))).length : Int).toNat (0 : Int))) (True ∧ (true, ()) = C8.post (o, m, b, ())) ((false, ()) = C8.post (o, m, b, ()))) ((false, ()) = C8.post (o, m, b, ()))) ((false, ()) = C8.post (o, m, b, ()))) ((false, ()) = C8.post (o, m, b, ()))) ((false, ()) = C8.post (o, m, b, ()))) (((0 : Int) ≤ (70 : Int) ∧ (70 : Int) ≤ (1000 : Int)) ∧ Br ((↑(List.take (Int.toNat (70 : Int)) b).length : Int) != (↑(Pl.mtx m (Int.toNat (65 : Int))).length : Int)) (Br ((Pl.solve (Pl.qF (D.rptr (fieldC (Pl.someQ o (300 : Int))))) (Pl.mtx m (Int.toNat (65 : Int))) (List.take (Int.toNat (70 : Int)) b)).snd == (7 : Int)) (Br ((↑(Pl.solve (Pl.qF (D.rptr (fieldC (Pl.someQ o (300 : Int))))) (Pl.mtx m (Int.toNat (65 : Int))) (List.take (Int.toNat (70 : Int)) b)).fst.length : Int) == (0 : Int)) (Br (!(Pl.deny (Pl.qF (D.rptr (fieldC (Pl.someQ o (300 : Int))))) (Pl.mtx m (Int.toNat (65 : Int))) (List.take (Int.toNat (70 : Int)) b)).snd) (Br ((↑(Pl.deny (Pl.qF (D.rptr (fieldC (Pl.someQ o (300 : Int))))) (Pl.mtx m (Int.toNat (65 : Int))) (List.take (Int.toNat (70 : Int)) b)).fst.length : Int) == (0 : Int)) (((0 : Int) ≤ (70 : Int) ∧ (70 : Int) ≤ (1000 : Int)) ∧ (0 : Int) ≤ (↑(Pl.mtx m (Int.toNat (65 : Int))).length : Int) ∧ (↑(Pl.mtx m (Int.toNat (65 : Int))).length : Int) = (↑(Pl.mtx m (Int.toNat (65 : Int))).length : Int) ∧ (↑(Pl.mtx m (Int.toNat (65 : Int))).length : Int) * (8 : Int) ≤ (140737488355328 : Int) ∧ (Pl.okF (D.rptr (fieldC (Pl.someQ o (300 : Int)))) ∧ Pl.okMM (Pl.mtx m (Int.toNat (65 : Int))) ∧ (List.take (Int.toNat (70 : Int)) b).length ≤ (1000000000 : Nat) ∧ (List.replicate (↑(Pl.mtx m (Int.toNat (65 : Int))).length : Int).toNat (0 : Int)).length ≤ (1000000000 : Nat)) ∧ Br (!Pl.denies (Pl.qF (D.rptr (fieldC (Pl.someQ o (300 : Int))))) (Pl.mtx m (Int.toNat (65 : Int))) (List.take (Int.toNat (70 : Int)) b) (List.replicate (↑(Pl.mtx m (Int.toNat (65 : Int))).length : Int).toNat (0 : Int))) (True ∧ (true, ()) = C8.post (o, m, b, ())) ((false, ()) = C8.post (o, m, b, ()))) ((false, ()) = C8.post (o, m, b, ()))) ((false, ()) = C8.post (o, m, b, ()))) ((false, ()) = C8.post (o, m, b, ()))) ((false, ()) = C8.post (o, m, b, ()))) (((0 : Int) ≤ (70 : Int) ∧ (70 : Int) ≤ (1000 : Int)) ∧ (Pl.okr (Pl.someQ o (300 : Int), Pl.lpf (Pl.someQ o (300 : Int)), Pl.K (Pl.someQ o (300 : Int)), Pl.Mod (Pl.someQ o (300 : Int)), ()) ∧ (List.take (Int.toNat (70 : Int)) b).length ≤ (1000000000 : Nat)) ∧ Br (!Pl.els (Pl.someQ o (300 : Int)) (List.take (Int.toNat (70 : Int)) b)) (Br ((Pl.solve (Pl.qF (D.rptr (fieldC (Pl.someQ o (300 : Int))))) (Pl.mtx m (Int.toNat (65 : Int))) (List.take (Int.toNat (70 : Int)) b)).snd == (1 : Int)) (Br ((↑(Pl.solve (Pl.qF (D.rptr (fieldC (Pl.someQ o (300 : Int))))) (Pl.mtx m (Int.toNat (65 : Int))) (List.take (Int.toNat (70 : Int)) b)).fst.length : Int) == (0 : Int)) (Br (!(Pl.deny (Pl.qF (D.rptr (fieldC (Pl.someQ o (300 : Int))))) (Pl.mtx m (Int.toNat (65 : Int))) (List.take (Int.toNat (70 : Int)) b)).snd) (Br ((↑(Pl.deny (Pl.qF (D.rptr (fieldC (Pl.someQ o (300 : Int))))) (Pl.mtx m (Int.toNat (65 : Int))) (List.take (Int.toNat (70 : Int)) b)).fst.length : Int) == (0 : Int)) (((0 : Int) ≤ (70 : Int) ∧ (70 : Int) ≤ (1000 : Int)) ∧ (0 : Int) ≤ (↑(Pl.mtx m (Int.toNat (65 : Int))).length : Int) ∧ (↑(Pl.mtx m (Int.toNat (65 : Int))).length : Int) = (↑(Pl.mtx m (Int.toNat (65 : Int))).length : Int) ∧ (↑(Pl.mtx m (Int.toNat (65 : Int))).length : Int) * (8 : Int) ≤ (140737488355328 : Int) ∧ (Pl.okF (D.rptr (fieldC (Pl.someQ o (300 : Int)))) ∧ Pl.okMM (Pl.mtx m (Int.toNat (65 : Int))) ∧ (List.take (Int.toNat (70 : Int)) b).length ≤ (1000000000 : Nat) ∧ (List.replicate (↑(Pl.mtx m (Int.toNat (65 : Int))).length : Int).toNat (0 : Int)).length ≤ (1000000000 : Nat)) ∧ Br (!Pl.denies (Pl.qF (D.rptr (fieldC (Pl.someQ o (300 : Int))))) (Pl.mtx m (Int.toNat (65 : Int))) (List.take (Int.toNat (70 : Int)) b) (List.replicate (↑(Pl.mtx m (Int.toNat (65 : Int))).length : Int).toNat (0 : Int))) (True ∧ (true, ()) = C8.post (o, m, b, ())) ((false, ()) = C8.post (o, m, b, ()))) ((false, ()) = C8.post (o, m, b, ()))) ((false, ()) = C8.post (o, m, b, ()))) ((false, ()) = C8.post (o, m, b, ()))) ((false, ()) = C8.post (o, m, b, ()))) (True ∧ (true, ()) = C8.post (o, m, b, ()))))))) (by kernel_rfl) ?_
  have hq := someQ_isQ o 300
  generalize Pl.someQ o 300 = q at *
  rw [qF_f]
  have hr : Pl.okr (q, Pl.lpf q, Pl.K q, Pl.Mod q, ()) := okr_RF hq
  have oF := okF_f hq
  obtain ⟨k1, k2⟩ := mtx_ok m (Int.toNat 65)
  have k3 : (List.take (Int.toNat 70) b).length ≤ 70 := by rw [List.length_take]; show min 70 _ ≤ 70; omega
  generalize Pl.mtx m (Int.toNat 65) = M at *
  generalize List.take (Int.toNat 70) b = B at *
  have k1 : M.length ≤ 65 := k1
  have k2 : ∀ r ∈ M, r.length ≤ 65 := k2
  have hMM : Pl.okMM M := ⟨by omega, fun r hr => by have := k2 r hr; omega⟩
  have hSy : Pl.okSy (D.rptr (fieldC q), M, B, ()) := ⟨oF, hMM, by show B.length ≤ _; omega⟩
  have h70 : (0 : Int) ≤ 70 ∧ (70 : Int) ≤ 1000 := ⟨by omega, by omega⟩
  have hrep : (List.replicate (M.length : Int).toNat (0 : Int)).length ≤ 1000000000 := by rw [List.length_replicate, Int.toNat_natCast]; omega
  have hD : Pl.okF (D.rptr (fieldC q)) ∧ Pl.okMM M ∧ B.length ≤ (1000000000 : Nat) ∧ (List.replicate (M.length : Int).toNat (0 : Int)).length ≤ (1000000000 : Nat) := ⟨oF, hMM, by omega, hrep⟩
  refine ⟨trivial, ⟨by omega, by omega⟩, ⟨hr, hMM⟩, ⟨oF, hMM⟩, Br_ne (Br_of (fun h => ?_) (fun h => ?_))⟩
  · have h : Pl.shape q M ≠ 0 := by simpa using h
    have hs : Pl.sys q M B = Pl.shape q M := by unfold Pl.sys; rw [decide_eq_true h]; rfl
    have hn : Pl.sys q M B ≠ 0 := by rw [hs]; exact h
    rw [decide_eq_true h, solve_bad hn, deny_bad hn, denies_bad hn, hs]
    exact Br_n2 rfl ⟨h70, ⟨hSy, trivial⟩, h70, ⟨hSy, trivial⟩, Br_of (fun _ => Br_eq (Br_eq (a := 0) (show Br true _ _ from Br_eq (a := 0) ⟨h70, by omega, rfl, by omega, hD, show True ∧ _ = _ from ⟨trivial, rfl⟩⟩))) (fun h' => absurd h (by simpa using h'))⟩
  · have h : Pl.shape q M = 0 := by simpa using h
    refine ⟨h70, ⟨hSy, trivial⟩, h70, ⟨hSy, trivial⟩, Br_of (fun h' => absurd h (by simpa using h')) (fun _ => ⟨h70, Br_of (fun h1 => ?_) (fun h1 => ⟨h70, ⟨hr, by omega⟩, Br_of (fun h2 => ?_) (fun h2 => ⟨trivial, rfl⟩)⟩)⟩)⟩
    · have h1 : B.length ≠ M.length := by have : (B.length : Int) ≠ M.length := by simpa using h1
                                          omega
      have hs : Pl.sys q M B = 7 := by unfold Pl.sys; rw [decide_eq_false (not_not_intro h), decide_eq_true h1]; rfl
      have hn : Pl.sys q M B ≠ 0 := by rw [hs]; omega
      rw [solve_bad hn, deny_bad hn, denies_bad hn, hs]
      exact Br_eq (Br_eq (a := 0) (show Br true _ _ from Br_eq (a := 0) ⟨h70, by omega, rfl, by omega, hD, show True ∧ _ = _ from ⟨trivial, rfl⟩⟩))
    · have h1 : B.length = M.length := by have : (B.length : Int) = M.length := by simpa using h1
                                          omega
      have h2 : Pl.els q B = false := by simpa using h2
      have hs : Pl.sys q M B = 1 := by unfold Pl.sys; rw [decide_eq_false (not_not_intro h), decide_eq_false (not_not_intro h1), h2]; rfl
      have hn : Pl.sys q M B ≠ 0 := by rw [hs]; omega
      rw [solve_bad hn, deny_bad hn, denies_bad hn, hs]
      exact Br_eq (Br_eq (a := 0) (show Br true _ _ from Br_eq (a := 0) ⟨h70, by omega, rfl, by omega, hD, show True ∧ _ = _ from ⟨trivial, rfl⟩⟩))
theorem snd8 : Sound Try.prog 8 C8 := fn_sound (T := T8) (fn := Try.f8) (tok0 ⟨snd19, snd25, snd43, snd44, snd47, snd22, snd45, snd46, snd27, snd24, trivial⟩) Try.func8 (by kernel_rfl) H8 vc8 (by kernel_rfl)
end Fd
end
section
/- FieldDenies: contracts. -/
set_option linter.unusedVariables false
set_option linter.unusedSimpArgs false
set_option maxRecDepth 100000
namespace Fd
open Go Fw Go.Proofs

def Pl.most (n : Int) : Prop := 0 ≤ n ∧ n ≤ 1000
def C26 : Con := ⟨[G4, L, I], [L], fun (x : R4 × List Int × Int × Unit) => Pl.okr x.1 ∧ Pl.most x.2.2.1, fun (x : R4 × List Int × Int × Unit) => ((x.2.1.take x.2.2.1.toNat).map (· % x.1.1), ()), some 3⟩
def H26 : Hints := ⟨[], [(1, [3])], [(0, ⟨[1, 2, 3], [(7, so), (8, si)]⟩)], [], []⟩
def T26 : Ctx := TT [(29, C29)]
def Pl.tmr (q : Int) (r : List Int) (n : Nat) : List Int := (List.range n).map fun c => bif decide (c < r.length) then r.getD c 0 % q else 0
def Pl.tame (q : Int) (m : List (List Int)) (n : Nat) : List (List Int) := (m.take n).map fun r => Pl.tmr q r (min (Pl.wide m) n)
def C20 : Con := ⟨[G4, LL, I], [LL], fun (x : R4 × List (List Int) × Int × Unit) => Pl.okr x.1 ∧ Pl.most x.2.2.1, fun (x : R4 × List (List Int) × Int × Unit) => (Pl.tame x.1.1 x.2.1 x.2.2.1.toNat, ()), none⟩
def H20 : Hints := ⟨[], [(1, [3]), (13, [1000009])], [(0, ⟨[1, 2, 3], [(7, soo), (8, si)]⟩), (2, ⟨[1, 2, 3, 8], [(7, soo), (9, so), (10, si)]⟩)], [], []⟩
def C21 : Con := ⟨[LL], [I], fun (x : List (List Int) × Unit) => True, fun (x : List (List Int) × Unit) => ((Pl.wide x.1 : Int), ()), none⟩
def C28 : Con := ⟨[G4, LL, L, L], [B], fun (x : R4 × List (List Int) × List Int × List Int × Unit) => Pl.okr x.1 ∧ Pl.okMM x.2.1 ∧ x.2.2.1.length ≤ 1000000000 ∧ x.2.2.2.1.length ≤ 1000000000, fun (x : R4 × List (List Int) × List Int × List Int × Unit) => (Pl.denies x.1.1 x.2.1 x.2.2.1 x.2.2.2.1, ()), none⟩
def H28 : Hints := ⟨[], [(1, [4])], [(0, ⟨[1, 2, 3, 4], [(9, si)]⟩), (2, ⟨[1, 2, 3, 4, 9], [(10, si), (11, si)]⟩), (4, ⟨[2, 3, 4], [(12, si), (13, si)]⟩)], [], []⟩
def T28 : Ctx := TT [(44, C44), (47, C47), (21, C21), (35, C35), (31, C31)]
abbrev P2 : Ar := .ty (.pair (.slc i64) (.pair (.slc i64) .unit))
def C4 : Con := ⟨[I, LL, P2], [B], fun _ => True, fun _ => (true, ()), none⟩
def T4 : Ctx := ⟨tt, [(19, C19), (20, C20), (25, C25), (26, C26), (27, C27), (28, C28), (24, C24)], [], none, [], 100, [0], [], 0, [(41, 0), (46, 0), (54, 0), (62, 0)], [(0, .aren 3 i64 [])], [], []⟩
abbrev sv : Sh := .ty (.ref 0)
abbrev sR : Sh := .box [I, I, I, I]
def H4 : Hints := ⟨[41, 46], [], [(0, ⟨[7, 8, 9, 11], [(10, sR), (12, si), (0, s0)]⟩), (2, ⟨[7, 8, 9, 11, 12, 14], [(10, sR), (13, sv), (0, s0)]⟩), (4, ⟨[7, 8, 9, 11, 12, 13], [(10, sR), (14, sv), (0, s0)]⟩)], [], []⟩

end Fd
end
section
/- FieldDenies. -/
set_option linter.unusedVariables false
set_option linter.unusedSimpArgs false
set_option maxRecDepth 100000
namespace Fd
open Go Fw Go.Proofs

theorem vc21 : ∀ x, C21.pre x → VC (TT []) H0 Try.f21 C21 x := by
  rintro ⟨(m : List (List Int)), ⟨⟩⟩ -
  refine cast (α := Br ((↑m.length : Int) == (0 : Int)) (((0 : Int), ()) = C21.post (m, ())) ((0 : Int) ≤ (0 : Int) ∧ (0 : Int) < (↑m.length : Int) ∧ ((↑(List.length (rd i64.slc m (0 : Int))) : Int), ()) = C21.post (m, ()))) (by kernel_rfl) ?_
  have hp : C21.post (m, ()) = ((Pl.wide m : Int), ()) := rfl
  rw [hp, rd_r0]
  refine Br_of (fun h => ?_) (fun h => ?_)
  · have h : m.length = 0 := by have := eq_of_beq h; omega
    have : m = [] := List.length_eq_zero_iff.1 h
    subst this; rfl
  · have h : m.length ≠ 0 := fun e => by rw [e] at h; cases h
    exact ⟨by omega, by omega, rfl⟩
theorem map_snoc {l : List Int} (f : Int → Int) {i k : Nat} (hi : i < l.length) (hk : i < k) : ((l.take k).take i).map f ++ [f (l.getD i 0)] = ((l.take k).take (i + 1)).map f := by
  have hi' : i < (l.take k).length := by rw [List.length_take]; omega
  rw [List.take_succ_eq_append_getElem hi', List.map_append, List.getElem_take, List.getD_eq_getElem?_getD, List.getElem?_eq_getElem hi]; rfl
theorem vc26 : ∀ x, C26.pre x → VC T26 H26 Try.f26 C26 x := by
  rintro ⟨⟨(q : Int), (p : Int), (k : Int), (m0 : Int), ⟨⟩⟩, (l : List Int), (n : Int), ⟨⟩⟩ ⟨(h0 : Pl.okr _), (n0 : 0 ≤ n), (n1 : n ≤ 1000)⟩
  obtain ⟨hq, _, _, _⟩ := okr_open h0
  refine cast (α := ∃ (n_1 : Nat), itl (fun (G : List Int × Int × PUnit → Prop) (x : List Int × Int × PUnit) => Br (decide (x.snd.fst < (↑l.length : Int))) (Br (decide (x.snd.fst < n)) ((0 : Int) ≤ x.snd.fst ∧ x.snd.fst < (↑l.length : Int) ∧ Pl.okr (q, p, k, m0, ()) ∧ ((↑(List.length x.fst) : Int) + (↑[rd i64 l x.snd.fst % q].length : Int)) * (8 : Int) ≤ (140737488355328 : Int) ∧ G (List.append x.fst [rd i64 l x.snd.fst % q], IntKind.i64.wrap (x.snd.fst + (1 : Int)), ())) ((x.1, ()) = C26.post ((q, p, k, m0, ()), l, n, ()))) ((x.1, ()) = C26.post ((q, p, k, m0, ()), l, n, ()))) n_1 ([], (0 : Int), ())) (by kernel_rfl) ?_
  obtain ⟨u, rfl⟩ : ∃ u : Nat, n = u := ⟨n.toNat, by omega⟩
  have hp : C26.post ((q, p, k, m0, ()), l, (u : Int), ()) = ((l.take u).map (· % q), ()) := rfl
  rw [hp]
  refine itl_rule (fun s => ∃ i : Nat, s.2.1 = (i : Int) ∧ i ≤ l.length ∧ i ≤ u ∧ s.1 = ((l.take u).take i).map (· % q)) (fun s => ((u : Int) - s.2.1).toNat) ⟨0, rfl, Nat.zero_le _, Nat.zero_le _, rfl⟩ ?_
  rintro ⟨out, i0, ⟨⟩⟩ G ⟨i, e, hi, hu, ho⟩ hG
  simp only at e ho hG ⊢
  subst e ho
  refine Br_of (fun h => Br_of (fun h1 => ?_) (fun h1 => ?_)) (fun h => ?_)
  · have h : i < l.length := by have := of_decide_eq_true h; omega
    have h1 : i < u := by have := of_decide_eq_true h1; omega
    rw [rd_i, wrap_i64 (by omega) (by omega)]
    exact ⟨by omega, by omega, h0, by simp only [List.length_singleton, List.length_map, List.length_take]; omega, hG _ ⟨i + 1, rfl, by omega, by omega, map_snoc (· % q) h h1⟩ (by simp only; omega)⟩
  · have h1 : i = u := by have := of_decide_eq_false h1; omega
    subst h1
    rw [List.take_take, Nat.min_self]
  · have h : i = l.length := by have := of_decide_eq_false h; omega
    subst h
    rw [List.take_take, Nat.min_eq_left hu, List.take_length, List.take_of_length_le hu]
theorem tmr_snoc (f : Nat → Int) (c : Nat) : (List.range c).map f ++ [f c] = (List.range (c + 1)).map f := by
  rw [List.range_succ, List.map_append]; rfl
theorem rows_snoc {m : List (List Int)} (f : List Int → List Int) {i k : Nat} (hi : i < m.length) (hk : i < k) : ((m.take k).take i).map f ++ [f (m.getD i [])] = ((m.take k).take (i + 1)).map f := by
  have hi' : i < (m.take k).length := by rw [List.length_take]; omega
  rw [List.take_succ_eq_append_getElem hi', List.map_append, List.getElem_take, List.getD_eq_getElem?_getD, List.getElem?_eq_getElem hi]; rfl
theorem vc20 : ∀ x, C20.pre x → VC T26 H20 Try.f20 C20 x := by
  rintro ⟨⟨(q : Int), (p : Int), (k : Int), (m0 : Int), ⟨⟩⟩, (m : List (List Int)), (n : Int), ⟨⟩⟩ ⟨(h0 : Pl.okr _), (n0 : 0 ≤ n), (n1 : n ≤ 1000)⟩
  obtain ⟨hq, _, _, _⟩ := okr_open h0
  refine cast (α := ∃ (n_1 : Nat), itl (fun (G : List (List Int) × Int × PUnit → Prop) (x : List (List Int) × Int × PUnit) => Br (decide (x.snd.fst < (↑m.length : Int))) (Br (decide (x.snd.fst < n)) (∃ (n_2 : Nat), itl (fun (G_1 : List (List Int) × List Int × Int × PUnit → Prop) (x_1 : List (List Int) × List Int × Int × PUnit) => (0 : Int) ≤ (0 : Int) ∧ (0 : Int) < (↑m.length : Int) ∧ Br (decide (x_1.snd.snd.fst < (↑(List.length (rd i64.slc m (0 : Int))) : Int))) (Br (decide (x_1.snd.snd.fst < n)) ((0 : Int) ≤ x.snd.fst ∧ x.snd.fst < (↑m.length : Int) ∧ Br (decide (x_1.snd.snd.fst < (↑(List.length (rd i64.slc m x.snd.fst)) : Int))) ((0 : Int) ≤ x.snd.fst ∧ x.snd.fst < (↑m.length : Int) ∧ (0 : Int) ≤ x_1.snd.snd.fst ∧ x_1.snd.snd.fst < (↑(List.length (rd i64.slc m x.snd.fst)) : Int) ∧ Pl.okr (q, p, k, m0, ()) ∧ ((↑(List.length x_1.snd.fst) : Int) + (↑[rd i64 (rd i64.slc m x.snd.fst) x_1.snd.snd.fst % q].length : Int)) * (8 : Int) ≤ (140737488355328 : Int) ∧ G_1 (x_1.1, List.append x_1.snd.fst [rd i64 (rd i64.slc m x.snd.fst) x_1.snd.snd.fst % q], IntKind.i64.wrap (x_1.snd.snd.fst + (1 : Int)), ())) (((↑(List.length x_1.snd.fst) : Int) + (↑[(0 : Int)].length : Int)) * (8 : Int) ≤ (140737488355328 : Int) ∧ G_1 (x_1.1, List.append x_1.snd.fst [(0 : Int)], IntKind.i64.wrap (x_1.snd.snd.fst + (1 : Int)), ()))) (((↑(List.length x_1.fst) : Int) + (↑[x_1.snd.1].length : Int)) * (24 : Int) ≤ (140737488355328 : Int) ∧ G (List.append x_1.fst [x_1.snd.1], IntKind.i64.wrap (x.snd.fst + (1 : Int)), ()))) (((↑(List.length x_1.fst) : Int) + (↑[x_1.snd.1].length : Int)) * (24 : Int) ≤ (140737488355328 : Int) ∧ G (List.append x_1.fst [x_1.snd.1], IntKind.i64.wrap (x.snd.fst + (1 : Int)), ()))) n_2 (x.1, [], (0 : Int), ())) ((x.1, ()) = C20.post ((q, p, k, m0, ()), m, n, ()))) ((x.1, ()) = C20.post ((q, p, k, m0, ()), m, n, ()))) n_1 ([], (0 : Int), ())) (by kernel_rfl) ?_
  obtain ⟨u, rfl⟩ : ∃ u : Nat, n = u := ⟨n.toNat, by omega⟩
  have hp : C20.post ((q, p, k, m0, ()), m, (u : Int), ()) = ((m.take u).map (fun r => Pl.tmr q r (min (Pl.wide m) u)), ()) := rfl
  rw [hp, rd_r0]
  refine itl_rule (fun s => ∃ i : Nat, s.2.1 = (i : Int) ∧ i ≤ m.length ∧ i ≤ u ∧ s.1 = ((m.take u).take i).map (fun r => Pl.tmr q r (min (Pl.wide m) u))) (fun s => ((u : Int) - s.2.1).toNat) ⟨0, rfl, Nat.zero_le _, Nat.zero_le _, rfl⟩ ?_
  rintro ⟨out, i0, ⟨⟩⟩ G ⟨i, e, hi, hu, ho⟩ hG
  simp only at e ho hG ⊢
  subst e ho
  refine Br_of (fun h => Br_of (fun h1 => ?_) (fun h1 => ?_)) (fun h => ?_)
  · have h : i < m.length := by have := of_decide_eq_true h; omega
    have h1 : i < u := by have := of_decide_eq_true h1; omega
    have hw : (m.getD 0 []).length = Pl.wide m := rfl
    rw [rd_r, hw, wrap_i64 (x := (i : Int) + 1) (by omega) (by omega)]
    have fin : ∀ c : Nat, c = min (Pl.wide m) u → (((((m.take u).take i).map (fun r => Pl.tmr q r (min (Pl.wide m) u))).length : Int) + (([(List.range c).map fun c => bif decide (c < (m.getD i []).length) then (m.getD i []).getD c 0 % q else 0] : List (List Int)).length : Int)) * (24 : Int) ≤ (140737488355328 : Int) ∧
        G ((((m.take u).take i).map (fun r => Pl.tmr q r (min (Pl.wide m) u))) ++ [(List.range c).map fun c => bif decide (c < (m.getD i []).length) then (m.getD i []).getD c 0 % q else 0], (i : Int) + 1, ()) := fun c hc => by
      subst hc
      refine ⟨by simp only [List.length_singleton, List.length_map, List.length_take]; omega, hG _ ⟨i + 1, rfl, by omega, by omega, ?_⟩ (by simp only; omega)⟩
      exact rows_snoc (fun r => Pl.tmr q r (min (Pl.wide m) u)) h h1
    refine itl_rule (fun s => ∃ c : Nat, s.2.2.1 = (c : Int) ∧ c ≤ Pl.wide m ∧ c ≤ u ∧ s.2.1 = ((List.range c).map fun c => bif decide (c < (m.getD i []).length) then (m.getD i []).getD c 0 % q else 0) ∧ s.1 = ((m.take u).take i).map (fun r => Pl.tmr q r (min (Pl.wide m) u))) (fun s => ((u : Int) - s.2.2.1).toNat) ⟨0, rfl, Nat.zero_le _, Nat.zero_le _, rfl, rfl⟩ ?_
    rintro ⟨out, row, c0, ⟨⟩⟩ G1 ⟨c, e, hc, hcu, hrow, ho⟩ hG1
    simp only at e hrow ho hG1 ⊢
    subst e hrow ho
    refine ⟨by omega, by omega, Br_of (fun h2 => Br_of (fun h3 => ?_) (fun h3 => ?_)) (fun h2 => ?_)⟩
    · have h2 : c < Pl.wide m := by have := of_decide_eq_true h2; omega
      have h3 : c < u := by have := of_decide_eq_true h3; omega
      rw [wrap_i64 (x := (c : Int) + 1) (by omega) (by omega)]
      refine ⟨by omega, by omega, Br_of (fun h4 => ?_) (fun h4 => ?_)⟩
      · have h4 : c < (m.getD i []).length := by have := of_decide_eq_true h4; omega
        rw [rd_i]
        refine ⟨by omega, by omega, by omega, by omega, h0, by simp only [List.length_singleton, List.length_map, List.length_range]; omega, hG1 _ ⟨c + 1, rfl, by omega, by omega, ?_, rfl⟩ (by simp only; omega)⟩
        rw [← tmr_snoc, decide_eq_true h4]; rfl
      · have h4 : ¬ c < (m.getD i []).length := by have := of_decide_eq_false h4; omega
        refine ⟨by simp only [List.length_singleton, List.length_map, List.length_range]; omega, hG1 _ ⟨c + 1, rfl, by omega, by omega, ?_, rfl⟩ (by simp only; omega)⟩
        rw [← tmr_snoc, decide_eq_false h4]; rfl
    · have h2 : c < Pl.wide m := by have := of_decide_eq_true h2; omega
      have h3 : c = u := by have := of_decide_eq_false h3; omega
      exact fin c (by omega)
    · have h2 : c = Pl.wide m := by have := of_decide_eq_false h2; omega
      exact fin c (by omega)
  · have h1 : i = u := by have := of_decide_eq_false h1; omega
    subst h1
    rw [List.take_take, Nat.min_self]
  · have h : i = m.length := by have := of_decide_eq_false h; omega
    subst h
    rw [List.take_take, Nat.min_eq_left hu, List.take_length, List.take_of_length_le hu]
theorem snd21 : Sound Try.prog 21 C21 := fn_sound (T := TT []) (fn := Try.f21) (tok0 trivial) Try.func21 (by kernel_rfl) H0 vc21 (by kernel_rfl)
theorem snd26 : Sound Try.prog 26 C26 := fn_sound (T := T26) (fn := Try.f26) (tok0 ⟨snd29, trivial⟩) Try.func26 (by kernel_rfl) H26 vc26 (by kernel_rfl)
theorem snd20 : Sound Try.prog 20 C20 := fn_sound (T := T26) (fn := Try.f20) (tok0 ⟨snd29, trivial⟩) Try.func20 (by kernel_rfl) H20 vc20 (by kernel_rfl)
theorem dotL_nil {q : Int} {s : Int} {a : List Int} : Pl.dotL q s a [] = s := by cases a <;> rfl
theorem vc28 : ∀ x, C28.pre x → VC T28 H28 Try.f28 C28 x := by
  rintro ⟨⟨(q : Int), (p : Int), (k : Int), (m0 : Int), ⟨⟩⟩, (m : List (List Int)), (b : List Int), (w : List Int), ⟨⟩⟩ ⟨(h0 : Pl.okr _), (hm : Pl.okMM m), (hb : b.length ≤ 1000000000), (hw : w.length ≤ 1000000000)⟩
  obtain ⟨hq, _, _, _⟩ := okr_open h0
  refine cast (α := (Pl.okr (q, p, k, m0, ()) ∧ Pl.okMM m) ∧ Br (Pl.shape q m != (0 : Int)) ((false, ()) = C28.post ((q, p, k, m0, ()), m, b, w, ())) (Br ((↑b.length : Int) != (↑m.length : Int)) ((false, ()) = C28.post ((q, p, k, m0, ()), m, b, w, ())) ((Pl.okr (q, p, k, m0, ()) ∧ b.length ≤ (1000000000 : Nat)) ∧ Br (!Pl.els q b) ((false, ()) = C28.post ((q, p, k, m0, ()), m, b, w, ())) (Br ((↑w.length : Int) != (↑m.length : Int)) ((false, ()) = C28.post ((q, p, k, m0, ()), m, b, w, ())) ((Pl.okr (q, p, k, m0, ()) ∧ w.length ≤ (1000000000 : Nat)) ∧ Br (!Pl.els q w) ((false, ()) = C28.post ((q, p, k, m0, ()), m, b, w, ())) (∃ (n : Nat), itl (fun (G : Int × PUnit → Prop) (x : Int × PUnit) => True ∧ Br (decide (x.fst < (↑(Pl.wide m) : Int))) (∃ (n : Nat), itl (fun (G_1 : Int × Int × PUnit → Prop) (x_1 : Int × Int × PUnit) => Br (decide (x_1.snd.fst < (↑m.length : Int))) ((0 : Int) ≤ x_1.snd.fst ∧ x_1.snd.fst < (↑w.length : Int) ∧ (0 : Int) ≤ x_1.snd.fst ∧ x_1.snd.fst < (↑m.length : Int) ∧ (0 : Int) ≤ x.fst ∧ x.fst < (↑(List.length (rd i64.slc m x_1.snd.fst)) : Int) ∧ (Pl.okr (q, p, k, m0, ()) ∧ Pl.inQ q (rd i64 w x_1.snd.fst) ∧ Pl.inQ q (rd i64 (rd i64.slc m x_1.snd.fst) x.fst)) ∧ (Pl.okr (q, p, k, m0, ()) ∧ Pl.inQ q x_1.fst ∧ Pl.inQ q (Pl.mul q (rd i64 w x_1.snd.fst) (rd i64 (rd i64.slc m x_1.snd.fst) x.fst))) ∧ G_1 (Pl.add q x_1.fst (Pl.mul q (rd i64 w x_1.snd.fst) (rd i64 (rd i64.slc m x_1.snd.fst) x.fst)), IntKind.i64.wrap (x_1.snd.fst + (1 : Int)), ())) (Br (x_1.fst != (0 : Int)) ((false, ()) = C28.post ((q, p, k, m0, ()), m, b, w, ())) (G (IntKind.i64.wrap (x.fst + (1 : Int)), ())))) n ((0 : Int), (0 : Int), ())) (∃ (n : Nat), itl (fun (G : Int × Int × PUnit → Prop) (x : Int × Int × PUnit) => Br (decide (x.snd.fst < (↑b.length : Int))) ((0 : Int) ≤ x.snd.fst ∧ x.snd.fst < (↑w.length : Int) ∧ (0 : Int) ≤ x.snd.fst ∧ x.snd.fst < (↑b.length : Int) ∧ (Pl.okr (q, p, k, m0, ()) ∧ Pl.inQ q (rd i64 w x.snd.fst) ∧ Pl.inQ q (rd i64 b x.snd.fst)) ∧ (Pl.okr (q, p, k, m0, ()) ∧ Pl.inQ q x.fst ∧ Pl.inQ q (Pl.mul q (rd i64 w x.snd.fst) (rd i64 b x.snd.fst))) ∧ G (Pl.add q x.fst (Pl.mul q (rd i64 w x.snd.fst) (rd i64 b x.snd.fst)), IntKind.i64.wrap (x.snd.fst + (1 : Int)), ())) ((x.fst != (0 : Int), ()) = C28.post ((q, p, k, m0, ()), m, b, w, ()))) n ((0 : Int), (0 : Int), ()))) n ((0 : Int), ()))))))) (by kernel_rfl) ?_
  have hp : C28.post ((q, p, k, m0, ()), m, b, w, ()) = (Pl.denies q m b w, ()) := rfl
  rw [hp]
  refine ⟨⟨h0, hm⟩, Br_of (fun h => ?_) (fun h => Br_of (fun h1 => ?_) (fun h1 => ⟨⟨h0, hb⟩, Br_of (fun h2 => ?_) (fun h2 => Br_of (fun h3 => ?_) (fun h3 => ⟨⟨h0, hw⟩, Br_of (fun h4 => ?_) (fun h4 => ?_)⟩))⟩))⟩
  · have h : Pl.shape q m ≠ 0 := by simpa using h
    rw [denies_bad]
    unfold Pl.sys; rw [decide_eq_true h]; exact h
  all_goals have h : Pl.shape q m = 0 := by simpa using h
  · have h1 : b.length ≠ m.length := by have : (b.length : Int) ≠ m.length := by simpa using h1
                                        omega
    rw [denies_bad]
    unfold Pl.sys; rw [decide_eq_false (not_not_intro h), decide_eq_true h1]; show (7 : Int) ≠ 0; omega
  all_goals have h1 : b.length = m.length := by have : (b.length : Int) = m.length := by simpa using h1
                                                omega
  · have h2 : Pl.els q b = false := by simpa using h2
    rw [denies_bad]
    unfold Pl.sys; rw [decide_eq_false (not_not_intro h), decide_eq_false (not_not_intro h1), h2]; show (1 : Int) ≠ 0; omega
  all_goals have h2 : Pl.els q b = true := by simpa using h2
  · have h3 : w.length ≠ m.length := by have : (w.length : Int) ≠ m.length := by simpa using h3
                                        omega
    unfold Pl.denies; rw [decide_eq_true h3, Bool.true_or, Bool.or_true]; rfl
  all_goals have h3 : w.length = m.length := by have : (w.length : Int) = m.length := by simpa using h3
                                                omega
  · unfold Pl.denies; rw [h4, Bool.or_true, Bool.or_true]; rfl
  have h4 : Pl.els q w = true := by simpa using h4
  have hs : Pl.sys q m b = 0 := by unfold Pl.sys; rw [decide_eq_false (not_not_intro h), decide_eq_false (not_not_intro h1), h2]; rfl
  obtain ⟨t1, t2, t3⟩ := shape_0 h
  have hwi := els_in h4
  have hbi := els_in h2
  have hd : Pl.denies q m b w = (Pl.cols0 q w m (Pl.wide m) 0 && decide (Pl.dot q w b ≠ 0)) := by
    unfold Pl.denies
    rw [decide_eq_false (not_not_intro hs), decide_eq_false (not_not_intro h3), h4]
    by_cases e : m.length = 0
    · have : m = [] := List.length_eq_zero_iff.1 e
      subst this
      have hw0 : w = [] := List.length_eq_zero_iff.1 h3
      subst hw0
      rfl
    · rw [decide_eq_false e]; rfl
  rw [hd]
  refine itl_rule (fun s => ∃ j : Nat, s.1 = (j : Int) ∧ j ≤ Pl.wide m ∧ Pl.cols0 q w m (Pl.wide m - j) j = Pl.cols0 q w m (Pl.wide m) 0) (fun s => ((Pl.wide m : Int) - s.1).toNat) ⟨0, rfl, Nat.zero_le _, rfl⟩ ?_
  rintro ⟨j0, ⟨⟩⟩ G ⟨j, e, hj, hf⟩ hG
  simp only at e hf hG ⊢
  subst e
  refine ⟨trivial, Br_of (fun h5 => ?_) (fun h5 => ?_)⟩
  · have h5 : j < Pl.wide m := by have := of_decide_eq_true h5; omega
    rw [show Pl.wide m - j = (Pl.wide m - (j + 1)) + 1 by omega, Pl.cols0] at hf
    refine itl_rule (fun s => ∃ i : Nat, s.2.1 = (i : Int) ∧ i ≤ m.length ∧ Pl.inQ q s.1 ∧ Pl.colS q j s.1 (w.drop i) (m.drop i) = Pl.colS q j 0 w m) (fun s => ((m.length : Int) - s.2.1).toNat) ⟨0, rfl, Nat.zero_le _, zero_inQ hq, rfl⟩ ?_
    rintro ⟨s, i0, ⟨⟩⟩ G1 ⟨i, e, hi, hsq, hc⟩ hG1
    simp only at e hsq hc hG1 ⊢
    subst e
    refine Br_of (fun h6 => ?_) (fun h6 => ?_)
    · have h6 : i < m.length := by have := of_decide_eq_true h6; omega
      obtain ⟨u1, u2⟩ := t3 _ (rowD_mem h6)
      rw [rd_r, rd_i, rd_i, wrap_i64 (by omega) (by omega)]
      rw [drop_cons 0 (show i < w.length by omega), drop_cons [] h6, Pl.colS] at hc
      exact ⟨by omega, by omega, by omega, by omega, by omega, by omega, ⟨h0, getD_inQ hwi (by omega), getD_inQ u2 (by omega)⟩, ⟨h0, hsq, mul_inQ hq _ _⟩, hG1 _ ⟨i + 1, rfl, by omega, add_inQ hq _ _, hc⟩ (by simp only; omega)⟩
    · have h6 : i = m.length := by have := of_decide_eq_false h6; omega
      subst h6
      rw [List.drop_length, ← h3, List.drop_length] at hc
      have hc : s = Pl.colS q j 0 w m := hc
      refine Br_of (fun h7 => ?_) (fun h7 => ?_)
      · have h7 : s ≠ 0 := by simpa using h7
        rw [← hc, decide_eq_true h7, cond_true] at hf
        rw [← hf]; rfl
      · have h7 : s = 0 := by simpa using h7
        rw [← hc, decide_eq_false (not_not_intro h7), cond_false] at hf
        rw [wrap_i64 (by omega) (by omega)]
        exact hG _ ⟨j + 1, rfl, by omega, hf⟩ (by simp only; omega)
  · have h5 : j = Pl.wide m := by have := of_decide_eq_false h5; omega
    subst h5
    rw [Nat.sub_self, Pl.cols0] at hf
    rw [← hf, Bool.true_and]
    refine itl_rule (fun s => ∃ i : Nat, s.2.1 = (i : Int) ∧ i ≤ b.length ∧ Pl.inQ q s.1 ∧ Pl.dotL q s.1 (w.drop i) (b.drop i) = Pl.dot q w b) (fun s => ((b.length : Int) - s.2.1).toNat) ⟨0, rfl, Nat.zero_le _, zero_inQ hq, rfl⟩ ?_
    rintro ⟨s, i0, ⟨⟩⟩ G1 ⟨i, e, hi, hsq, hc⟩ hG1
    simp only at e hsq hc hG1 ⊢
    subst e
    refine Br_of (fun h6 => ?_) (fun h6 => ?_)
    · have h6 : i < b.length := by have := of_decide_eq_true h6; omega
      rw [rd_i, rd_i, wrap_i64 (by omega) (by omega)]
      rw [drop_cons 0 (show i < w.length by omega), drop_cons 0 h6, Pl.dotL] at hc
      exact ⟨by omega, by omega, by omega, by omega, ⟨h0, getD_inQ hwi (by omega), getD_inQ hbi h6⟩, ⟨h0, hsq, mul_inQ hq _ _⟩, hG1 _ ⟨i + 1, rfl, by omega, add_inQ hq _ _, hc⟩ (by simp only; omega)⟩
    · have h6 : i = b.length := by have := of_decide_eq_false h6; omega
      subst h6
      rw [List.drop_length, dotL_nil] at hc
      rw [← hc]
      congr 1
      by_cases e : s = 0
      · rw [e]; rfl
      · rw [decide_eq_true e]; simpa using e
theorem snd28 : Sound Try.prog 28 C28 := fn_sound (T := T28) (fn := Try.f28) (tok0 ⟨snd44, snd47, snd21, snd35, snd31, trivial⟩) Try.func28 (by kernel_rfl) H28 vc28 (by kernel_rfl)
end Fd
end
section
/- FieldDenies. -/
set_option linter.unusedVariables false
set_option linter.unusedSimpArgs false
set_option maxRecDepth 100000
namespace Fd
open Go Fw Go.Proofs

def Live (ms : List (Option (List Int))) (j n : Nat) : Prop := ∃ i l, j = i + 1 ∧ ms[i]? = some (some l) ∧ l.length ≤ n
theorem Live.get {ms : List (Option (List Int))} {j n : Nat} (h : Live ms j n) : mal ms j ∧ (mrow ms j).length ≤ n := by
  obtain ⟨i, l, rfl, h1, h2⟩ := h
  obtain ⟨a, b⟩ := row_at h1
  exact ⟨a, by rw [b]; exact h2⟩
theorem Live.le {ms : List (Option (List Int))} {j n : Nat} (h : Live ms j n) : j ≤ ms.length := by
  obtain ⟨i, l, rfl, h1, h2⟩ := h
  have := (List.getElem?_eq_some_iff.1 h1).1
  omega
theorem Live.add {ms : List (Option (List Int))} {j n : Nat} (h : Live ms j n) (ys : List Int) : Live (mnew ms ys) j n := by
  obtain ⟨i, l, rfl, h1, h2⟩ := h
  have := (List.getElem?_eq_some_iff.1 h1).1
  exact ⟨i, l, rfl, by unfold mnew; rw [List.getElem?_append_left this]; exact h1, h2⟩
theorem Live.kill {ms : List (Option (List Int))} {j k n : Nat} (h : Live ms j n) (hk : j ≠ k) : Live (mkill ms k) j n := by
  obtain ⟨i, l, rfl, h1, h2⟩ := h
  refine ⟨i, l, rfl, ?_, h2⟩
  cases k with
  | zero => exact h1
  | succ k => show (ms.set k none)[i]? = _; rw [List.getElem?_set_ne (by omega)]; exact h1
theorem Live.new (ms : List (Option (List Int))) {ys : List Int} {n : Nat} (h : ys.length ≤ n) : Live (mnew ms ys) (ms.length + 1) n :=
  ⟨ms.length, ys, rfl, by unfold mnew; rw [List.getElem?_append_right (Nat.le_refl _)]; simp, h⟩
theorem Live.newk (ms : List (Option (List Int))) {ys : List Int} {k n : Nat} (h : ys.length ≤ n) : Live (mnew (mkill ms k) ys) (ms.length + 1) n := by
  have := Live.new (mkill ms k) h
  rwa [mkill_length] at this
theorem tame_ok (q : Int) (m : List (List Int)) (n : Nat) : (Pl.tame q m n).length ≤ n ∧ ∀ r ∈ Pl.tame q m n, r.length ≤ n := by
  unfold Pl.tame
  refine ⟨by rw [List.length_map, List.length_take]; omega, fun r hr => ?_⟩
  obtain ⟨x, _, rfl⟩ := List.mem_map.1 hr
  unfold Pl.tmr
  rw [List.length_map, List.length_range]; omega
theorem Br_nbb {b c : Bool} {p r : Prop} (h : b = c) (hr : r) : Br (!(b == c)) p r := Br_of (fun e => by rw [h] at e; simp at e) (fun _ => hr)
theorem vc4 : ∀ x, C4.pre x → VC T4 H4 Try.f4 C4 x := by
  rintro ⟨(o : Int), (l : List (List Int)), ⟨(b : List Int), (w : List Int), ⟨⟩⟩, ⟨⟩⟩ -
  refine cast (α := True ∧ (Pl.okr (Pl.someQ o (50 : Int), Pl.lpf (Pl.someQ o (50 : Int)), Pl.K (Pl.someQ o (50 : Int)), Pl.Mod (Pl.someQ o (50 : Int)), ()) ∧ Pl.most (5 : Int)) ∧ ∃ (n : Nat), itl (fun (G : (Int × Int × Int × Int × PUnit) × Int × List (Option (List Int)) × PUnit → Prop) (x : (Int × Int × Int × Int × PUnit) × Int × List (Option (List Int)) × PUnit) => Br (decide (x.snd.fst < (2 : Int))) (((0 : Int) ≤ (6 : Int) ∧ (6 : Int) ≤ (1000 : Int)) ∧ ((0 : Int) ≤ (6 : Int) ∧ (6 : Int) ≤ (1000 : Int)) ∧ Br (x.snd.fst == (1 : Int)) ((Pl.okr x.fst ∧ Pl.most (↑(Pl.tame (Pl.someQ o (50 : Int)) l (Int.toNat (5 : Int))).length : Int)) ∧ (Pl.okr x.fst ∧ Pl.most (↑(Pl.tame (Pl.someQ o (50 : Int)) l (Int.toNat (5 : Int))).length : Int)) ∧ ∃ (n : Nat), itl (fun (G_1 : (Int × Int × Int × Int × PUnit) × Nat × List (Option (List Int)) × PUnit → Prop) (x_1 : (Int × Int × Int × Int × PUnit) × Nat × List (Option (List Int)) × PUnit) => mal x_1.snd.snd.fst x_1.snd.fst ∧ Br (decide ((↑(mrow x_1.snd.snd.fst x_1.snd.fst).length : Int) < (↑(Pl.tame (Pl.someQ o (50 : Int)) l (Int.toNat (5 : Int))).length : Int))) (mal x_1.snd.snd.1 x_1.snd.fst ∧ ((↑(mrow x_1.snd.snd.1 x_1.snd.fst).length : Int) + (↑[(1 : Int)].length : Int)) * (8 : Int) ≤ (140737488355328 : Int) ∧ G_1 (x_1.fst, List.length x_1.snd.snd.1 + (1 : Nat), mnew (mkill x_1.snd.snd.1 x_1.snd.fst) (mrow x_1.snd.snd.1 x_1.snd.fst ++ [(1 : Int)]), ())) (∃ (n : Nat), itl (fun (G_2 : (Int × Int × Int × Int × PUnit) × Nat × List (Option (List Int)) × PUnit → Prop) (x_2 : (Int × Int × Int × Int × PUnit) × Nat × List (Option (List Int)) × PUnit) => mal x_2.snd.snd.fst x_2.snd.fst ∧ Br (decide ((↑(mrow x_2.snd.snd.fst x_2.snd.fst).length : Int) < (↑(Pl.tame (Pl.someQ o (50 : Int)) l (Int.toNat (5 : Int))).length : Int))) (mal x_2.snd.snd.1 x_2.snd.fst ∧ ((↑(mrow x_2.snd.snd.1 x_2.snd.fst).length : Int) + (↑[(1 : Int)].length : Int)) * (8 : Int) ≤ (140737488355328 : Int) ∧ G_2 (x_2.fst, List.length x_2.snd.snd.1 + (1 : Nat), mnew (mkill x_2.snd.snd.1 x_2.snd.fst) (mrow x_2.snd.snd.1 x_2.snd.fst ++ [(1 : Int)]), ())) (mal x_2.snd.snd.fst x_1.snd.fst ∧ mal x_2.snd.snd.fst x_2.snd.fst ∧ (Pl.okF (D.rptr (fieldC (Pl.someQ o (50 : Int)))) ∧ Pl.okMM (Pl.tame (Pl.someQ o (50 : Int)) l (Int.toNat (5 : Int))) ∧ (mrow x_2.snd.snd.fst x_1.snd.fst).length ≤ (1000000000 : Nat) ∧ (mrow x_2.snd.snd.fst x_2.snd.fst).length ≤ (1000000000 : Nat)) ∧ mal x_2.snd.snd.fst x_1.snd.fst ∧ mal x_2.snd.snd.fst x_2.snd.fst ∧ (Pl.okr x_2.fst ∧ Pl.okMM (Pl.tame (Pl.someQ o (50 : Int)) l (Int.toNat (5 : Int))) ∧ (mrow x_2.snd.snd.fst x_1.snd.fst).length ≤ (1000000000 : Nat) ∧ (mrow x_2.snd.snd.fst x_2.snd.fst).length ≤ (1000000000 : Nat)) ∧ Br (!Pl.denies (Pl.qF (D.rptr (fieldC (Pl.someQ o (50 : Int))))) (Pl.tame (Pl.someQ o (50 : Int)) l (Int.toNat (5 : Int))) (mrow x_2.snd.snd.fst x_1.snd.fst) (mrow x_2.snd.snd.fst x_2.snd.fst) == Pl.denies x_2.fst.fst (Pl.tame (Pl.someQ o (50 : Int)) l (Int.toNat (5 : Int))) (mrow x_2.snd.snd.fst x_1.snd.fst) (mrow x_2.snd.snd.fst x_2.snd.fst)) ((false, ()) = C4.post (o, l, (b, w, ()), ())) (G (x_2.fst, IntKind.i64.wrap (x.snd.fst + (1 : Int)), x_2.snd.snd)))) n (x_1.fst, (mnew x.snd.snd.1 (List.map (fun (x_2 : i64.El) => x_2 % x.fst.fst) (List.take (↑(Pl.tame (Pl.someQ o (50 : Int)) l (Int.toNat (5 : Int))).length : Int).toNat b))).length + (1 : Nat), x_1.snd.snd))) n (x.fst, List.length x.snd.snd.1 + (1 : Nat), mnew (mnew x.snd.snd.1 (List.map (fun (x_1 : i64.El) => x_1 % x.fst.fst) (List.take (↑(Pl.tame (Pl.someQ o (50 : Int)) l (Int.toNat (5 : Int))).length : Int).toNat b))) (List.map (fun (x_1 : i64.El) => x_1 % x.fst.fst) (List.take (↑(Pl.tame (Pl.someQ o (50 : Int)) l (Int.toNat (5 : Int))).length : Int).toNat w)), ())) ((Pl.okF (D.rptr (fieldC (Pl.someQ o (50 : Int)))) ∧ Pl.okMM (Pl.tame (Pl.someQ o (50 : Int)) l (Int.toNat (5 : Int))) ∧ (List.take (Int.toNat (6 : Int)) b).length ≤ (1000000000 : Nat) ∧ (List.take (Int.toNat (6 : Int)) w).length ≤ (1000000000 : Nat)) ∧ (Pl.okr x.fst ∧ Pl.okMM (Pl.tame (Pl.someQ o (50 : Int)) l (Int.toNat (5 : Int))) ∧ (List.take (Int.toNat (6 : Int)) b).length ≤ (1000000000 : Nat) ∧ (List.take (Int.toNat (6 : Int)) w).length ≤ (1000000000 : Nat)) ∧ Br (!Pl.denies (Pl.qF (D.rptr (fieldC (Pl.someQ o (50 : Int))))) (Pl.tame (Pl.someQ o (50 : Int)) l (Int.toNat (5 : Int))) (List.take (Int.toNat (6 : Int)) b) (List.take (Int.toNat (6 : Int)) w) == Pl.denies x.fst.fst (Pl.tame (Pl.someQ o (50 : Int)) l (Int.toNat (5 : Int))) (List.take (Int.toNat (6 : Int)) b) (List.take (Int.toNat (6 : Int)) w)) ((false, ()) = C4.post (o, l, (b, w, ()), ())) (G (x.fst, IntKind.i64.wrap (x.snd.fst + (1 : Int)), x.snd.snd)))) (True ∧ (true, ()) = C4.post (o, l, (b, w, ()), ()))) n ((Pl.someQ o (50 : Int), Pl.lpf (Pl.someQ o (50 : Int)), Pl.K (Pl.someQ o (50 : Int)), Pl.Mod (Pl.someQ o (50 : Int)), ()), (0 : Int), [], ())) (by kernel_rfl) ?_
  have hq := someQ_isQ o 50
  generalize Pl.someQ o 50 = q at *
  rw [qF_f]
  have hr0 : Pl.okr (q, Pl.lpf q, Pl.K q, Pl.Mod q, ()) := okr_RF hq
  have oF := okF_f hq
  obtain ⟨k1, k2⟩ := tame_ok q l (Int.toNat 5)
  generalize Pl.tame q l (Int.toNat 5) = M at *
  have k1 : M.length ≤ 5 := k1
  have k2 : ∀ r ∈ M, r.length ≤ 5 := k2
  have hMM : Pl.okMM M := ⟨by omega, fun r hr => by have := k2 r hr; omega⟩
  have hmo : Pl.most (M.length : Int) := ⟨by omega, by omega⟩
  have h6 : ∀ x : List Int, (List.take (Int.toNat 6) x).length ≤ 6 := fun x => by rw [List.length_take]; show min 6 _ ≤ 6; omega
  have hM : ∀ (x : List Int) (p : Int), (List.map (fun y : Int => y % p) (List.take (M.length : Int).toNat x)).length ≤ 10 := fun x p => by rw [List.length_map, List.length_take, Int.toNat_natCast]; omega
  have hp : C4.post (o, l, (b, w, ()), ()) = (true, ()) := rfl
  rw [hp]
  refine ⟨trivial, ⟨hr0, by omega, by omega⟩, ?_⟩
  refine itl_rule (fun s => ∃ i : Nat, s.2.1 = (i : Int) ∧ i ≤ 2 ∧ s.1 = RF q) (fun s => ((2 : Int) - s.2.1).toNat) ⟨0, rfl, Nat.zero_le _, rfl⟩ ?_
  rintro ⟨f, i0, ms, ⟨⟩⟩ G ⟨i, e, hi, hf⟩ hG
  simp only at e hf hG ⊢
  subst e hf
  have hr : Pl.okr (RF q) := hr0
  refine Br_of (fun h => ?_) (fun h => ⟨trivial, trivial⟩)
  have h : i < 2 := by have := of_decide_eq_true h; omega
  have next : ∀ ms', G (RF q, IntKind.i64.wrap ((i : Int) + 1), ms', ()) := fun ms' => by
    rw [wrap_i64 (by omega) (by omega)]
    exact hG _ ⟨i + 1, rfl, by omega, rfl⟩ (by simp only; omega)
  refine ⟨⟨by omega, by omega⟩, ⟨by omega, by omega⟩, Br_of (fun h1 => ?_) (fun h1 => ?_)⟩
  · refine ⟨⟨hr, hmo⟩, ⟨hr, hmo⟩, ?_⟩
    generalize hu : (mnew ms (List.map (fun x => x % (RF q).1) (List.take (M.length : Int).toNat b))).length + 1 = u
    generalize hms : mnew (mnew ms (List.map (fun x => x % (RF q).1) (List.take (M.length : Int).toNat b))) (List.map (fun x => x % (RF q).1) (List.take (M.length : Int).toNat w)) = ms1
    have hv : Live ms1 (ms.length + 1) 10 := by rw [← hms]; exact (Live.new ms (hM b _)).add _
    have hul : Live ms1 u 10 := by rw [← hms, ← hu]; exact Live.new _ (hM w _)
    have hne : ms.length + 1 ≠ u := by rw [← hu]; simp [mnew]
    clear hms hu
    refine itl_rule (fun s => s.1 = RF q ∧ s.2.1 ≠ u ∧ Live s.2.2.1 s.2.1 10 ∧ Live s.2.2.1 u 10) (fun s => (M.length - (mrow s.2.2.1 s.2.1).length)) ⟨rfl, hne, hv, hul⟩ ?_
    rintro ⟨f, j, ms2, ⟨⟩⟩ G1 ⟨hf, hju, hl, hl'⟩ hG1
    simp only at hf hju hl hl' hG1 ⊢
    subst hf
    obtain ⟨m1, m2⟩ := hl.get
    refine ⟨m1, Br_of (fun h3 => ?_) (fun h3 => ?_)⟩
    · have h3 : (mrow ms2 j).length < M.length := by have := of_decide_eq_true h3; omega
      have hlen : (mrow ms2 j ++ [(1 : Int)]).length ≤ 10 := by simp only [List.length_append, List.length_singleton]; omega
      refine ⟨m1, by simp only [List.length_singleton]; omega, hG1 _ ⟨rfl, ?_, Live.newk ms2 hlen, (hl'.kill (Ne.symm hju)).add _⟩ ?_⟩
      · have := hl'.le; simp only; omega
      · obtain ⟨_, b2⟩ := row_at (ms := mnew (mkill ms2 j) (mrow ms2 j ++ [(1 : Int)])) (j := ms2.length) (xs := mrow ms2 j ++ [(1 : Int)]) (by unfold mnew; rw [List.getElem?_append_right (by rw [mkill_length]; exact Nat.le_refl _), mkill_length]; simp)
        simp only [b2, List.length_append, List.length_singleton]; omega
    · refine itl_rule (fun s => s.1 = RF q ∧ s.2.1 ≠ j ∧ Live s.2.2.1 s.2.1 10 ∧ Live s.2.2.1 j 10) (fun s => (M.length - (mrow s.2.2.1 s.2.1).length)) ⟨rfl, Ne.symm hju, hl', hl⟩ ?_
      rintro ⟨f, u2, ms3, ⟨⟩⟩ G2 ⟨hf, hjv, gl, gl'⟩ hG2
      simp only at hf hjv gl gl' hG2 ⊢
      subst hf
      obtain ⟨n1, n2⟩ := gl.get
      obtain ⟨n3, n4⟩ := gl'.get
      refine ⟨n1, Br_of (fun h4 => ?_) (fun h4 => ?_)⟩
      · have h4 : (mrow ms3 u2).length < M.length := by have := of_decide_eq_true h4; omega
        have hlen : (mrow ms3 u2 ++ [(1 : Int)]).length ≤ 10 := by simp only [List.length_append, List.length_singleton]; omega
        refine ⟨n1, by simp only [List.length_singleton]; omega, hG2 _ ⟨rfl, ?_, Live.newk ms3 hlen, (gl'.kill (Ne.symm hjv)).add _⟩ ?_⟩
        · have := gl'.le; simp only; omega
        · obtain ⟨_, b2⟩ := row_at (ms := mnew (mkill ms3 u2) (mrow ms3 u2 ++ [(1 : Int)])) (j := ms3.length) (xs := mrow ms3 u2 ++ [(1 : Int)]) (by unfold mnew; rw [List.getElem?_append_right (by rw [mkill_length]; exact Nat.le_refl _), mkill_length]; simp)
          simp only [b2, List.length_append, List.length_singleton]; omega
      · exact ⟨n3, n1, ⟨oF, hMM, by omega, by omega⟩, n3, n1, ⟨hr, hMM, by omega, by omega⟩, Br_nbb rfl (next ms3)⟩
  · exact ⟨⟨oF, hMM, by have := h6 b; omega, by have := h6 w; omega⟩, ⟨hr, hMM, by have := h6 b; omega, by have := h6 w; omega⟩, Br_nbb rfl (next ms)⟩
theorem snd4 : Sound Try.prog 4 C4 := fn_sound (T := T4) (fn := Try.f4) (tok0 ⟨snd19, snd20, snd25, snd26, snd27, snd28, snd24, trivial⟩) Try.func4 (by kernel_rfl) H4 vc4 (by kernel_rfl)
end Fd
end
section
/- Slices of integers, and of these, among a law's parameters. -/
namespace Go.Proofs.Ytfhlgbgclkahnaa
open Go.ChangeShapes Go.WideShapes Go.ChangeAt Go.RowKit
set_option linter.unusedVariables false
set_option maxRecDepth 100000

theorem laidTry : laidOutB Try.prog = true := by kernel_rfl
theorem cells3 : Try.prog.cellsOf 3 = 1 := by kernel_rfl
theorem cells30 : Try.prog.cellsOf 30 = 1 := by kernel_rfl
section
variable {H : Type} {enc : TypeId × Value → H} {W : World}
abbrev O0 : Fw.OO := ⟨fun _ => False, Fw.nn⟩
/-- A slice of integers is a list. -/
theorem srep_ints {b0 : Nat} {v : Value} {d : DataW H} {ps : List MemPlace} (hval : Value.okWide Try.prog W .any b0 30 v) (hd : DataW.Trod enc Try.prog W 0 (fun _ => true) true 30 v d ps) : ∃ l : List Int, Fw.SRep W O0 (.int .i64) l v := by
  obtain ⟨a0, len0, cap0, rfl⟩ := okWide_slice Try.underlying30 hval
  obtain ⟨fuel, hf⟩ := hd
  rcases open_ints Try.underlying30 Try.underlying3 cells3 hf with ⟨hcs, _⟩ | ⟨a, len, cap, zs, hcs, _, hl, _, hz, _, hcell, _⟩
  · simp [Value.cells] at hcs
    obtain ⟨rfl, rfl, rfl⟩ := hcs
    exact ⟨[], none, 0, rfl, Nat.le_refl _, fun h => absurd h (Nat.lt_irrefl 0)⟩
  · simp [Value.cells] at hcs
    obtain ⟨rfl, rfl, rfl⟩ := hcs
    simp only [if_true] at hz
    have hlen : (zs.take len0).length = len0 := by rw [List.length_take]; omega
    refine ⟨zs.take len0, some a, cap0, by rw [hlen], by rw [hlen]; exact hl, fun _ => ⟨a, rfl, fun j hj => ⟨fun h => h, ?_⟩⟩⟩
    have hj' : j < len0 := by rw [hlen] at hj; exact hj
    have h1 := hcell j (by omega)
    show W.cell? (a.add (j * 1)) = some (.int .i64 (zs.take len0)[j])
    rw [Nat.mul_one, h1, List.getElem_take, List.getD_eq_getElem?_getD, List.getElem?_eq_getElem (by omega)]; rfl
/-- A slice of slices of integers is a list of lists. -/
theorem srep_rows {b0 : Nat} {v : Value} {d : DataW H} {ps : List MemPlace} (hval : Value.okWide Try.prog W .any b0 22 v) (hd : DataW.Trod enc Try.prog W 0 (fun _ => true) true 22 v d ps) : ∃ m : List (List Int), Fw.SRep W O0 (.slc (.int .i64)) m v := by
  obtain ⟨a0, len0, cap0, rfl⟩ := okWide_slice Try.underlying22 hval
  obtain ⟨fuel, hf⟩ := hd
  rcases Deep.open_int_rows Try.underlying22 Try.underlying30 Try.underlying3 cells30 cells3 hf with ⟨hcs, _⟩ | ⟨a, len, cap, A, L, C, Z, hcs, _, hl, _, _, hrow⟩
  · simp [Value.cells] at hcs
    obtain ⟨rfl, rfl, rfl⟩ := hcs
    exact ⟨[], none, 0, rfl, Nat.le_refl _, fun h => absurd h (Nat.lt_irrefl 0)⟩
  · simp [Value.cells] at hcs
    obtain ⟨rfl, rfl, rfl⟩ := hcs
    have hlen : ((List.range len0).map fun r => (Z r).take (L r)).length = len0 := by rw [List.length_map, List.length_range]
    refine ⟨(List.range len0).map fun r => (Z r).take (L r), some a, cap0, by rw [hlen], by rw [hlen]; exact hl, fun _ => ⟨a, rfl, fun j hj => ?_⟩⟩
    have hj' : j < len0 := by rw [hlen] at hj; exact hj
    obtain ⟨c1, c2, c3, c4, _, c5, c6⟩ := hrow j (by omega)
    have hel : ((List.range len0).map fun r => (Z r).take (L r))[j] = (Z j).take (L j) := by rw [List.getElem_map, List.getElem_range]
    have hL : ((Z j).take (L j)).length = L j := by rw [List.length_take]; omega
    rw [hel]
    refine ⟨A j, C j, ⟨fun h => h, ?_⟩, by rw [hL]; exact c2, fun h0 => ?_⟩
    · show W.cell? (a.add (j * 1)) = _
      rw [Nat.mul_one, c1, hL]
    · cases hA : A j with
      | none => have := c5 hA; rw [hL] at h0; omega
      | some ad =>
        obtain ⟨_, hc⟩ := c6 ad hA
        refine ⟨ad, rfl, fun i hi => ⟨fun h => h, ?_⟩⟩
        have hi' : i < L j := by rw [hL] at hi; exact hi
        show W.cell? (ad.add (i * 1)) = some (.int .i64 ((Z j).take (L j))[i])
        rw [Nat.mul_one, hc i (by omega), List.getElem_take, List.getD_eq_getElem?_getD, List.getElem?_eq_getElem (by omega)]; rfl
end
end Go.Proofs.Ytfhlgbgclkahnaa
end
section
/- Arrays of two slices of integers among a law's parameters. -/
namespace Go.Proofs.Ytfhlgbgclkahnaa
open Go.ChangeShapes Go.WideShapes Go.ChangeAt Go.RowKit Go.WideMaps
set_option linter.unusedVariables false
set_option maxRecDepth 100000
section
variable {H : Type} {enc : TypeId × Value → H} {W : World}
theorem srep_cell {fuel : Nat} {u : Value} {x : DataW H × List MemPlace} (hf : DataW.trod enc Try.prog W 0 (fun _ => true) true fuel 30 [u] = some x) : ∃ l : List Int, Fw.SRep W O0 (.int .i64) l u := by
  rcases open_ints Try.underlying30 Try.underlying3 cells3 hf with ⟨hcs, _⟩ | ⟨a, len, cap, zs, hcs, _, hl, _, hz, _, hcell, _⟩
  · have : u = .slice none 0 0 := by simpa using hcs
    subst this
    exact ⟨[], none, 0, rfl, Nat.le_refl _, fun h => absurd h (Nat.lt_irrefl 0)⟩
  · have : u = .slice (some a) len cap := by simpa using hcs
    subst this
    simp only [if_true] at hz
    have hlen : (zs.take len).length = len := by rw [List.length_take]; omega
    refine ⟨zs.take len, some a, cap, by rw [hlen], by rw [hlen]; exact hl, fun _ => ⟨a, rfl, fun j hj => ⟨fun h => h, ?_⟩⟩⟩
    have hj' : j < len := by rw [hlen] at hj; exact hj
    have h1 := hcell j (by omega)
    show W.cell? (a.add (j * 1)) = some (.int .i64 (zs.take len)[j])
    rw [Nat.mul_one, h1, List.getElem_take, List.getD_eq_getElem?_getD, List.getElem?_eq_getElem (by omega)]; rfl
theorem cells37 : Try.prog.cellsOf 37 = 2 := by kernel_rfl
theorem okWide_37 {r : Reach} {b0 : Nat} {v : Value} (h : Value.okWide Try.prog W r b0 37 v) : ∃ c0 c1, v = .agg #[c0, c1] := by
  simp only [Value.okWide, Try.underlying37] at h
  obtain ⟨cs, h1, h2, _⟩ := h
  rw [cells37] at h2
  obtain ⟨l⟩ := cs
  match l, h2 with
  | [c0, c1], _ => exact ⟨c0, c1, h1⟩
theorem srep_two {b0 : Nat} {v : Value} {d : DataW H} {ps : List MemPlace} (hval : Value.okWide Try.prog W .any b0 37 v) (hd : DataW.Trod enc Try.prog W 0 (fun _ => true) true 37 v d ps) :
    ∃ (u0 u1 : Value) (b w : List Int), v = .agg #[u0, u1] ∧ Fw.SRep W O0 (.int .i64) b u0 ∧ Fw.SRep W O0 (.int .i64) w u1 := by
  obtain ⟨c0, c1, rfl⟩ := okWide_37 hval
  obtain ⟨fuel, hf⟩ := hd
  cases fuel with
  | zero => simp [DataW.trod] at hf
  | succ n =>
    rw [DataW.trod_step] at hf
    unfold DataW.trodStep at hf
    simp only [Try.underlying37, Value.cells] at hf
    rw [if_pos (by rw [cells37]; rfl)] at hf
    simp only [Option.map_eq_some_iff] at hf
    obtain ⟨xs, hx, e1⟩ := hf
    rw [show List.range 2 = [0, 1] from rfl, List.mapM_cons, List.mapM_cons, List.mapM_nil] at hx
    simp only [bind, Option.bind_eq_some_iff, pure, Option.some.injEq, cells30] at hx
    obtain ⟨y0, h0, _, ⟨y1, h1, _, rfl, rfl⟩, rfl⟩ := hx
    obtain ⟨b, hb⟩ := srep_cell (fuel := n) (u := c0) (x := y0) (by simpa using h0)
    obtain ⟨w, hw⟩ := srep_cell (fuel := n) (u := c1) (x := y1) (by simpa using h1)
    exact ⟨c0, c1, b, w, rfl, hb, hw⟩
end
end Go.Proofs.Ytfhlgbgclkahnaa
end
