import Derived.Test.YtfhlgbgclkahnaaM5
section
/- Powers and logarithms; FieldPowers, FieldOrders. -/
set_option linter.unusedVariables false
set_option linter.unusedSimpArgs false
set_option maxRecDepth 100000
namespace Fd
open Go Fw Go.Proofs

theorem wrap_mod1 {m n : Int} (m1 : 1 ≤ m) (m6 : m ≤ 65536) : (IntKind.i64.wrap (n.tmod m + m)).tmod m = n % m := by
  have h1 := Int.tmod_lt_of_pos n (show 0 < m by omega)
  have h2 := Int.lt_tmod_of_pos n (show 0 < m by omega)
  rw [wrap_i64 (by omega) (by omega), tmod_pos (by omega), Int.add_emod_right]
  rcases ilt n 0 with h | h
  · have h3 := Int.emod_add_mul_ediv n m
    have h4 := Int.tmod_add_mul_tdiv n m
    have e : n.tmod m = n - m * n.tdiv m := by omega
    rw [e, Int.sub_mul_emod_self_left]
  · rw [Int.tmod_eq_emod_of_nonneg h, Int.emod_emod]
theorem powV_0 (q x : Int) : Pl.powV q x 0 = (1, 0) := rfl
theorem powV_neg {q n : Int} (h : n < 0) : Pl.powV q 0 n = (0, 6) := by
  unfold Pl.powV
  rw [decide_eq_false (show ¬ n = 0 by omega), decide_eq_true (show (0 : Int) = 0 from rfl), decide_eq_true h]; rfl
theorem powV_z {q n : Int} (h : 0 < n) : Pl.powV q 0 n = (0, 0) := by
  unfold Pl.powV
  rw [decide_eq_false (show ¬ n = 0 by omega), decide_eq_true (show (0 : Int) = 0 from rfl), decide_eq_false (show ¬ n < 0 by omega)]; rfl
theorem powV_x {q x n : Int} (hx : x ≠ 0) : Pl.powV q x n = (Pl.pow q x (n % (q - 1)), 0) := by
  by_cases hn : n = 0
  · subst hn
    rw [powV_0, Int.zero_emod]; rfl
  · unfold Pl.powV
    rw [decide_eq_false hn, decide_eq_false hx]; rfl
theorem logV_z (q : Int) : Pl.logV q 0 = (0, 6) := by
  unfold Pl.logV; rw [decide_eq_true rfl]; rfl
theorem logV_x {q x : Int} (hx : x ≠ 0) : Pl.logV q x = (Pl.log q x, 0) := by
  unfold Pl.logV; rw [decide_eq_false hx]; rfl
theorem vc38 : ∀ x, C38.pre x → VC T38 H0 Try.f38 C38 x := by
  rintro ⟨v, (a : Int), (n : Int), ⟨⟩⟩ ⟨q, hq, (rfl : v = _)⟩
  refine cast (α := Pl.okF (D.rptr (fieldC q)) ∧ Br (n == (0 : Int)) (((1 : Int), (0 : Int), ()) = C38.post (fieldD q, a, n, ())) (Br (a % Pl.qF (D.rptr (fieldC q)) == (0 : Int)) (Br (decide (n < (0 : Int))) (((0 : Int), (6 : Int), ()) = C38.post (fieldD q, a, n, ())) (Br (a % Pl.qF (D.rptr (fieldC q)) == (0 : Int)) (((0 : Int), (0 : Int), ()) = C38.post (fieldD q, a, n, ())) (IntKind.i64.wrap (q - (1 : Int)) ≠ (0 : Int) ∧ IntKind.i64.wrap (q - (1 : Int)) ≠ (0 : Int) ∧ (Pl.okM (D.iface (23 : Nat) (D.rptr (fieldC q))) ∧ Pl.inQ (Pl.qA (D.iface (23 : Nat) (D.rptr (fieldC q)))) (a % Pl.qF (D.rptr (fieldC q))) ∧ (0 : Int) ≤ (IntKind.i64.wrap (n.tmod (IntKind.i64.wrap (q - (1 : Int))) + IntKind.i64.wrap (q - (1 : Int)))).tmod (IntKind.i64.wrap (q - (1 : Int))) ∧ (IntKind.i64.wrap (n.tmod (IntKind.i64.wrap (q - (1 : Int))) + IntKind.i64.wrap (q - (1 : Int)))).tmod (IntKind.i64.wrap (q - (1 : Int))) ≤ (4611686018427387904 : Int)) ∧ (Pl.pow (Pl.qA (D.iface (23 : Nat) (D.rptr (fieldC q)))) (a % Pl.qF (D.rptr (fieldC q))) ((IntKind.i64.wrap (n.tmod (IntKind.i64.wrap (q - (1 : Int))) + IntKind.i64.wrap (q - (1 : Int)))).tmod (IntKind.i64.wrap (q - (1 : Int)))), (0 : Int), ()) = C38.post (fieldD q, a, n, ())))) (Br (a % Pl.qF (D.rptr (fieldC q)) == (0 : Int)) (((0 : Int), (0 : Int), ()) = C38.post (fieldD q, a, n, ())) (IntKind.i64.wrap (q - (1 : Int)) ≠ (0 : Int) ∧ IntKind.i64.wrap (q - (1 : Int)) ≠ (0 : Int) ∧ (Pl.okM (D.iface (23 : Nat) (D.rptr (fieldC q))) ∧ Pl.inQ (Pl.qA (D.iface (23 : Nat) (D.rptr (fieldC q)))) (a % Pl.qF (D.rptr (fieldC q))) ∧ (0 : Int) ≤ (IntKind.i64.wrap (n.tmod (IntKind.i64.wrap (q - (1 : Int))) + IntKind.i64.wrap (q - (1 : Int)))).tmod (IntKind.i64.wrap (q - (1 : Int))) ∧ (IntKind.i64.wrap (n.tmod (IntKind.i64.wrap (q - (1 : Int))) + IntKind.i64.wrap (q - (1 : Int)))).tmod (IntKind.i64.wrap (q - (1 : Int))) ≤ (4611686018427387904 : Int)) ∧ (Pl.pow (Pl.qA (D.iface (23 : Nat) (D.rptr (fieldC q)))) (a % Pl.qF (D.rptr (fieldC q))) ((IntKind.i64.wrap (n.tmod (IntKind.i64.wrap (q - (1 : Int))) + IntKind.i64.wrap (q - (1 : Int)))).tmod (IntKind.i64.wrap (q - (1 : Int)))), (0 : Int), ()) = C38.post (fieldD q, a, n, ()))))) (by kernel_rfl) ?_
  rw [qF_f, qA_f]
  have hp : C38.post (fieldD q, a, n, ()) = ((Pl.powV q (a % q) n).1, (Pl.powV q (a % q) n).2, ()) := rfl
  rw [hp]
  have q2 := hq.1
  have q6 := hq.2.1
  have hin := emod_inQ hq a
  generalize a % q = x at *
  rw [wrap_i64 (x := q - 1) (by omega) (by omega), wrap_mod1 (by omega) (by omega)]
  have m0 := Int.emod_nonneg n (show q - 1 ≠ 0 by omega)
  have m1 := Int.emod_lt_of_pos n (show 0 < q - 1 by omega)
  refine ⟨okF_f hq, Br_of (fun h => ?_) (fun h => Br_of (fun h1 => Br_of (fun h2 => ?_) (fun h2 => Br_of (fun _ => ?_) (fun h3 => absurd h1 (by rw [h3]; simp)))) (fun h1 => Br_of (fun h2 => absurd h2 (by rw [h1]; simp)) (fun h2 => ?_)))⟩
  · have h : n = 0 := by simpa using h
    subst h; rfl
  · have h1 : x = 0 := by simpa using h1
    subst h1
    rw [powV_neg (of_decide_eq_true h2)]
  · have h : n ≠ 0 := by simpa using h
    have h1 : x = 0 := by simpa using h1
    have h2 : ¬ n < 0 := of_decide_eq_false h2
    subst h1
    rw [powV_z (by omega)]
  · have h1 : x ≠ 0 := by simpa using h1
    rw [powV_x h1]
    exact ⟨by omega, by omega, ⟨okM_f hq, hin, m0, by omega⟩, rfl⟩
theorem vc39 : ∀ x, C39.pre x → VC T30 H39 Try.f39 C39 x := by
  rintro ⟨v, (a : Int), ⟨⟩⟩ ⟨q, hq, (rfl : v = _)⟩
  refine cast (α := Pl.okF (D.rptr (fieldC q)) ∧ Br (a % Pl.qF (D.rptr (fieldC q)) == (0 : Int)) (((0 : Int), (6 : Int), ()) = C39.post (fieldD q, a, ())) (∃ (n : Nat), itl (fun (G : Int × Int × PUnit → Prop) (x : Int × Int × PUnit) => Br (x.snd.fst != a % Pl.qF (D.rptr (fieldC q))) ((Pl.okM (arD q) ∧ Pl.inQ (Pl.qA (arD q)) x.snd.fst ∧ Pl.inQ (Pl.qA (arD q)) (Pl.gen q)) ∧ G (IntKind.i64.wrap (x.fst + (1 : Int)), Pl.mul (Pl.qA (arD q)) x.snd.fst (Pl.gen q), ())) ((x.fst, (0 : Int), ()) = C39.post (fieldD q, a, ()))) n ((0 : Int), (1 : Int), ()))) (by kernel_rfl) ?_
  rw [qF_f, qA_ar hq]
  have hp : C39.post (fieldD q, a, ()) = ((Pl.logV q (a % q)).1, (Pl.logV q (a % q)).2, ()) := rfl
  rw [hp]
  have q2 := hq.1
  have q6 := hq.2.1
  have hin := emod_inQ hq a
  generalize a % q = x at *
  refine ⟨okF_f hq, Br_of (fun h => ?_) (fun h => ?_)⟩
  · have h : x = 0 := by simpa using h
    subst h
    rw [logV_z]
  · have h : x ≠ 0 := by simpa using h
    rw [logV_x h]
    obtain ⟨i, hi, hlog, hpow⟩ := log_spec hq hin h
    refine itl_rule (fun s => ∃ j : Nat, s.1 = (j : Int) ∧ j ≤ i ∧ s.2.1 = (fld q).pow (Pl.gen q) j) (fun s => ((i : Int) - s.1).toNat) ⟨0, rfl, Nat.zero_le _, rfl⟩ ?_
    rintro ⟨n, y, ⟨⟩⟩ G ⟨j, e1, hj, e2⟩ hG
    simp only at e1 e2 hG ⊢
    subst e1 e2
    refine Br_of (fun h1 => ?_) (fun h1 => ?_)
    · have hji : j ≠ i := fun e => by subst e; rw [hpow] at h1; simp at h1
      rw [wrap_i64 (by omega) (by omega)]
      exact ⟨⟨okM_ar hq, gen_in hq j, gen_inQ hq⟩, hG _ ⟨j + 1, by simp, by omega, rfl⟩ (by simp only; omega)⟩
    · have h1 : (fld q).pow (Pl.gen q) j = x := by simpa using h1
      have : j = i := (gen_spec hq).2.2.2.2.inj (fld_ok hq) j i (by omega) hi (by rw [h1, hpow])
      subst this
      rw [hlog]
theorem nrc38 : NRC C38 := ⟨fun x hx => ⟨okF_nr hx, trivial, trivial, trivial⟩, fun x hx => ⟨trivial, trivial, trivial⟩⟩
theorem nrc39 : NRC C39 := ⟨fun x hx => ⟨okF_nr hx, trivial, trivial⟩, fun x hx => ⟨trivial, trivial, trivial⟩⟩
theorem snd38 : Sound Try.prog 38 C38 := fn_sound (T := T38) (fn := Try.f38) (tok0 ⟨snd95, snd100, trivial⟩) Try.func38 (by kernel_rfl) H0 vc38 (by kernel_rfl) (hC := nrc38)
theorem snd39 : Sound Try.prog 39 C39 := fn_sound (T := T30) (fn := Try.f39) (tokF ⟨snd95, trivial⟩) Try.func39 (by kernel_rfl) H39 vc39 (by kernel_rfl) (hC := nrc39)
theorem vc6 : ∀ x, C6.pre x → VC T6 H0 Try.f6 C6 x := by
  rintro ⟨(o : Int), (a : Int), (n : Int), ⟨⟩⟩ -
  refine cast (α := True ∧ Pl.okr (Pl.someQ o (5000 : Int), Pl.lpf (Pl.someQ o (5000 : Int)), Pl.K (Pl.someQ o (5000 : Int)), Pl.Mod (Pl.someQ o (5000 : Int)), ()) ∧ Pl.okF (D.rptr (fieldC (Pl.someQ o (5000 : Int)))) ∧ Pl.okF (D.rptr (fieldC (Pl.someQ o (5000 : Int)))) ∧ Br (a % Pl.someQ o (5000 : Int) == (0 : Int)) (Br (n == (0 : Int)) (Br ((Pl.logV (Pl.qF (D.rptr (fieldC (Pl.someQ o (5000 : Int))))) (a % Pl.qF (D.rptr (fieldC (Pl.someQ o (5000 : Int)))))).snd != (6 : Int)) ((false, ()) = C6.post (o, a, n, ())) (Br ((Pl.logV (Pl.qF (D.rptr (fieldC (Pl.someQ o (5000 : Int))))) (a % Pl.qF (D.rptr (fieldC (Pl.someQ o (5000 : Int)))))).fst != (0 : Int)) ((false, ()) = C6.post (o, a, n, ())) (Br (!((Pl.powV (Pl.qF (D.rptr (fieldC (Pl.someQ o (5000 : Int))))) (a % Pl.qF (D.rptr (fieldC (Pl.someQ o (5000 : Int))))) n).snd == (6 : Int)) == decide (n < (0 : Int))) ((false, ()) = C6.post (o, a, n, ())) (Br ((Pl.powV (Pl.qF (D.rptr (fieldC (Pl.someQ o (5000 : Int))))) (a % Pl.qF (D.rptr (fieldC (Pl.someQ o (5000 : Int))))) n).snd != (0 : Int)) (Br ((Pl.powV (Pl.qF (D.rptr (fieldC (Pl.someQ o (5000 : Int))))) (a % Pl.qF (D.rptr (fieldC (Pl.someQ o (5000 : Int))))) n).snd != (6 : Int)) ((false, ()) = C6.post (o, a, n, ())) (Br ((Pl.powV (Pl.qF (D.rptr (fieldC (Pl.someQ o (5000 : Int))))) (a % Pl.qF (D.rptr (fieldC (Pl.someQ o (5000 : Int))))) n).snd != (0 : Int)) (Br ((Pl.powV (Pl.qF (D.rptr (fieldC (Pl.someQ o (5000 : Int))))) (a % Pl.qF (D.rptr (fieldC (Pl.someQ o (5000 : Int))))) n).fst == (0 : Int)) (True ∧ (true, ()) = C6.post (o, a, n, ())) (Br ((Pl.powV (Pl.qF (D.rptr (fieldC (Pl.someQ o (5000 : Int))))) (a % Pl.qF (D.rptr (fieldC (Pl.someQ o (5000 : Int))))) n).snd == (0 : Int)) (Br ((Pl.powV (Pl.qF (D.rptr (fieldC (Pl.someQ o (5000 : Int))))) (a % Pl.qF (D.rptr (fieldC (Pl.someQ o (5000 : Int))))) n).fst == (1 : Int)) (True ∧ (true, ()) = C6.post (o, a, n, ())) ((false, ()) = C6.post (o, a, n, ()))) ((false, ()) = C6.post (o, a, n, ())))) (Br ((Pl.powV (Pl.qF (D.rptr (fieldC (Pl.someQ o (5000 : Int))))) (a % Pl.qF (D.rptr (fieldC (Pl.someQ o (5000 : Int))))) n).snd == (0 : Int)) (Br ((Pl.powV (Pl.qF (D.rptr (fieldC (Pl.someQ o (5000 : Int))))) (a % Pl.qF (D.rptr (fieldC (Pl.someQ o (5000 : Int))))) n).fst == (1 : Int)) (True ∧ (true, ()) = C6.post (o, a, n, ())) ((false, ()) = C6.post (o, a, n, ()))) ((false, ()) = C6.post (o, a, n, ()))))) (Br ((Pl.powV (Pl.qF (D.rptr (fieldC (Pl.someQ o (5000 : Int))))) (a % Pl.qF (D.rptr (fieldC (Pl.someQ o (5000 : Int))))) n).snd != (0 : Int)) (Br ((Pl.powV (Pl.qF (D.rptr (fieldC (Pl.someQ o (5000 : Int))))) (a % Pl.qF (D.rptr (fieldC (Pl.someQ o (5000 : Int))))) n).fst == (0 : Int)) (True ∧ (true, ()) = C6.post (o, a, n, ())) (Br ((Pl.powV (Pl.qF (D.rptr (fieldC (Pl.someQ o (5000 : Int))))) (a % Pl.qF (D.rptr (fieldC (Pl.someQ o (5000 : Int))))) n).snd == (0 : Int)) (Br ((Pl.powV (Pl.qF (D.rptr (fieldC (Pl.someQ o (5000 : Int))))) (a % Pl.qF (D.rptr (fieldC (Pl.someQ o (5000 : Int))))) n).fst == (1 : Int)) (True ∧ (true, ()) = C6.post (o, a, n, ())) ((false, ()) = C6.post (o, a, n, ()))) ((false, ()) = C6.post (o, a, n, ())))) (Br ((Pl.powV (Pl.qF (D.rptr (fieldC (Pl.someQ o (5000 : Int))))) (a % Pl.qF (D.rptr (fieldC (Pl.someQ o (5000 : Int))))) n).snd == (0 : Int)) (Br ((Pl.powV (Pl.qF (D.rptr (fieldC (Pl.someQ o (5000 : Int))))) (a % Pl.qF (D.rptr (fieldC (Pl.someQ o (5000 : Int))))) n).fst == (1 : Int)) (True ∧ (true, ()) = C6.post (o, a, n, ())) ((false, ()) = C6.post (o, a, n, ()))) ((false, ()) = C6.post (o, a, n, ())))))))) (Br ((Pl.logV (Pl.qF (D.rptr (fieldC (Pl.someQ o (5000 : Int))))) (a % Pl.qF (D.rptr (fieldC (Pl.someQ o (5000 : Int)))))).snd != (6 : Int)) ((false, ()) = C6.post (o, a, n, ())) (Br ((Pl.logV (Pl.qF (D.rptr (fieldC (Pl.someQ o (5000 : Int))))) (a % Pl.qF (D.rptr (fieldC (Pl.someQ o (5000 : Int)))))).fst != (0 : Int)) ((false, ()) = C6.post (o, a, n, ())) (Br (!((Pl.powV (Pl.qF (D.rptr (fieldC (Pl.someQ o (5000 : Int))))) (a % Pl.qF (D.rptr (fieldC (Pl.someQ o (5000 : Int))))) n).snd == (6 : Int)) == decide (n < (0 : Int))) ((false, ()) = C6.post (o, a, n, ())) (Br ((Pl.powV (Pl.qF (D.rptr (fieldC (Pl.someQ o (5000 : Int))))) (a % Pl.qF (D.rptr (fieldC (Pl.someQ o (5000 : Int))))) n).snd != (0 : Int)) (Br ((Pl.powV (Pl.qF (D.rptr (fieldC (Pl.someQ o (5000 : Int))))) (a % Pl.qF (D.rptr (fieldC (Pl.someQ o (5000 : Int))))) n).snd != (6 : Int)) ((false, ()) = C6.post (o, a, n, ())) (Br ((Pl.powV (Pl.qF (D.rptr (fieldC (Pl.someQ o (5000 : Int))))) (a % Pl.qF (D.rptr (fieldC (Pl.someQ o (5000 : Int))))) n).snd != (0 : Int)) (Br ((Pl.powV (Pl.qF (D.rptr (fieldC (Pl.someQ o (5000 : Int))))) (a % Pl.qF (D.rptr (fieldC (Pl.someQ o (5000 : Int))))) n).fst == (0 : Int)) (True ∧ (true, ()) = C6.post (o, a, n, ())) (Br ((Pl.powV (Pl.qF (D.rptr (fieldC (Pl.someQ o (5000 : Int))))) (a % Pl.qF (D.rptr (fieldC (Pl.someQ o (5000 : Int))))) n).snd == (0 : Int)) (Br ((Pl.powV (Pl.qF (D.rptr (fieldC (Pl.someQ o (5000 : Int))))) (a % Pl.qF (D.rptr (fieldC (Pl.someQ o (5000 : Int))))) n).fst == (0 : Int)) (True ∧ (true, ()) = C6.post (o, a, n, ())) ((false, ()) = C6.post (o, a, n, ()))) ((false, ()) = C6.post (o, a, n, ())))) (Br ((Pl.powV (Pl.qF (D.rptr (fieldC (Pl.someQ o (5000 : Int))))) (a % Pl.qF (D.rptr (fieldC (Pl.someQ o (5000 : Int))))) n).snd == (0 : Int)) (Br ((Pl.powV (Pl.qF (D.rptr (fieldC (Pl.someQ o (5000 : Int))))) (a % Pl.qF (D.rptr (fieldC (Pl.someQ o (5000 : Int))))) n).fst == (0 : Int)) (True ∧ (true, ()) = C6.post (o, a, n, ())) ((false, ()) = C6.post (o, a, n, ()))) ((false, ()) = C6.post (o, a, n, ()))))) (Br ((Pl.powV (Pl.qF (D.rptr (fieldC (Pl.someQ o (5000 : Int))))) (a % Pl.qF (D.rptr (fieldC (Pl.someQ o (5000 : Int))))) n).snd != (0 : Int)) (Br ((Pl.powV (Pl.qF (D.rptr (fieldC (Pl.someQ o (5000 : Int))))) (a % Pl.qF (D.rptr (fieldC (Pl.someQ o (5000 : Int))))) n).fst == (0 : Int)) (True ∧ (true, ()) = C6.post (o, a, n, ())) (Br ((Pl.powV (Pl.qF (D.rptr (fieldC (Pl.someQ o (5000 : Int))))) (a % Pl.qF (D.rptr (fieldC (Pl.someQ o (5000 : Int))))) n).snd == (0 : Int)) (Br ((Pl.powV (Pl.qF (D.rptr (fieldC (Pl.someQ o (5000 : Int))))) (a % Pl.qF (D.rptr (fieldC (Pl.someQ o (5000 : Int))))) n).fst == (0 : Int)) (True ∧ (true, ()) = C6.post (o, a, n, ())) ((false, ()) = C6.post (o, a, n, ()))) ((false, ()) = C6.post (o, a, n, ())))) (Br ((Pl.powV (Pl.qF (D.rptr (fieldC (Pl.someQ o (5000 : Int))))) (a % Pl.qF (D.rptr (fieldC (Pl.someQ o (5000 : Int))))) n).snd == (0 : Int)) (Br ((Pl.powV (Pl.qF (D.rptr (fieldC (Pl.someQ o (5000 : Int))))) (a % Pl.qF (D.rptr (fieldC (Pl.someQ o (5000 : Int))))) n).fst == (0 : Int)) (True ∧ (true, ()) = C6.post (o, a, n, ())) ((false, ()) = C6.post (o, a, n, ()))) ((false, ()) = C6.post (o, a, n, ()))))))))) (IntKind.i64.wrap (Pl.someQ o (5000 : Int) - (1 : Int)) ≠ (0 : Int) ∧ IntKind.i64.wrap (Pl.someQ o (5000 : Int) - (1 : Int)) ≠ (0 : Int) ∧ Br ((Pl.powV (Pl.qF (D.rptr (fieldC (Pl.someQ o (5000 : Int))))) (a % Pl.qF (D.rptr (fieldC (Pl.someQ o (5000 : Int))))) n).snd == (0 : Int)) (Br ((Pl.logV (Pl.qF (D.rptr (fieldC (Pl.someQ o (5000 : Int))))) (a % Pl.qF (D.rptr (fieldC (Pl.someQ o (5000 : Int)))))).snd == (0 : Int)) ((Pl.okr (Pl.someQ o (5000 : Int), Pl.lpf (Pl.someQ o (5000 : Int)), Pl.K (Pl.someQ o (5000 : Int)), Pl.Mod (Pl.someQ o (5000 : Int)), ()) ∧ Pl.inQ (Pl.someQ o (5000 : Int)) (a % Pl.someQ o (5000 : Int)) ∧ (0 : Int) ≤ (IntKind.i64.wrap (n.tmod (IntKind.i64.wrap (Pl.someQ o (5000 : Int) - (1 : Int))) + IntKind.i64.wrap (Pl.someQ o (5000 : Int) - (1 : Int)))).tmod (IntKind.i64.wrap (Pl.someQ o (5000 : Int) - (1 : Int))) ∧ (IntKind.i64.wrap (n.tmod (IntKind.i64.wrap (Pl.someQ o (5000 : Int) - (1 : Int))) + IntKind.i64.wrap (Pl.someQ o (5000 : Int) - (1 : Int)))).tmod (IntKind.i64.wrap (Pl.someQ o (5000 : Int) - (1 : Int))) ≤ (4611686018427387904 : Int)) ∧ Br ((Pl.powV (Pl.qF (D.rptr (fieldC (Pl.someQ o (5000 : Int))))) (a % Pl.qF (D.rptr (fieldC (Pl.someQ o (5000 : Int))))) n).fst == Pl.pow (Pl.someQ o (5000 : Int)) (a % Pl.someQ o (5000 : Int)) ((IntKind.i64.wrap (n.tmod (IntKind.i64.wrap (Pl.someQ o (5000 : Int) - (1 : Int))) + IntKind.i64.wrap (Pl.someQ o (5000 : Int) - (1 : Int)))).tmod (IntKind.i64.wrap (Pl.someQ o (5000 : Int) - (1 : Int))))) ((Pl.okr (Pl.someQ o (5000 : Int), Pl.lpf (Pl.someQ o (5000 : Int)), Pl.K (Pl.someQ o (5000 : Int)), Pl.Mod (Pl.someQ o (5000 : Int)), ()) ∧ Pl.inQ (Pl.someQ o (5000 : Int)) (a % Pl.someQ o (5000 : Int)) ∧ a % Pl.someQ o (5000 : Int) ≠ (0 : Int)) ∧ Br ((Pl.logV (Pl.qF (D.rptr (fieldC (Pl.someQ o (5000 : Int))))) (a % Pl.qF (D.rptr (fieldC (Pl.someQ o (5000 : Int)))))).fst == Pl.log (Pl.someQ o (5000 : Int)) (a % Pl.someQ o (5000 : Int))) (True ∧ (true, ()) = C6.post (o, a, n, ())) ((false, ()) = C6.post (o, a, n, ()))) ((false, ()) = C6.post (o, a, n, ()))) ((false, ()) = C6.post (o, a, n, ()))) ((false, ()) = C6.post (o, a, n, ())))) (by kernel_rfl) ?_
  have hq := someQ_isQ o 5000
  generalize Pl.someQ o 5000 = q at *
  rw [qF_f]
  have hr : Pl.okr (q, Pl.lpf q, Pl.K q, Pl.Mod q, ()) := okr_RF hq
  have hin := emod_inQ hq a
  generalize a % q = x at *
  have q2 := hq.1
  have q6 := hq.2.1
  refine ⟨trivial, hr, okF_f hq, okF_f hq, Br_of (fun h => ?_) (fun h => ?_)⟩
  · have h : x = 0 := by simpa using h
    subst h
    rw [logV_z]
    rcases Int.lt_trichotomy n 0 with hn | hn | hn
    · rw [powV_neg hn, show (n == 0) = false by simpa using (show n ≠ 0 by omega), decide_eq_true hn]
      show True ∧ (true, ()) = C6.post (o, a, n, ())
      exact ⟨trivial, rfl⟩
    · subst hn
      rw [powV_0]
      show True ∧ (true, ()) = C6.post (o, a, 0, ())
      exact ⟨trivial, rfl⟩
    · rw [powV_z hn, show (n == 0) = false by simpa using (show n ≠ 0 by omega), decide_eq_false (show ¬ n < 0 by omega)]
      show True ∧ (true, ()) = C6.post (o, a, n, ())
      exact ⟨trivial, rfl⟩
  · have h : x ≠ 0 := by simpa using h
    rw [wrap_i64 (x := q - 1) (by omega) (by omega), wrap_mod1 (by omega) (by omega), powV_x h, logV_x h]
    have m0 := Int.emod_nonneg n (show q - 1 ≠ 0 by omega)
    have m1 := Int.emod_lt_of_pos n (show 0 < q - 1 by omega)
    exact ⟨by omega, by omega, Br_eq (Br_eq ⟨⟨hr, hin, m0, by omega⟩, Br_eq ⟨⟨hr, hin, h⟩, Br_eq ⟨trivial, rfl⟩⟩⟩)⟩
theorem snd6 : Sound Try.prog 6 C6 := fn_sound (T := T6) (fn := Try.f6) (tok0 ⟨snd19, snd29, snd38, snd39, snd40, snd41, snd24, trivial⟩) Try.func6 (by kernel_rfl) H0 vc6 (by kernel_rfl)
theorem emod_self_in {q x : Int} (h : Pl.inQ q x) : x % q = x := Int.emod_eq_of_lt h.1 h.2
theorem Br_nb {b c : Bool} {p r : Prop} (h : b = c) (hr : r) : Br (!(b == c)) p r := Br_of (fun e => by rw [h] at e; simp at e) (fun _ => hr)
theorem vc7 : ∀ x, C7.pre x → VC T7 H7 Try.f7 C7 x := by
  rintro ⟨(o : Int), (a : Int), (b : Int), ⟨⟩⟩ -
  refine cast (α := True ∧ Pl.okF (D.rptr (fieldC (Pl.someQ o (2000 : Int)))) ∧ ∃ (n : Nat), itl (fun (G : Int × PUnit → Prop) (x : Int × PUnit) => Br (decide (x.fst ≤ Pl.gen (Pl.qF (D.rptr (fieldC (Pl.someQ o (2000 : Int))))))) (∃ (n : Nat), itl (fun (G_1 : Int × Int × PUnit → Prop) (x_1 : Int × Int × PUnit) => Br (x_1.snd.fst != (1 : Int)) (Br (decide (x_1.fst < Pl.someQ o (2000 : Int))) (Pl.okF (D.rptr (fieldC (Pl.someQ o (2000 : Int)))) ∧ G_1 (IntKind.i64.wrap (x_1.fst + (1 : Int)), Pl.mul (Pl.qF (D.rptr (fieldC (Pl.someQ o (2000 : Int))))) (x_1.snd.fst % Pl.qF (D.rptr (fieldC (Pl.someQ o (2000 : Int))))) (x.fst % Pl.qF (D.rptr (fieldC (Pl.someQ o (2000 : Int))))), ())) (Br (!(x_1.fst == IntKind.i64.wrap (Pl.someQ o (2000 : Int) - (1 : Int))) == (x.fst == Pl.gen (Pl.qF (D.rptr (fieldC (Pl.someQ o (2000 : Int))))))) ((false, ()) = C7.post (o, a, b, ())) (G (IntKind.i64.wrap (x.fst + (1 : Int)), ())))) (Br (!(x_1.fst == IntKind.i64.wrap (Pl.someQ o (2000 : Int) - (1 : Int))) == (x.fst == Pl.gen (Pl.qF (D.rptr (fieldC (Pl.someQ o (2000 : Int))))))) ((false, ()) = C7.post (o, a, b, ())) (G (IntKind.i64.wrap (x.fst + (1 : Int)), ())))) n ((1 : Int), x)) (Pl.okr (Pl.someQ o (2000 : Int), Pl.lpf (Pl.someQ o (2000 : Int)), Pl.K (Pl.someQ o (2000 : Int)), Pl.Mod (Pl.someQ o (2000 : Int)), ()) ∧ Pl.okr (Pl.someQ o (2000 : Int), Pl.lpf (Pl.someQ o (2000 : Int)), Pl.K (Pl.someQ o (2000 : Int)), Pl.Mod (Pl.someQ o (2000 : Int)), ()) ∧ Br (a % Pl.someQ o (2000 : Int) == (0 : Int)) (True ∧ (true, ()) = C7.post (o, a, b, ())) (Br (b % Pl.someQ o (2000 : Int) == (0 : Int)) (True ∧ (true, ()) = C7.post (o, a, b, ())) (Pl.okF (D.rptr (fieldC (Pl.someQ o (2000 : Int)))) ∧ Pl.okF (D.rptr (fieldC (Pl.someQ o (2000 : Int)))) ∧ Pl.okF (D.rptr (fieldC (Pl.someQ o (2000 : Int)))) ∧ Pl.okF (D.rptr (fieldC (Pl.someQ o (2000 : Int)))) ∧ Pl.okF (D.rptr (fieldC (Pl.someQ o (2000 : Int)))) ∧ Br ((Pl.logV (Pl.qF (D.rptr (fieldC (Pl.someQ o (2000 : Int))))) (a % Pl.someQ o (2000 : Int) % Pl.qF (D.rptr (fieldC (Pl.someQ o (2000 : Int)))))).snd == (0 : Int)) (Br ((Pl.logV (Pl.qF (D.rptr (fieldC (Pl.someQ o (2000 : Int))))) (b % Pl.someQ o (2000 : Int) % Pl.qF (D.rptr (fieldC (Pl.someQ o (2000 : Int)))))).snd == (0 : Int)) (Br ((Pl.logV (Pl.qF (D.rptr (fieldC (Pl.someQ o (2000 : Int))))) (Pl.mul (Pl.qF (D.rptr (fieldC (Pl.someQ o (2000 : Int))))) (a % Pl.someQ o (2000 : Int) % Pl.qF (D.rptr (fieldC (Pl.someQ o (2000 : Int))))) (b % Pl.someQ o (2000 : Int) % Pl.qF (D.rptr (fieldC (Pl.someQ o (2000 : Int))))) % Pl.qF (D.rptr (fieldC (Pl.someQ o (2000 : Int)))))).snd == (0 : Int)) (Br ((Pl.powV (Pl.qF (D.rptr (fieldC (Pl.someQ o (2000 : Int))))) (Pl.gen (Pl.qF (D.rptr (fieldC (Pl.someQ o (2000 : Int))))) % Pl.qF (D.rptr (fieldC (Pl.someQ o (2000 : Int))))) (Pl.logV (Pl.qF (D.rptr (fieldC (Pl.someQ o (2000 : Int))))) (a % Pl.someQ o (2000 : Int) % Pl.qF (D.rptr (fieldC (Pl.someQ o (2000 : Int)))))).fst).snd == (0 : Int)) (IntKind.i64.wrap (Pl.someQ o (2000 : Int) - (1 : Int)) ≠ (0 : Int) ∧ Br ((Pl.logV (Pl.qF (D.rptr (fieldC (Pl.someQ o (2000 : Int))))) (Pl.mul (Pl.qF (D.rptr (fieldC (Pl.someQ o (2000 : Int))))) (a % Pl.someQ o (2000 : Int) % Pl.qF (D.rptr (fieldC (Pl.someQ o (2000 : Int))))) (b % Pl.someQ o (2000 : Int) % Pl.qF (D.rptr (fieldC (Pl.someQ o (2000 : Int))))) % Pl.qF (D.rptr (fieldC (Pl.someQ o (2000 : Int)))))).fst == (IntKind.i64.wrap ((Pl.logV (Pl.qF (D.rptr (fieldC (Pl.someQ o (2000 : Int))))) (a % Pl.someQ o (2000 : Int) % Pl.qF (D.rptr (fieldC (Pl.someQ o (2000 : Int)))))).fst + (Pl.logV (Pl.qF (D.rptr (fieldC (Pl.someQ o (2000 : Int))))) (b % Pl.someQ o (2000 : Int) % Pl.qF (D.rptr (fieldC (Pl.someQ o (2000 : Int)))))).fst)).tmod (IntKind.i64.wrap (Pl.someQ o (2000 : Int) - (1 : Int)))) (Br ((Pl.powV (Pl.qF (D.rptr (fieldC (Pl.someQ o (2000 : Int))))) (Pl.gen (Pl.qF (D.rptr (fieldC (Pl.someQ o (2000 : Int))))) % Pl.qF (D.rptr (fieldC (Pl.someQ o (2000 : Int))))) (Pl.logV (Pl.qF (D.rptr (fieldC (Pl.someQ o (2000 : Int))))) (a % Pl.someQ o (2000 : Int) % Pl.qF (D.rptr (fieldC (Pl.someQ o (2000 : Int)))))).fst).fst == a % Pl.someQ o (2000 : Int)) (True ∧ (true, ()) = C7.post (o, a, b, ())) ((false, ()) = C7.post (o, a, b, ()))) ((false, ()) = C7.post (o, a, b, ()))) ((false, ()) = C7.post (o, a, b, ()))) ((false, ()) = C7.post (o, a, b, ()))) ((false, ()) = C7.post (o, a, b, ()))) ((false, ()) = C7.post (o, a, b, ())))))) n ((1 : Int), ())) (by kernel_rfl) ?_
  have hq := someQ_isQ o 2000
  generalize Pl.someQ o 2000 = q at *
  rw [qF_f]
  have hr : Pl.okr (q, Pl.lpf q, Pl.K q, Pl.Mod q, ()) := okr_RF hq
  have hx := emod_inQ hq a
  have hy := emod_inQ hq b
  generalize a % q = x at *
  generalize b % q = y at *
  have q2 := hq.1
  have q6 := hq.2.1
  have ok := fld_ok hq
  obtain ⟨g1, g2, g3, g4, g5⟩ := gen_spec hq
  have hg := gen_inQ hq
  rw [wrap_i64 (x := q - 1) (by omega) (by omega), emod_self_in hx, emod_self_in hy, emod_self_in hg, emod_self_in (mul_inQ hq x y)]
  refine ⟨trivial, okF_f hq, itl_rule (fun s => 1 ≤ s.1 ∧ s.1 ≤ Pl.gen q + 1) (fun s => (Pl.gen q + 1 - s.1).toNat) ⟨by simp only; omega, by simp only; omega⟩ ?_⟩
  rintro ⟨z, ⟨⟩⟩ G ⟨z1, z2⟩ hG
  simp only at z1 z2 hG ⊢
  refine Br_of (fun h => ?_) (fun h => ?_)
  · have h : z ≤ Pl.gen q := of_decide_eq_true h
    have hz : Pl.inQ q z := ⟨by omega, by omega⟩
    have hz0 : z ≠ 0 := by omega
    have hord : ∀ n : Nat, (fld q).Ord z n → ((n : Int) == q - 1) = (z == Pl.gen q) := by
      intro n hn
      by_cases e : z = Pl.gen q
      · subst e
        have hd1 := hn.dvd ok g5.2.1
        have hd2 := g5.dvd ok hn.2.1
        have := Nat.dvd_antisymm hd1 hd2
        have e1 : (n : Int) = q - 1 := by omega
        rw [e1]; simp
      · have e2 : (n : Int) ≠ q - 1 := fun e2 => by
          have hn' : n = q.toNat - 1 := by omega
          rw [hn'] at hn
          have := (genT_spec hq (g := z) (by omega) (by omega)).2 hn
          rw [g4 z (by omega) (by omega)] at this
          cases this
        rw [beq_eq_false_iff_ne.2 e2, beq_eq_false_iff_ne.2 e]
    rw [emod_self_in hz]
    refine itl_rule (fun s => ∃ n : Nat, s.1 = (n : Int) ∧ 1 ≤ n ∧ (n : Int) ≤ q ∧ s.2.1 = (fld q).pow z n ∧ ∀ i, 1 ≤ i → i < n → (fld q).pow z i ≠ 1) (fun s => (q - s.1).toNat) ⟨1, rfl, Nat.le_refl _, by omega, ((Fm.Fld.pow_one ok ((in_iff hq z).2 hz)).symm), fun i h1 h2 => by omega⟩ ?_
    rintro ⟨n0, y0, ⟨⟩⟩ G1 ⟨n, e1, n1, n2, e2, hn⟩ hG1
    simp only at e1 e2 hG1 ⊢
    subst e1 e2
    refine Br_of (fun h1 => ?_) (fun h1 => ?_)
    · have h1 : (fld q).pow z n ≠ 1 := by simpa using h1
      refine Br_of (fun h2 => ?_) (fun h2 => ?_)
      · have h2 : (n : Int) < q := of_decide_eq_true h2
        rw [wrap_i64 (by omega) (by omega), emod_self_in ((in_iff hq _).1 (Fm.Fld.pow_in ok z n))]
        refine ⟨okF_f hq, hG1 _ ⟨n + 1, rfl, by omega, by omega, rfl, fun i i1 i2 => ?_⟩ (by simp only; omega)⟩
        by_cases e : i = n
        · subst e; exact h1
        · exact hn i i1 (by omega)
      · have h2 : ¬ (n : Int) < q := of_decide_eq_false h2
        exact absurd (fermat hq hz.1 hz.2 hz0) (hn (q.toNat - 1) (by omega) (by omega))
    · have h1 : (fld q).pow z n = 1 := by simpa using h1
      refine Br_nb (hord n ⟨n1, h1, fun m m1 m2 => hn m m1 m2⟩) ?_
      rw [wrap_i64 (by omega) (by omega)]
      exact hG _ ⟨by simp only; omega, by simp only; omega⟩ (by simp only; omega)
  · refine ⟨hr, hr, Br_of (fun _ => ⟨trivial, rfl⟩) (fun h1 => Br_of (fun _ => ⟨trivial, rfl⟩) (fun h2 => ?_))⟩
    have h1 : x ≠ 0 := by simpa using h1
    have h2 : y ≠ 0 := by simpa using h2
    have hg0 : Pl.gen q ≠ 0 := by omega
    obtain ⟨i, i1, i2, i3⟩ := log_spec hq hx h1
    obtain ⟨j, j1, j2, j3⟩ := log_spec hq hy h2
    have hxy : Pl.mul q x y = (fld q).pow (Pl.gen q) (i + j) := by rw [Fm.Fld.pow_add ok, i3, j3]; rfl
    have hxy0 : Pl.mul q x y ≠ 0 := by rw [hxy]; exact Fm.Fld.pow_ne ok (dom hq) ((in_iff hq _).2 hg) hg0 _
    obtain ⟨k, k1, k2, k3⟩ := log_spec hq (mul_inQ hq x y) hxy0
    rw [logV_x h1, logV_x h2, logV_x hxy0, powV_x hg0]
    simp only
    rw [i2, j2, k2]
    have hN : ((q.toNat - 1 : Nat) : Int) = q - 1 := by omega
    have hk : k = (i + j) % (q.toNat - 1) := by
      refine g5.inj ok k _ k1 (Nat.mod_lt _ (by omega)) ?_
      rw [k3, hxy]
      conv => lhs; rw [← Nat.div_add_mod (i + j) (q.toNat - 1), Fm.Fld.pow_add ok, Fm.Fld.pow_mul ok, g5.2.1, Fm.Fld.one_pow ok, Fm.Fld.one_mul ok (Fm.Fld.pow_in ok _ _)]
    have e1 : (IntKind.i64.wrap ((i : Int) + (j : Int))).tmod (q - 1) = (k : Int) := by
      rw [wrap_i64 (by omega) (by omega), Int.tmod_eq_emod_of_nonneg (by omega), hk, ← hN, Int.natCast_emod]; rfl
    have e2 : Pl.pow q (Pl.gen q) ((i : Int) % (q - 1)) = x := by
      rw [Int.emod_eq_of_lt (by omega) (by omega)]
      show (fld q).pow (Pl.gen q) (Int.toNat (i : Int)) = x
      rw [Int.toNat_natCast, i3]
    rw [e1, e2]
    exact ⟨okF_f hq, okF_f hq, okF_f hq, okF_f hq, okF_f hq, Br_eq (Br_eq (Br_eq (Br_eq ⟨by omega, Br_eq (Br_eq ⟨trivial, rfl⟩)⟩)))⟩
theorem snd7 : Sound Try.prog 7 C7 := fn_sound (T := T7) (fn := Try.f7) (tok0 ⟨snd19, snd29, snd34, snd38, snd39, snd42, snd24, trivial⟩) Try.func7 (by kernel_rfl) H7 vc7 (by kernel_rfl)
end Fd
end
