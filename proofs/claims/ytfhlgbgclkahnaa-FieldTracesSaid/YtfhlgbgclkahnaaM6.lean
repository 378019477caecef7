import Derived.Test.YtfhlgbgclkahnaaM5
section
/- Powers and logarithms; FieldPowers, FieldOrders. -/
set_option linter.unusedVariables false
set_option linter.unusedSimpArgs false
set_option maxRecDepth 100000
namespace Fd
open Go Fw Go.Proofs

theorem wrap_mod1 {m n : Int} (m1 : 1 ≤ m) (m6 : m ≤ 65536) : (IntKind.i64.wrap (n.tmod m + m)).tmod m = n % m := by
  have h1 := Int.tmod_lt_of_pos n (show 0 < m by omega)
  have h2 := Int.lt_tmod_of_pos n (show 0 < m by omega)
  rw [wrap_i64 (by omega) (by omega), tmod_pos (by omega), Int.add_emod_right]
  rcases ilt n 0 with h | h
  · have h3 := Int.emod_add_mul_ediv n m
    have h4 := Int.tmod_add_mul_tdiv n m
    have e : n.tmod m = n - m * n.tdiv m := by omega
    rw [e, Int.sub_mul_emod_self_left]
  · rw [Int.tmod_eq_emod_of_nonneg h, Int.emod_emod]
theorem powV_0 (q x : Int) : Pl.powV q x 0 = (1, 0) := rfl
theorem powV_neg {q n : Int} (h : n < 0) : Pl.powV q 0 n = (0, 6) := by
  unfold Pl.powV
  rw [decide_eq_false (show ¬ n = 0 by omega), decide_eq_true (show (0 : Int) = 0 from rfl), decide_eq_true h]; rfl
theorem powV_z {q n : Int} (h : 0 < n) : Pl.powV q 0 n = (0, 0) := by
  unfold Pl.powV
  rw [decide_eq_false (show ¬ n = 0 by omega), decide_eq_true (show (0 : Int) = 0 from rfl), decide_eq_false (show ¬ n < 0 by omega)]; rfl
theorem powV_x {q x n : Int} (hx : x ≠ 0) : Pl.powV q x n = (Pl.pow q x (n % (q - 1)), 0) := by
  by_cases hn : n = 0
  · subst hn
    rw [powV_0, Int.zero_emod]; rfl
  · unfold Pl.powV
    rw [decide_eq_false hn, decide_eq_false hx]; rfl
theorem logV_z (q : Int) : Pl.logV q 0 = (0, 6) := by
  unfold Pl.logV; rw [decide_eq_true rfl]; rfl
theorem logV_x {q x : Int} (hx : x ≠ 0) : Pl.logV q x = (Pl.log q x, 0) := by
  unfold Pl.logV; rw [decide_eq_false hx]; rfl
theorem vc38 : ∀ x, C38.pre x → VC T38 H0 Try.f38 C38 x := by
  rintro ⟨v, (a : Int), (n : Int), ⟨⟩⟩ ⟨q, hq, (rfl : v = _)⟩
  refine cast (α := Pl.okF (D.rptr (fieldC q)) ∧ Br (n == (0 : Int)) (((1 : Int), (0 : Int), ()) = C38.post (fieldD q, a, n, ())) (Br (a % Pl.qF (D.rptr (fieldC q)) == (0 : Int)) (Br (decide (n < (0 : Int))) (((0 : Int), (6 : Int), ()) = C38.post (fieldD q, a, n, ())) (Br (a % Pl.qF (D.rptr (fieldC q)) == (0 : Int)) (((0 : Int), (0 : Int), ()) = C38.post (fieldD q, a, n, ())) (IntKind.i64.wrap (q - (1 : Int)) ≠ (0 : Int) ∧ IntKind.i64.wrap (q - (1 : Int)) ≠ (0 : Int) ∧ (Pl.okM (D.iface (23 : Nat) (D.rptr (fieldC q))) ∧ Pl.inQ (Pl.qA (D.iface (23 : Nat) (D.rptr (fieldC q)))) (a % Pl.qF (D.rptr (fieldC q))) ∧ (0 : Int) ≤ (IntKind.i64.wrap (n.tmod (IntKind.i64.wrap (q - (1 : Int))) + IntKind.i64.wrap (q - (1 : Int)))).tmod (IntKind.i64.wrap (q - (1 : Int))) ∧ (IntKind.i64.wrap (n.tmod (IntKind.i64.wrap (q - (1 : Int))) + IntKind.i64.wrap (q - (1 : Int)))).tmod (IntKind.i64.wrap (q - (1 : Int))) ≤ (4611686018427387904 : Int)) ∧ (Pl.pow (Pl.qA (D.iface (23 : Nat) (D.rptr (fieldC q)))) (a % Pl.qF (D.rptr (fieldC q))) ((IntKind.i64.wrap (n.tmod (IntKind.i64.wrap (q - (1 : Int))) + IntKind.i64.wrap (q - (1 : Int)))).tmod (IntKind.i64.wrap (q - (1 : Int)))), (0 : Int), ()) = C38.post (fieldD q, a, n, ())))) (Br (a % Pl.qF (D.rptr (fieldC q)) == (0 : Int)) (((0 : Int), (0 : Int), ()) = C38.post (fieldD q, a, n, ())) (IntKind.i64.wrap (q - (1 : Int)) ≠ (0 : Int) ∧ IntKind.i64.wrap (q - (1 : Int)) ≠ (0 : Int) ∧ (Pl.okM (D.iface (23 : Nat) (D.rptr (fieldC q))) ∧ Pl.inQ (Pl.qA (D.iface (23 : Nat) (D.rptr (fieldC q)))) (a % Pl.qF (D.rptr (fieldC q))) ∧ (0 : Int) ≤ (IntKind.i64.wrap (n.tmod (IntKind.i64.wrap (q - (1 : Int))) + IntKind.i64.wrap (q - (1 : Int)))).tmod (IntKind.i64.wrap (q - (1 : Int))) ∧ (IntKind.i64.wrap (n.tmod (IntKind.i64.wrap (q - (1 : Int))) + IntKind.i64.wrap (q - (1 : Int)))).tmod (IntKind.i64.wrap (q - (1 : Int))) ≤ (4611686018427387904 : Int)) ∧ (Pl.pow (Pl.qA (D.iface (23 : Nat) (D.rptr (fieldC q)))) (a % Pl.qF (D.rptr (fieldC q))) ((IntKind.i64.wrap (n.tmod (IntKind.i64.wrap (q - (1 : Int))) + IntKind.i64.wrap (q - (1 : Int)))).tmod (IntKind.i64.wrap (q - (1 : Int)))), (0 : Int), ()) = C38.post (fieldD q, a, n, ()))))) (by kernel_rfl) ?_
  rw [qF_f, qA_f]
  have hp : C38.post (fieldD q, a, n, ()) = ((Pl.powV q (a % q) n).1, (Pl.powV q (a % q) n).2, ()) := rfl
  rw [hp]
  have q2 := hq.1
  have q6 := hq.2.1
  have hin := emod_inQ hq a
  generalize a % q = x at *
  rw [wrap_i64 (x := q - 1) (by omega) (by omega), wrap_mod1 (by omega) (by omega)]
  have m0 := Int.emod_nonneg n (show q - 1 ≠ 0 by omega)
  have m1 := Int.emod_lt_of_pos n (show 0 < q - 1 by omega)
  refine ⟨okF_f hq, Br_of (fun h => ?_) (fun h => Br_of (fun h1 => Br_of (fun h2 => ?_) (fun h2 => Br_of (fun _ => ?_) (fun h3 => absurd h1 (by rw [h3]; simp)))) (fun h1 => Br_of (fun h2 => absurd h2 (by rw [h1]; simp)) (fun h2 => ?_)))⟩
  · have h : n = 0 := by simpa using h
    subst h; rfl
  · have h1 : x = 0 := by simpa using h1
    subst h1
    rw [powV_neg (of_decide_eq_true h2)]
  · have h : n ≠ 0 := by simpa using h
    have h1 : x = 0 := by simpa using h1
    have h2 : ¬ n < 0 := of_decide_eq_false h2
    subst h1
    rw [powV_z (by omega)]
  · have h1 : x ≠ 0 := by simpa using h1
    rw [powV_x h1]
    exact ⟨by omega, by omega, ⟨okM_f hq, hin, m0, by omega⟩, rfl⟩
theorem vc39 : ∀ x, C39.pre x → VC T30 H39 Try.f39 C39 x := by
  rintro ⟨v, (a : Int), ⟨⟩⟩ ⟨q, hq, (rfl : v = _)⟩
  refine cast (α := Pl.okF (D.rptr (fieldC q)) ∧ Br (a % Pl.qF (D.rptr (fieldC q)) == (0 : Int)) (((0 : Int), (6 : Int), ()) = C39.post (fieldD q, a, ())) (∃ (n : Nat), itl (fun (G : Int × Int × PUnit → Prop) (x : Int × Int × PUnit) => Br (x.snd.fst != a % Pl.qF (D.rptr (fieldC q))) ((Pl.okM (arD q) ∧ Pl.inQ (Pl.qA (arD q)) x.snd.fst ∧ Pl.inQ (Pl.qA (arD q)) (Pl.gen q)) ∧ G (IntKind.i64.wrap (x.fst + (1 : Int)), Pl.mul (Pl.qA (arD q)) x.snd.fst (Pl.gen q), ())) ((x.fst, (0 : Int), ()) = C39.post (fieldD q, a, ()))) n ((0 : Int), (1 : Int), ()))) (by kernel_rfl) ?_
  rw [qF_f, qA_ar hq]
  have hp : C39.post (fieldD q, a, ()) = ((Pl.logV q (a % q)).1, (Pl.logV q (a % q)).2, ()) := rfl
  rw [hp]
  have q2 := hq.1
  have q6 := hq.2.1
  have hin := emod_inQ hq a
  generalize a % q = x at *
  refine ⟨okF_f hq, Br_of (fun h => ?_) (fun h => ?_)⟩
  · have h : x = 0 := by simpa using h
    subst h
    rw [logV_z]
  · have h : x ≠ 0 := by simpa using h
    rw [logV_x h]
    obtain ⟨i, hi, hlog, hpow⟩ := log_spec hq hin h
    refine itl_rule (fun s => ∃ j : Nat, s.1 = (j : Int) ∧ j ≤ i ∧ s.2.1 = (fld q).pow (Pl.gen q) j) (fun s => ((i : Int) - s.1).toNat) ⟨0, rfl, Nat.zero_le _, rfl⟩ ?_
    rintro ⟨n, y, ⟨⟩⟩ G ⟨j, e1, hj, e2⟩ hG
    simp only at e1 e2 hG ⊢
    subst e1 e2
    refine Br_of (fun h1 => ?_) (fun h1 => ?_)
    · have hji : j ≠ i := fun e => by subst e; rw [hpow] at h1; simp at h1
      rw [wrap_i64 (by omega) (by omega)]
      exact ⟨⟨okM_ar hq, gen_in hq j, gen_inQ hq⟩, hG _ ⟨j + 1, by simp, by omega, rfl⟩ (by simp only; omega)⟩
    · have h1 : (fld q).pow (Pl.gen q) j = x := by simpa using h1
      have : j = i := (gen_spec hq).2.2.2.2.inj (fld_ok hq) j i (by omega) hi (by rw [h1, hpow])
      subst this
      rw [hlog]
theorem nrc38 : NRC C38 := ⟨fun x hx => ⟨okF_nr hx, trivial, trivial, trivial⟩, fun x hx => ⟨trivial, trivial, trivial⟩⟩
theorem nrc39 : NRC C39 := ⟨fun x hx => ⟨okF_nr hx, trivial, trivial⟩, fun x hx => ⟨trivial, trivial, trivial⟩⟩
theorem snd38 : Sound Try.prog 38 C38 := fn_sound (T := T38) (fn := Try.f38) (tok0 ⟨snd95, snd100, trivial⟩) Try.func38 (by kernel_rfl) H0 vc38 (by kernel_rfl) (hC := nrc38)
theorem snd39 : Sound Try.prog 39 C39 := fn_sound (T := T30) (fn := Try.f39) (tokF ⟨snd95, trivial⟩) Try.func39 (by kernel_rfl) H39 vc39 (by kernel_rfl) (hC := nrc39)
theorem vc6 : ∀ x, C6.pre x → VC T6 H0 Try.f6 C6 x := by
  rintro ⟨(o : Int), (a : Int), (n : Int), ⟨⟩⟩ -
  refine cast (α := True ∧ Pl.okr (Pl.someQ o (5000 : Int), Pl.lpf (Pl.someQ o (5000 : Int)), Pl.K (Pl.someQ o (5000 : Int)), Pl.Mod (Pl.someQ o (5000 : Int)), ()) ∧ Pl.okF (D.rptr (fieldC (Pl.someQ o (5000 : Int)))) ∧ Pl.okF (D.rptr (fieldC (Pl.someQ o (5000 : Int)))) ∧ Br (a % Pl.someQ o (5000 : Int) == (0 : Int)) (Br (n == (0 : Int)) (Br ((Pl.logV (Pl.qF (D.rptr (fieldC (Pl.someQ o (5000 : Int))))) (a % Pl.qF (D.rptr (fieldC (Pl.someQ o (5000 : Int)))))).snd != (6 : Int)) ((false, ()) = C6.post (o, a, n, ())) (Br ((Pl.logV (Pl.qF (D.rptr (fieldC (Pl.someQ o (5000 : Int))))) (a % Pl.qF (D.rptr (fieldC (Pl.someQ o (5000 : Int)))))).fst != (0 : Int)) ((false, ()) = C6.post (o, a, n, ())) (Br (!((Pl.powV (Pl.qF (D.rptr (fieldC (Pl.someQ o (5000 : Int))))) (a % Pl.qF (D.rptr (fieldC (Pl.someQ o (5000 : Int))))) n).snd == (6 : Int)) == decide (n < (0 : Int))) ((false, ()) = C6.post (o, a, n, ())) (Br ((Pl.powV (Pl.qF (D.rptr (fieldC (Pl.someQ o (5000 : Int))))) (a % Pl.qF (D.rptr (fieldC (Pl.someQ o (5000 : Int))))) n).snd != (0 : Int)) (Br ((Pl.powV (Pl.qF (D.rptr (fieldC (Pl.someQ o (5000 : Int))))) (a % Pl.qF (D.rptr (fieldC (Pl.someQ o (5000 : Int))))) n).snd != (6 : Int)) ((false, ()) = C6.post (o, a, n, ())) (Br ((Pl.powV (Pl.qF (D.rptr (fieldC (Pl.someQ o (5000 : Int))))) (a % Pl.qF (D.rptr (fieldC (Pl.someQ o (5000 : Int))))) n).snd != (0 : Int)) (Br ((Pl.powV (Pl.qF (D.rptr (fieldC (Pl.someQ o (5000 : Int))))) (a % Pl.qF (D.rptr (fieldC (Pl.someQ o (5000 : Int))))) n).fst == (0 : Int)) (True ∧ (true, ()) = C6.post (o, a, n, ())) (Br ((Pl.powV (Pl.qF (D.rptr (fieldC (Pl.someQ o (5000 : Int))))) (a % Pl.qF (D.rptr (fieldC (Pl.someQ o (5000 : Int))))) n).snd == (0 : Int)) (Br ((Pl.powV (Pl.qF (D.rptr (fieldC (Pl.someQ o (5000 : Int))))) (a % Pl.qF (D.rptr (fieldC (Pl.someQ o (5000 : Int))))) n).fst == (1 : Int)) (True ∧ (true, ()) = C6.post (o, a, n, ())) ((false, ()) = C6.post (o, a, n, ()))) ((false, ()) = C6.post (o, a, n, ())))) (Br ((Pl.powV (Pl.qF (D.rptr (fieldC (Pl.someQ o (5000 : Int))))) (a % Pl.qF (D.rptr (fieldC (Pl.someQ o (5000 : Int))))) n).snd == (0 : Int)) (Br ((Pl.powV (Pl.qF (D.rptr (fieldC (Pl.someQ o (5000 : Int))))) (a % Pl.qF (D.rptr (fieldC (Pl.someQ o (5000 : Int))))) n).fst == (1 : Int)) (True ∧ (true, ()) = C6.post (o, a, n, ())) ((false, ()) = C6.post (o, a, n, ()))) ((false, ()) = C6.post (o, a, n, ()))))) (Br ((Pl.powV (Pl.qF (D.rptr (fieldC (Pl.someQ o (5000 : Int))))) (a % Pl.qF (D.rptr (fieldC (Pl.someQ o (5000 : Int))))) n).snd != (0 : Int)) (Br ((Pl.powV (Pl.qF (D.rptr (fieldC (Pl.someQ o (5000 : Int))))) (a % Pl.qF (D.rptr (fieldC (Pl.someQ o (5000 : Int))))) n).fst == (0 : Int)) (True ∧ (true, ()) = C6.post (o, a, n, ())) (Br ((Pl.powV (Pl.qF (D.rptr (fieldC (Pl.someQ o (5000 : Int))))) (a % Pl.qF (D.rptr (fieldC (Pl.someQ o (5000 : Int))))) n).snd == (0 : Int)) (Br ((Pl.powV (Pl.qF (D.rptr (fieldC (Pl.someQ o (5000 : Int))))) (a % Pl.qF (D.rptr (fieldC (Pl.someQ o (5000 : Int))))) n).fst == (1 : Int)) (True ∧ (true, ()) = C6.post (o, a, n, ())) ((false, ()) = C6.post (o, a, n, ()))) ((false, ()) = C6.post (o, a, n, ())))) (Br ((Pl.powV (Pl.qF (D.rptr (fieldC (Pl.someQ o (5000 : Int))))) (a % Pl.qF (D.rptr (fieldC (Pl.someQ o (5000 : Int))))) n).snd == (0 : Int)) (Br ((Pl.powV (Pl.qF (D.rptr (fieldC (Pl.someQ o (5000 : Int))))) (a % Pl.qF (D.rptr (fieldC (Pl.someQ o (5000 : Int))))) n).fst == (1 : Int)) (True ∧ (true, ()) = C6.post (o, a, n, ())) ((false, ()) = C6.post (o, a, n, ()))) ((false, ()) = C6.post (o, a, n, ())))))))) (Br ((Pl.logV (Pl.qF (D.rptr (fieldC (Pl.someQ o (5000 : Int))))) (a % Pl.qF (D.rptr (fieldC (Pl.someQ o (5000 : Int)))))).snd != (6 : Int)) ((false, ()) = C6.post (o, a, n, ())) (Br ((Pl.logV (Pl.qF (D.rptr (fieldC (Pl.someQ o (5000 : Int))))) (a % Pl.qF (D.rptr (fieldC (Pl.someQ o (5000 : Int)))))).fst != (0 : Int)) ((false, ()) = C6.post (o, a, n, ())) (Br (!((Pl.powV (Pl.qF (D.rptr (fieldC (Pl.someQ o (5000 : Int))))) (a % Pl.qF (D.rptr (fieldC (Pl.someQ o (5000 : Int))))) n).snd == (6 : Int)) == decide (n < (0 : Int))) ((false, ()) = C6.post (o, a, n, ())) (Br ((Pl.powV (Pl.qF (D.rptr (fieldC (Pl.someQ o (5000 : Int))))) (a % Pl.qF (D.rptr (fieldC (Pl.someQ o (5000 : Int))))) n).snd != (0 : Int)) (Br ((Pl.powV (Pl.qF (D.rptr (fieldC (Pl.someQ o (5000 : Int))))) (a % Pl.qF (D.rptr (fieldC (Pl.someQ o (5000 : Int))))) n).snd != (6 : Int)) ((false, ()) = C6.post (o, a, n, ())) (Br ((Pl.powV (Pl.qF (D.rptr (fieldC (Pl.someQ o (5000 : Int))))) (a % Pl.qF (D.rptr (fieldC (Pl.someQ o (5000 : Int))))) n).snd != (0 : Int)) (Br ((Pl.powV (Pl.qF (D.rptr (fieldC (Pl.someQ o (5000 : Int))))) (a % Pl.qF (D.rptr (fieldC (Pl.someQ o (5000 : Int))))) n).fst == (0 : Int)) (True ∧ (true, ()) = C6.post (o, a, n, ())) (Br ((Pl.powV (Pl.qF (D.rptr (fieldC (Pl.someQ o (5000 : Int))))) (a % Pl.qF (D.rptr (fieldC (Pl.someQ o (5000 : Int))))) n).snd == (0 : Int)) (Br ((Pl.powV (Pl.qF (D.rptr (fieldC (Pl.someQ o (5000 : Int))))) (a % Pl.qF (D.rptr (fieldC (Pl.someQ o (5000 : Int))))) n).fst == (0 : Int)) (True ∧ (true, ()) = C6.post (o, a, n, ())) ((false, ()) = C6.post (o, a, n, ()))) ((false, ()) = C6.post (o, a, n, ())))) (Br ((Pl.powV (Pl.qF (D.rptr (fieldC (Pl.someQ o (5000 : Int))))) (a % Pl.qF (D.rptr (fieldC (Pl.someQ o (5000 : Int))))) n).snd == (0 : Int)) (Br ((Pl.powV (Pl.qF (D.rptr (fieldC (Pl.someQ o (5000 : Int))))) (a % Pl.qF (D.rptr (fieldC (Pl.someQ o (5000 : Int))))) n).fst == (0 : Int)) (True ∧ (true, ()) = C6.post (o, a, n, ())) ((false, ()) = C6.post (o, a, n, ()))) ((false, ()) = C6.post (o, a, n, ()))))) (Br ((Pl.powV (Pl.qF (D.rptr (fieldC (Pl.someQ o (5000 : Int))))) (a % Pl.qF (D.rptr (fieldC (Pl.someQ o (5000 : Int))))) n).snd != (0 : Int)) (Br ((Pl.powV (Pl.qF (D.rptr (fieldC (Pl.someQ o (5000 : Int))))) (a % Pl.qF (D.rptr (fieldC (Pl.someQ o (5000 : Int))))) n).fst == (0 : Int)) (True ∧ (true, ()) = C6.post (o, a, n, ())) (Br ((Pl.powV (Pl.qF (D.rptr (fieldC (Pl.someQ o (5000 : Int))))) (a % Pl.qF (D.rptr (fieldC (Pl.someQ o (5000 : Int))))) n).snd == (0 : Int)) (Br ((Pl.powV (Pl.qF (D.rptr (fieldC (Pl.someQ o (5000 : Int))))) (a % Pl.qF (D.rptr (fieldC (Pl.someQ o (5000 : Int))))) n).fst == (0 : Int)) (True ∧ (true, ()) = C6.post (o, a, n, ())) ((false, ()) = C6.post (o, a, n, ()))) ((false, ()) = C6.post (o, a, n, ())))) (Br ((Pl.powV (Pl.qF (D.rptr (fieldC (Pl.someQ o (5000 : Int))))) (a % Pl.qF (D.rptr (fieldC (Pl.someQ o (5000 : Int))))) n).snd == (0 : Int)) (Br ((Pl.powV (Pl.qF (D.rptr (fieldC (Pl.someQ o (5000 : Int))))) (a % Pl.qF (D.rptr (fieldC (Pl.someQ o (5000 : Int))))) n).fst == (0 : Int)) (True ∧ (true, ()) = C6.post (o, a, n, ())) ((false, ()) = C6.post (o, a, n, ()))) ((false, ()) = C6.post (o, a, n, ()))))))))) (IntKind.i64.wrap (Pl.someQ o (5000 : Int) - (1 : Int)) ≠ (0 : Int) ∧ IntKind.i64.wrap (Pl.someQ o (5000 : Int) - (1 : Int)) ≠ (0 : Int) ∧ Br ((Pl.powV (Pl.qF (D.rptr (fieldC (Pl.someQ o (5000 : Int))))) (a % Pl.qF (D.rptr (fieldC (Pl.someQ o (5000 : Int))))) n).snd == (0 : Int)) (Br ((Pl.logV (Pl.qF (D.rptr (fieldC (Pl.someQ o (5000 : Int))))) (a % Pl.qF (D.rptr (fieldC (Pl.someQ o (5000 : Int)))))).snd == (0 : Int)) ((Pl.okr (Pl.someQ o (5000 : Int), Pl.lpf (Pl.someQ o (5000 : Int)), Pl.K (Pl.someQ o (5000 : Int)), Pl.Mod (Pl.someQ o (5000 : Int)), ()) ∧ Pl.inQ (Pl.someQ o (5000 : Int)) (a % Pl.someQ o (5000 : Int)) ∧ (0 : Int) ≤ (IntKind.i64.wrap (n.tmod (IntKind.i64.wrap (Pl.someQ o (5000 : Int) - (1 : Int))) + IntKind.i64.wrap (Pl.someQ o (5000 : Int) - (1 : Int)))).tmod (IntKind.i64.wrap (Pl.someQ o (5000 : Int) - (1 : Int))) ∧ (IntKind.i64.wrap (n.tmod (IntKind.i64.wrap (Pl.someQ o (5000 : Int) - (1 : Int))) + IntKind.i64.wrap (Pl.someQ o (5000 : Int) - (1 : Int)))).tmod (IntKind.i64.wrap (Pl.someQ o (5000 : Int) - (1 : Int))) ≤ (4611686018427387904 : Int)) ∧ Br ((Pl.powV (Pl.qF (D.rptr (fieldC (Pl.someQ o (5000 : Int))))) (a % Pl.qF (D.rptr (fieldC (Pl.someQ o (5000 : Int))))) n).fst == Pl.pow (Pl.someQ o (5000 : Int)) (a % Pl.someQ o (5000 : Int)) ((IntKind.i64.wrap (n.tmod (IntKind.i64.wrap (Pl.someQ o (5000 : Int) - (1 : Int))) + IntKind.i64.wrap (Pl.someQ o (5000 : Int) - (1 : Int)))).tmod (IntKind.i64.wrap (Pl.someQ o (5000 : Int) - (1 : Int))))) ((Pl.okr (Pl.someQ o (5000 : Int), Pl.lpf (Pl.someQ o (5000 : Int)), Pl.K (Pl.someQ o (5000 : Int)), Pl.Mod (Pl.someQ o (5000 : Int)), ()) ∧ Pl.inQ (Pl.someQ o (5000 : Int)) (a % Pl.someQ o (5000 : Int)) ∧ a % Pl.someQ o (5000 : Int) ≠ (0 : Int)) ∧ Br ((Pl.logV (Pl.qF (D.rptr (fieldC (Pl.someQ o (5000 : Int))))) (a % Pl.qF (D.rptr (fieldC (Pl.someQ o (5000 : Int)))))).fst == Pl.log (Pl.someQ o (5000 : Int)) (a % Pl.someQ o (5000 : Int))) (True ∧ (true, ()) = C6.post (o, a, n, ())) ((false, ()) = C6.post (o, a, n, ()))) ((false, ()) = C6.post (o, a, n, ()))) ((false, ()) = C6.post (o, a, n, ()))) ((false, ()) = C6.post (o, a, n, ())))) (by kernel_rfl) ?_
  have hq := someQ_isQ o 5000
  generalize Pl.someQ o 5000 = q at *
  rw [qF_f]
  have hr : Pl.okr (q, Pl.lpf q, Pl.K q, Pl.Mod q, ()) := okr_RF hq
  have hin := emod_inQ hq a
  generalize a % q = x at *
  have q2 := hq.1
  have q6 := hq.2.1
  refine ⟨trivial, hr, okF_f hq, okF_f hq, Br_of (fun h => ?_) (fun h => ?_)⟩
  · have h : x = 0 := by simpa using h
    subst h
    rw [logV_z]
    rcases Int.lt_trichotomy n 0 with hn | hn | hn
    · rw [powV_neg hn, show (n == 0) = false by simpa using (show n ≠ 0 by omega), decide_eq_true hn]
      show True ∧ (true, ()) = C6.post (o, a, n, ())
      exact ⟨trivial, rfl⟩
    · subst hn
      rw [powV_0]
      show True ∧ (true, ()) = C6.post (o, a, 0, ())
      exact ⟨trivial, rfl⟩
    · rw [powV_z hn, show (n == 0) = false by simpa using (show n ≠ 0 by omega), decide_eq_false (show ¬ n < 0 by omega)]
      show True ∧ (true, ()) = C6.post (o, a, n, ())
      exact ⟨trivial, rfl⟩
  · have h : x ≠ 0 := by simpa using h
    rw [wrap_i64 (x := q - 1) (by omega) (by omega), wrap_mod1 (by omega) (by omega), powV_x h, logV_x h]
    have m0 := Int.emod_nonneg n (show q - 1 ≠ 0 by omega)
    have m1 := Int.emod_lt_of_pos n (show 0 < q - 1 by omega)
    exact ⟨by omega, by omega, Br_eq (Br_eq ⟨⟨hr, hin, m0, by omega⟩, Br_eq ⟨⟨hr, hin, h⟩, Br_eq ⟨trivial, rfl⟩⟩⟩)⟩
theorem snd6 : Sound Try.prog 6 C6 := fn_sound (T := T6) (fn := Try.f6) (tok0 ⟨snd19, snd29, snd38, snd39, snd40, snd41, snd24, trivial⟩) Try.func6 (by kernel_rfl) H0 vc6 (by kernel_rfl)
theorem emod_self_in {q x : Int} (h : Pl.inQ q x) : x % q = x := Int.emod_eq_of_lt h.1 h.2
theorem Br_nb {b c : Bool} {p r : Prop} (h : b = c) (hr : r) : Br (!(b == c)) p r := Br_of (fun e => by rw [h] at e; simp at e) (fun _ => hr)
theorem vc7 : ∀ x, C7.pre x → VC T7 H7 Try.f7 C7 x := by
  rintro ⟨(o : Int), (a : Int), (b : Int), ⟨⟩⟩ -
  refine cast (α := True ∧ Pl.okF (D.rptr (fieldC (Pl.someQ o (2000 : Int)))) ∧ ∃ (n : Nat), itl (fun (G : Int × PUnit → Prop) (x : Int × PUnit) => Br (decide (x.fst ≤ Pl.gen (Pl.qF (D.rptr (fieldC (Pl.someQ o (2000 : Int))))))) (∃ (n : Nat), itl (fun (G_1 : Int × Int × PUnit → Prop) (x_1 : Int × Int × PUnit) => Br (x_1.snd.fst != (1 : Int)) (Br (decide (x_1.fst < Pl.someQ o (2000 : Int))) (Pl.okF (D.rptr (fieldC (Pl.someQ o (2000 : Int)))) ∧ G_1 (IntKind.i64.wrap (x_1.fst + (1 : Int)), Pl.mul (Pl.qF (D.rptr (fieldC (Pl.someQ o (2000 : Int))))) (x_1.snd.fst % Pl.qF (D.rptr (fieldC (Pl.someQ o (2000 : Int))))) (x.fst % Pl.qF (D.rptr (fieldC (Pl.someQ o (2000 : Int))))), ())) (Br (!(x_1.fst == IntKind.i64.wrap (Pl.someQ o (2000 : Int) - (1 : Int))) == (x.fst == Pl.gen (Pl.qF (D.rptr (fieldC (Pl.someQ o (2000 : Int))))))) ((false, ()) = C7.post (o, a, b, ())) (G (IntKind.i64.wrap (x.fst + (1 : Int)), ())))) (Br (!(x_1.fst == IntKind.i64.wrap (Pl.someQ o (2000 : Int) - (1 : Int))) == (x.fst == Pl.gen (Pl.qF (D.rptr (fieldC (Pl.someQ o (2000 : Int))))))) ((false, ()) = C7.post (o, a, b, ())) (G (IntKind.i64.wrap (x.fst + (1 : Int)), ())))) n ((1 : Int), x)) (Pl.okr (Pl.someQ o (2000 : Int), Pl.lpf (Pl.someQ o (2000 : Int)), Pl.K (Pl.someQ o (2000 : Int)), Pl.Mod (Pl.someQ o (2000 : Int)), ()) ∧ Pl.okr (Pl.someQ o (2000 : Int), Pl.lpf (Pl.someQ o (2000 : Int)), Pl.K (Pl.someQ o (2000 : Int)), Pl.Mod (Pl.someQ o (2000 : Int)), ()) ∧ Br (a % Pl.someQ o (2000 : Int) == (0 : Int)) (True ∧ (true, ()) = C7.post (o, a, b, ())) (Br (b % Pl.someQ o (2000 : Int) == (0 : Int)) (True ∧ (true, ()) = C7.post (o, a, b, ())) (Pl.okF (D.rptr (fieldC (Pl.someQ o (2000 : Int)))) ∧ Pl.okF (D.rptr (fieldC (Pl.someQ o (2000 : Int)))) ∧ Pl.okF (D.rptr (fieldC (Pl.someQ o (2000 : Int)))) ∧ Pl.okF (D.rptr (fieldC (Pl.someQ o (2000 : Int)))) ∧ Pl.okF (D.rptr (fieldC (Pl.someQ o (2000 : Int)))) ∧ Br ((Pl.logV (Pl.qF (D.rptr (fieldC (Pl.someQ o (2000 : Int))))) (a % Pl.someQ o (2000 : Int) % Pl.qF (D.rptr (fieldC (Pl.someQ o (2000 : Int)))))).snd == (0 : Int)) (Br ((Pl.logV (Pl.qF (D.rptr (fieldC (Pl.someQ o (2000 : Int))))) (b % Pl.someQ o (2000 : Int) % Pl.qF (D.rptr (fieldC (Pl.someQ o (2000 : Int)))))).snd == (0 : Int)) (Br ((Pl.logV (Pl.qF (D.rptr (fieldC (Pl.someQ o (2000 : Int))))) (Pl.mul (Pl.qF (D.rptr (fieldC (Pl.someQ o (2000 : Int))))) (a % Pl.someQ o (2000 : Int) % Pl.qF (D.rptr (fieldC (Pl.someQ o (2000 : Int))))) (b % Pl.someQ o (2000 : Int) % Pl.qF (D.rptr (fieldC (Pl.someQ o (2000 : Int))))) % Pl.qF (D.rptr (fieldC (Pl.someQ o (2000 : Int)))))).snd == (0 : Int)) (Br ((Pl.powV (Pl.qF (D.rptr (fieldC (Pl.someQ o (2000 : Int))))) (Pl.gen (Pl.qF (D.rptr (fieldC (Pl.someQ o (2000 : Int))))) % Pl.qF (D.rptr (fieldC (Pl.someQ o (2000 : Int))))) (Pl.logV (Pl.qF (D.rptr (fieldC (Pl.someQ o (2000 : Int))))) (a % Pl.someQ o (2000 : Int) % Pl.qF (D.rptr (fieldC (Pl.someQ o (2000 : Int)))))).fst).snd == (0 : Int)) (IntKind.i64.wrap (Pl.someQ o (2000 : Int) - (1 : Int)) ≠ (0 : Int) ∧ Br ((Pl.logV (Pl.qF (D.rptr (fieldC (Pl.someQ o (2000 : Int))))) (Pl.mul (Pl.qF (D.rptr (fieldC (Pl.someQ o (2000 : Int))))) (a % Pl.someQ o (2000 : Int) % Pl.qF (D.rptr (fieldC (Pl.someQ o (2000 : Int))))) (b % Pl.someQ o (2000 : Int) % Pl.qF (D.rptr (fieldC (Pl.someQ o (2000 : Int))))) % Pl.qF (D.rptr (fieldC (Pl.someQ o (2000 : Int)))))).fst == (IntKind.i64.wrap ((Pl.logV (Pl.qF (D.rptr (fieldC (Pl.someQ o (2000 : Int))))) (a % Pl.someQ o (2000 : Int) % Pl.qF (D.rptr (fieldC (Pl.someQ o (2000 : Int)))))).fst + (Pl.logV (Pl.qF (D.rptr (fieldC (Pl.someQ o (2000 : Int))))) (b % Pl.someQ o (2000 : Int) % Pl.qF (D.rptr (fieldC (Pl.someQ o (2000 : Int)))))).fst)).tmod (IntKind.i64.wrap (Pl.someQ o (2000 : Int) - (1 : Int)))) (Br ((Pl.powV (Pl.qF (D.rptr (fieldC (Pl.someQ o (2000 : Int))))) (Pl.gen (Pl.qF (D.rptr (fieldC (Pl.someQ o (2000 : Int))))) % Pl.qF (D.rptr (fieldC (Pl.someQ o (2000 : Int))))) (Pl.logV (Pl.qF (D.rptr (fieldC (Pl.someQ o (2000 : Int))))) (a % Pl.someQ o (2000 : Int) % Pl.qF (D.rptr (fieldC (Pl.someQ o (2000 : Int)))))).fst).fst == a % Pl.someQ o (2000 : Int)) (True ∧ (true, ()) = C7.post (o, a, b, ())) ((false, ()) = C7.post (o, a, b, ()))) ((false, ()) = C7.post (o, a, b, ()))) ((false, ()) = C7.post (o, a, b, ()))) ((false, ()) = C7.post (o, a, b, ()))) ((false, ()) = C7.post (o, a, b, ()))) ((false, ()) = C7.post (o, a, b, ())))))) n ((1 : Int), ())) (by kernel_rfl) ?_
  have hq := someQ_isQ o 2000
  generalize Pl.someQ o 2000 = q at *
  rw [qF_f]
  have hr : Pl.okr (q, Pl.lpf q, Pl.K q, Pl.Mod q, ()) := okr_RF hq
  have hx := emod_inQ hq a
  have hy := emod_inQ hq b
  generalize a % q = x at *
  generalize b % q = y at *
  have q2 := hq.1
  have q6 := hq.2.1
  have ok := fld_ok hq
  obtain ⟨g1, g2, g3, g4, g5⟩ := gen_spec hq
  have hg := gen_inQ hq
  rw [wrap_i64 (x := q - 1) (by omega) (by omega), emod_self_in hx, emod_self_in hy, emod_self_in hg, emod_self_in (mul_inQ hq x y)]
  refine ⟨trivial, okF_f hq, itl_rule (fun s => 1 ≤ s.1 ∧ s.1 ≤ Pl.gen q + 1) (fun s => (Pl.gen q + 1 - s.1).toNat) ⟨by simp only; omega, by simp only; omega⟩ ?_⟩
  rintro ⟨z, ⟨⟩⟩ G ⟨z1, z2⟩ hG
  simp only at z1 z2 hG ⊢
  refine Br_of (fun h => ?_) (fun h => ?_)
  · have h : z ≤ Pl.gen q := of_decide_eq_true h
    have hz : Pl.inQ q z := ⟨by omega, by omega⟩
    have hz0 : z ≠ 0 := by omega
    have hord : ∀ n : Nat, (fld q).Ord z n → ((n : Int) == q - 1) = (z == Pl.gen q) := by
      intro n hn
      by_cases e : z = Pl.gen q
      · subst e
        have hd1 := hn.dvd ok g5.2.1
        have hd2 := g5.dvd ok hn.2.1
        have := Nat.dvd_antisymm hd1 hd2
        have e1 : (n : Int) = q - 1 := by omega
        rw [e1]; simp
      · have e2 : (n : Int) ≠ q - 1 := fun e2 => by
          have hn' : n = q.toNat - 1 := by omega
          rw [hn'] at hn
          have := (genT_spec hq (g := z) (by omega) (by omega)).2 hn
          rw [g4 z (by omega) (by omega)] at this
          cases this
        rw [beq_eq_false_iff_ne.2 e2, beq_eq_false_iff_ne.2 e]
    rw [emod_self_in hz]
    refine itl_rule (fun s => ∃ n : Nat, s.1 = (n : Int) ∧ 1 ≤ n ∧ (n : Int) ≤ q ∧ s.2.1 = (fld q).pow z n ∧ ∀ i, 1 ≤ i → i < n → (fld q).pow z i ≠ 1) (fun s => (q - s.1).toNat) ⟨1, rfl, Nat.le_refl _, by omega, ((Fm.Fld.pow_one ok ((in_iff hq z).2 hz)).symm), fun i h1 h2 => by omega⟩ ?_
    rintro ⟨n0, y0, ⟨⟩⟩ G1 ⟨n, e1, n1, n2, e2, hn⟩ hG1
    simp only at e1 e2 hG1 ⊢
    subst e1 e2
    refine Br_of (fun h1 => ?_) (fun h1 => ?_)
    · have h1 : (fld q).pow z n ≠ 1 := by simpa using h1
      refine Br_of (fun h2 => ?_) (fun h2 => ?_)
      · have h2 : (n : Int) < q := of_decide_eq_true h2
        rw [wrap_i64 (by omega) (by omega), emod_self_in ((in_iff hq _).1 (Fm.Fld.pow_in ok z n))]
        refine ⟨okF_f hq, hG1 _ ⟨n + 1, rfl, by omega, by omega, rfl, fun i i1 i2 => ?_⟩ (by simp only; omega)⟩
        by_cases e : i = n
        · subst e; exact h1
        · exact hn i i1 (by omega)
      · have h2 : ¬ (n : Int) < q := of_decide_eq_false h2
        exact absurd (fermat hq hz.1 hz.2 hz0) (hn (q.toNat - 1) (by omega) (by omega))
    · have h1 : (fld q).pow z n = 1 := by simpa using h1
      refine Br_nb (hord n ⟨n1, h1, fun m m1 m2 => hn m m1 m2⟩) ?_
      rw [wrap_i64 (by omega) (by omega)]
      exact hG _ ⟨by simp only; omega, by simp only; omega⟩ (by simp only; omega)
  · refine ⟨hr, hr, Br_of (fun _ => ⟨trivial, rfl⟩) (fun h1 => Br_of (fun _ => ⟨trivial, rfl⟩) (fun h2 => ?_))⟩
    have h1 : x ≠ 0 := by simpa using h1
    have h2 : y ≠ 0 := by simpa using h2
    have hg0 : Pl.gen q ≠ 0 := by omega
    obtain ⟨i, i1, i2, i3⟩ := log_spec hq hx h1
    obtain ⟨j, j1, j2, j3⟩ := log_spec hq hy h2
    have hxy : Pl.mul q x y = (fld q).pow (Pl.gen q) (i + j) := by rw [Fm.Fld.pow_add ok, i3, j3]; rfl
    have hxy0 : Pl.mul q x y ≠ 0 := by rw [hxy]; exact Fm.Fld.pow_ne ok (dom hq) ((in_iff hq _).2 hg) hg0 _
    obtain ⟨k, k1, k2, k3⟩ := log_spec hq (mul_inQ hq x y) hxy0
    rw [logV_x h1, logV_x h2, logV_x hxy0, powV_x hg0]
    simp only
    rw [i2, j2, k2]
    have hN : ((q.toNat - 1 : Nat) : Int) = q - 1 := by omega
    have hk : k = (i + j) % (q.toNat - 1) := by
      refine g5.inj ok k _ k1 (Nat.mod_lt _ (by omega)) ?_
      rw [k3, hxy]
      conv => lhs; rw [← Nat.div_add_mod (i + j) (q.toNat - 1), Fm.Fld.pow_add ok, Fm.Fld.pow_mul ok, g5.2.1, Fm.Fld.one_pow ok, Fm.Fld.one_mul ok (Fm.Fld.pow_in ok _ _)]
    have e1 : (IntKind.i64.wrap ((i : Int) + (j : Int))).tmod (q - 1) = (k : Int) := by
      rw [wrap_i64 (by omega) (by omega), Int.tmod_eq_emod_of_nonneg (by omega), hk, ← hN, Int.natCast_emod]; rfl
    have e2 : Pl.pow q (Pl.gen q) ((i : Int) % (q - 1)) = x := by
      rw [Int.emod_eq_of_lt (by omega) (by omega)]
      show (fld q).pow (Pl.gen q) (Int.toNat (i : Int)) = x
      rw [Int.toNat_natCast, i3]
    rw [e1, e2]
    exact ⟨okF_f hq, okF_f hq, okF_f hq, okF_f hq, okF_f hq, Br_eq (Br_eq (Br_eq (Br_eq ⟨by omega, Br_eq (Br_eq ⟨trivial, rfl⟩)⟩)))⟩
theorem snd7 : Sound Try.prog 7 C7 := fn_sound (T := T7) (fn := Try.f7) (tok0 ⟨snd19, snd29, snd34, snd38, snd39, snd42, snd24, trivial⟩) Try.func7 (by kernel_rfl) H7 vc7 (by kernel_rfl)
end Fd
end
section
/- Traces, norms, roots, minimal polynomials: contracts. -/
set_option linter.unusedVariables false
set_option linter.unusedSimpArgs false
set_option maxRecDepth 100000
namespace Fd
open Go Fw Go.Proofs

def Pl.rootL (q a : Int) : Nat → Int → Int × Bool
  | 0, _ => (0, false)
  | f + 1, x => bif decide (Pl.mul q x x = a) then (x, true) else Pl.rootL q a f (x + 1)
def Pl.root (q a : Int) : Int × Bool := Pl.rootL q a q.toNat 0
def C53 : Con := ⟨[.raw, I], [I, I], fun (x : D × Int × Unit) => Pl.okF x.1, fun (x : D × Int × Unit) => ((Pl.root (Pl.qF x.1) (x.2.1 % Pl.qF x.1)).1, bif (Pl.root (Pl.qF x.1) (x.2.1 % Pl.qF x.1)).2 then 0 else 4, ()), none⟩
def H53 : Hints := lo [(0, ⟨[0, 1, 15], [(16, si)]⟩)]
def Pl.okA1 (x : R4 × Int × Unit) : Prop := Pl.okr x.1 ∧ Pl.inQ x.1.1 x.2.1
def C54 : Con := ⟨[G4, I], [I, B], fun (x : R4 × Int × Unit) => Pl.okA1 x, fun (x : R4 × Int × Unit) => ((Pl.root x.1.1 x.2.1).1, (Pl.root x.1.1 x.2.1).2, ()), none⟩
def H54 : Hints := ⟨[], [(1, [2])], [(0, ⟨[1, 2], [(6, si)]⟩)], [], []⟩
def T54 : Ctx := TT [(35, C35)]
def C105 : Con := ⟨[G4, I], [L], fun (x : R4 × Int × Unit) => Pl.okA1 x, fun (x : R4 × Int × Unit) => (Pl.cjs x.1.1 x.2.1, ()), none⟩
def H105 : Hints := ⟨[], [(1, [2])], [(0, ⟨[2], [(1, si), (5, so), (6, si)]⟩)], [], []⟩
def T105 : Ctx := TT [(40, C40)]
def C56 : Con := ⟨[G4, I], [I], fun (x : R4 × Int × Unit) => Pl.okA1 x, fun (x : R4 × Int × Unit) => (Pl.trace x.1.1 x.2.1, ()), none⟩
def C58 : Con := ⟨[G4, I], [I], fun (x : R4 × Int × Unit) => Pl.okA1 x, fun (x : R4 × Int × Unit) => (Pl.norm x.1.1 x.2.1, ()), none⟩
def H56 : Hints := ⟨[], [(1, [2])], [(0, ⟨[2, 6], [(5, si), (7, si)]⟩)], [], []⟩
def T56 : Ctx := TT [(105, C105), (31, C31), (35, C35)]
def C142 : Con := ⟨[L, I], [I], fun (x : List Int × Int × Unit) => x.1.length ≤ 1000000000, fun (x : List Int × Int × Unit) => (Pl.index (fun c => decide (x.2.1 = c)) x.1 0, ()), none⟩
def H142 : Hints := lo [(0, ⟨[0, 1, 7], [(8, si)]⟩)]
def C106 : Con := ⟨[L, I], [B], fun (x : List Int × Int × Unit) => x.1.length ≤ 1000000000, fun (x : List Int × Int × Unit) => (x.1.any fun c => decide (x.2.1 = c), ()), none⟩
def T106 : Ctx := TT [(142, C142)]
/-- Without zeros at the end. -/
def Pl.trimN (l : List Int) : Nat → Nat
  | 0 => 0
  | n + 1 => bif decide (l.getD n 0 = 0) then Pl.trimN l n else n + 1
def Pl.trim (l : List Int) : List Int := l.take (Pl.trimN l l.length)
def C143 : Con := ⟨[L], [L], fun (x : List Int × Unit) => x.1.length ≤ 1000000000, fun (x : List Int × Unit) => (Pl.trim x.1, ()), none⟩
def H143 : Hints := lo [(0, ⟨[0], [(3, si)]⟩)]
/-! ### Products of polynomials -/
def Pl.pst (q : Int) (a b out : List Int) (i k : Nat) : List Int := out.set (i + k) (Pl.add q (out.getD (i + k) 0) (Pl.mul q (a.getD i 0) (b.getD k 0)))
def Pl.prow (q : Int) (a b : List Int) (i : Nat) : Nat → List Int → List Int
  | 0, out => out
  | k + 1, out => Pl.pst q a b (Pl.prow q a b i k out) i k
def Pl.prws (q : Int) (a b : List Int) : Nat → List Int
  | 0 => List.replicate (a.length + b.length - 1) 0
  | i + 1 => Pl.prow q a b i b.length (Pl.prws q a b i)
def Pl.prod (q : Int) (a b : List Int) : List Int := bif decide (a.length = 0) || decide (b.length = 0) then [] else Pl.prws q a b a.length
def Pl.okPr (q : Int) (a b : List Int) : Prop := (∀ x ∈ a, Pl.inQ q x) ∧ (∀ x ∈ b, Pl.inQ q x) ∧ a.length ≤ 1000000 ∧ b.length ≤ 1000000
def C107 : Con := ⟨[.raw, L, L], [L], fun (x : D × List Int × List Int × Unit) => Pl.okF x.1 ∧ Pl.okPr (Pl.qF x.1) x.2.1 x.2.2.1, fun (x : D × List Int × List Int × Unit) => (Pl.trim (Pl.prod (Pl.qF x.1) x.2.1 x.2.2.1), ()), none⟩
def H107 : Hints := ⟨[], [(13, [1000007])], [(0, ⟨[0, 2, 27, 28], [(7, so), (29, si)]⟩), (2, ⟨[0, 2, 8, 9, 27, 28, 29, 34, 35], [(7, so), (36, si)]⟩)], [], []⟩
def T107 : Ctx := TF [(143, C143)]
def C69 : Con := ⟨[G4, L, L], [L], fun (x : R4 × List Int × List Int × Unit) => Pl.okr x.1 ∧ Pl.okPr x.1.1 x.2.1 x.2.2.1, fun (x : R4 × List Int × List Int × Unit) => (Pl.prod x.1.1 x.2.1 x.2.2.1, ()), none⟩
def H69 : Hints := ⟨[], [(1, [3])], [(0, ⟨[1, 2, 3], [(7, so), (8, si)]⟩), (2, ⟨[1, 2, 3, 8], [(7, so), (9, si)]⟩)], [], []⟩
def T69 : Ctx := TT [(31, C31), (35, C35)]
/-! ### Minimal polynomials -/
def Pl.minL (q : Int) (l : List Int) (a : Int) : Nat → Nat → List Int → List Int
  | 0, _, out => out
  | f + 1, i, out => bif decide (i < l.length) && (decide (i = 0) || decide (l.getD i 0 ≠ a)) then Pl.minL q l a f (i + 1) (Pl.prod q out [Pl.neg q (l.getD i 0), 1]) else out
def Pl.minP (q a : Int) : List Int := Pl.minL q (Pl.cjs q a) a (Pl.cjs q a).length 0 [1]
def C59 : Con := ⟨[.raw, I], [L], fun (x : D × Int × Unit) => Pl.okF x.1, fun (x : D × Int × Unit) => (Pl.minP (Pl.qF x.1) (x.2.1 % Pl.qF x.1), ()), none⟩
def H59 : Hints := lo [(0, ⟨[0, 6, 17, 18], [(5, sl), (19, si)]⟩)]
def T59 : Ctx := TF [(95, C95), (104, C104), (106, C106), (107, C107)]
def C60 : Con := ⟨[G4, I], [L], fun (x : R4 × Int × Unit) => Pl.okA1 x, fun (x : R4 × Int × Unit) => (Pl.minP x.1.1 x.2.1, ()), none⟩
def H60 : Hints := ⟨[], [(1, [2])], [(0, ⟨[1, 2, 5], [(6, sl), (7, si)]⟩)], [], []⟩
def T60 : Ctx := TT [(105, C105), (96, C96), (69, C69)]
def Pl.same (a b : List Int) : Bool := decide (a = b)
def C50 : Con := ⟨[L, L], [B], fun (x : List Int × List Int × Unit) => x.1.length ≤ 1000000000, fun (x : List Int × List Int × Unit) => (Pl.same x.1 x.2.1, ()), none⟩
def H50 : Hints := lo [(0, ⟨[0, 1], [(5, si)]⟩)]
def T11 : Ctx := TT [(19, C19), (29, C29), (53, C53), (54, C54), (55, C55), (56, C56), (57, C57), (58, C58), (59, C59), (60, C60), (50, C50), (24, C24)]
def C11 : Con := ⟨[I, I], [B], fun _ => True, fun _ => (true, ()), none⟩

end Fd
end
section
/- Traces, norms, roots, products of polynomials. -/
set_option linter.unusedVariables false
set_option linter.unusedSimpArgs false
set_option maxRecDepth 100000
namespace Fd
open Go Fw Go.Proofs

theorem vc53 : ∀ x, C53.pre x → VC T30 H53 Try.f53 C53 x := by
  rintro ⟨v, (a : Int), ⟨⟩⟩ ⟨q, hq, (rfl : v = _)⟩
  refine cast (α := Pl.okF (D.rptr (fieldC q)) ∧ ∃ (n : Nat), itl (fun (G : Int × PUnit → Prop) (x : Int × PUnit) => Br (decide (x.fst < q)) ((Pl.okM (arD q) ∧ Pl.inQ (Pl.qA (arD q)) x.fst ∧ Pl.inQ (Pl.qA (arD q)) x.fst) ∧ Br (Pl.mul (Pl.qA (arD q)) x.fst x.fst == a % Pl.qF (D.rptr (fieldC q))) ((x.fst, (0 : Int), ()) = C53.post (fieldD q, a, ())) (G (IntKind.i64.wrap (x.fst + (1 : Int)), ()))) (((0 : Int), (4 : Int), ()) = C53.post (fieldD q, a, ()))) n ((0 : Int), ())) (by kernel_rfl) ?_
  rw [qF_f, qA_ar hq]
  have hp : C53.post (fieldD q, a, ()) = ((Pl.root q (a % q)).1, bif (Pl.root q (a % q)).2 then 0 else 4, ()) := rfl
  rw [hp]
  have q2 := hq.1
  have q6 := hq.2.1
  generalize a % q = y
  refine ⟨okF_f hq, itl_rule (fun s => ∃ i : Nat, s.1 = (i : Int) ∧ i ≤ q.toNat ∧ Pl.rootL q y (q.toNat - i) (i : Int) = Pl.root q y) (fun s => (q - s.1).toNat) ⟨0, rfl, Nat.zero_le _, rfl⟩ ?_⟩
  rintro ⟨i0, ⟨⟩⟩ G ⟨i, e, hi, hf⟩ hG
  simp only at e hf hG ⊢
  subst e
  refine Br_of (fun h => ?_) (fun h => ?_)
  · have h : (i : Int) < q := of_decide_eq_true h
    rw [show q.toNat - i = (q.toNat - (i + 1)) + 1 by omega, Pl.rootL] at hf
    rw [wrap_i64 (by omega) (by omega)]
    refine ⟨⟨okM_ar hq, ⟨by omega, h⟩, ⟨by omega, h⟩⟩, Br_of (fun h1 => ?_) (fun h1 => ?_)⟩
    · rw [decide_eq_true (eq_of_beq h1), cond_true] at hf
      rw [← hf]; rfl
    · rw [decide_eq_false (by simpa using h1), cond_false] at hf
      exact hG _ ⟨i + 1, rfl, by omega, hf⟩ (by simp only; omega)
  · have h : ¬ (i : Int) < q := of_decide_eq_false h
    rw [show q.toNat - i = 0 by omega, Pl.rootL] at hf
    rw [← hf]; rfl
theorem vc54 : ∀ x, C54.pre x → VC T54 H54 Try.f54 C54 x := by
  rintro ⟨⟨(q : Int), (p : Int), (k : Int), (m : Int), ⟨⟩⟩, (a : Int), ⟨⟩⟩ ⟨(h0 : Pl.okr _), (ha : Pl.inQ q a)⟩
  obtain ⟨hq, _, _, _⟩ := okr_open h0
  refine cast (α := ∃ (n : Nat), itl (fun (G : Int × PUnit → Prop) (x : Int × PUnit) => Br (decide (x.fst < q)) ((Pl.okr (q, p, k, m, ()) ∧ Pl.inQ q x.fst ∧ Pl.inQ q x.fst) ∧ Br (Pl.mul q x.fst x.fst == a) ((x.fst, true, ()) = C54.post ((q, p, k, m, ()), a, ())) (G (IntKind.i64.wrap (x.fst + (1 : Int)), ()))) (((0 : Int), false, ()) = C54.post ((q, p, k, m, ()), a, ()))) n ((0 : Int), ())) (by kernel_rfl) ?_
  have hp : C54.post ((q, p, k, m, ()), a, ()) = ((Pl.root q a).1, (Pl.root q a).2, ()) := rfl
  rw [hp]
  have q2 := hq.1
  have q6 := hq.2.1
  refine itl_rule (fun s => ∃ i : Nat, s.1 = (i : Int) ∧ i ≤ q.toNat ∧ Pl.rootL q a (q.toNat - i) (i : Int) = Pl.root q a) (fun s => (q - s.1).toNat) ⟨0, rfl, Nat.zero_le _, rfl⟩ ?_
  rintro ⟨i0, ⟨⟩⟩ G ⟨i, e, hi, hf⟩ hG
  simp only at e hf hG ⊢
  subst e
  refine Br_of (fun h => ?_) (fun h => ?_)
  · have h : (i : Int) < q := of_decide_eq_true h
    rw [show q.toNat - i = (q.toNat - (i + 1)) + 1 by omega, Pl.rootL] at hf
    rw [wrap_i64 (by omega) (by omega)]
    refine ⟨⟨h0, ⟨by omega, h⟩, ⟨by omega, h⟩⟩, Br_of (fun h1 => ?_) (fun h1 => ?_)⟩
    · rw [decide_eq_true (eq_of_beq h1), cond_true] at hf
      rw [← hf]
    · rw [decide_eq_false (by simpa using h1), cond_false] at hf
      exact hG _ ⟨i + 1, rfl, by omega, hf⟩ (by simp only; omega)
  · have h : ¬ (i : Int) < q := of_decide_eq_false h
    rw [show q.toNat - i = 0 by omega, Pl.rootL] at hf
    rw [← hf]
theorem vc105 : ∀ x, C105.pre x → VC T105 H105 Try.f105 C105 x := by
  rintro ⟨⟨(q : Int), (p : Int), (k : Int), (m : Int), ⟨⟩⟩, (a : Int), ⟨⟩⟩ ⟨(h0 : Pl.okr _), (ha : Pl.inQ q a)⟩
  obtain ⟨hq, e1, e2, _⟩ := okr_open h0
  refine cast (α := ∃ (n : Nat), itl (fun (G : Int × List Int × Int × PUnit → Prop) (x : Int × List Int × Int × PUnit) => Br (decide (x.snd.snd.fst < k)) (((↑(List.length x.snd.fst) : Int) + (↑[x.fst].length : Int)) * (8 : Int) ≤ (140737488355328 : Int) ∧ (Pl.okr (q, p, k, m, ()) ∧ Pl.inQ q x.fst ∧ (0 : Int) ≤ p ∧ p ≤ (4611686018427387904 : Int)) ∧ G (Pl.pow q x.fst p, List.append x.snd.fst [x.fst], IntKind.i64.wrap (x.snd.snd.fst + (1 : Int)), ())) ((x.snd.1, ()) = C105.post ((q, p, k, m, ()), a, ()))) n (a, [], (0 : Int), ())) (by kernel_rfl) ?_
  have hp : C105.post ((q, p, k, m, ()), a, ()) = (Pl.cjs q a, ()) := rfl
  rw [hp]
  have hK := isQ.K64 hq
  have hK1 := hq.2.2
  have hl2 := hq.prime.1
  have hl6 := (lpf_spec hq.1 hq.2.1).2.1
  have hq6 := hq.2.1
  refine itl_rule (fun s => ∃ i : Nat, s.2.2.1 = (i : Int) ∧ i ≤ (Pl.K q).toNat ∧ Pl.inQ q s.1 ∧ s.2.1.length = i ∧ s.2.1 ++ Pl.conj q ((Pl.K q).toNat - i) s.1 = Pl.cjs q a) (fun s => (Pl.K q - s.2.2.1).toNat) ⟨0, rfl, Nat.zero_le _, ha, rfl, rfl⟩ ?_
  rintro ⟨z, out, i0, ⟨⟩⟩ G ⟨i, e, hi, hz, ho, hc⟩ hG
  simp only at e hz ho hc hG ⊢
  subst e
  refine Br_of (fun h => ?_) (fun h => ?_)
  · have h : (i : Int) < k := of_decide_eq_true h
    rw [wrap_i64 (by omega) (by omega)]
    refine ⟨by simp only [List.length_singleton]; omega, ⟨h0, hz, by omega, by omega⟩, hG _ ⟨i + 1, rfl, by omega, pow_inQ hq _ _, ?_, ?_⟩ (by simp only; omega)⟩
    · show (out ++ [z]).length = i + 1
      rw [List.length_append, ho]; rfl
    · show (out ++ [z]) ++ Pl.conj q ((Pl.K q).toNat - (i + 1)) (Pl.pow q z p) = _
      rw [← hc, List.append_assoc, e1, show (Pl.K q).toNat - i = ((Pl.K q).toNat - (i + 1)) + 1 by omega]; rfl
  · have h : ¬ (i : Int) < k := of_decide_eq_false h
    rw [show (Pl.K q).toNat - i = 0 by omega] at hc
    rw [← hc]
    show (out, ()) = (out ++ [], ())
    rw [List.append_nil]
theorem vc56 : ∀ x, C56.pre x → VC T56 H56 Try.f56 C56 x := by
  rintro ⟨⟨(q : Int), (p : Int), (k : Int), (m : Int), ⟨⟩⟩, (a : Int), ⟨⟩⟩ ⟨(h0 : Pl.okr _), (ha : Pl.inQ q a)⟩
  obtain ⟨hq, _, _, _⟩ := okr_open h0
  refine cast (α := Pl.okA1 ((q, p, k, m, ()), a, ()) ∧ ∃ (n : Nat), itl (fun (G : Int × Int × PUnit → Prop) (x : Int × Int × PUnit) => Br (decide (x.snd.fst < (↑(Pl.cjs q a).length : Int))) ((0 : Int) ≤ x.snd.fst ∧ x.snd.fst < (↑(Pl.cjs q a).length : Int) ∧ (Pl.okr (q, p, k, m, ()) ∧ Pl.inQ q x.fst ∧ Pl.inQ q (rd i64 (Pl.cjs q a) x.snd.fst)) ∧ G (Pl.add q x.fst (rd i64 (Pl.cjs q a) x.snd.fst), IntKind.i64.wrap (x.snd.fst + (1 : Int)), ())) ((x.fst, ()) = C56.post ((q, p, k, m, ()), a, ()))) n ((0 : Int), (0 : Int), ())) (by kernel_rfl) ?_
  have hp : C56.post ((q, p, k, m, ()), a, ()) = ((Pl.cjs q a).foldl (Pl.add q) 0, ()) := rfl
  rw [hp]
  have hl := cjs_len hq a
  have hin := cjs_in hq ha
  generalize Pl.cjs q a = l at *
  refine ⟨⟨h0, ha⟩, itl_rule (fun s => ∃ i : Nat, s.2.1 = (i : Int) ∧ i ≤ l.length ∧ Pl.inQ q s.1 ∧ (l.drop i).foldl (Pl.add q) s.1 = l.foldl (Pl.add q) 0) (fun s => ((l.length : Int) - s.2.1).toNat) ⟨0, rfl, Nat.zero_le _, zero_inQ hq, rfl⟩ ?_⟩
  rintro ⟨s, i0, ⟨⟩⟩ G ⟨i, e, hi, hs, hf⟩ hG
  simp only at e hs hf hG ⊢
  subst e
  refine Br_of (fun h => ?_) (fun h => ?_)
  · have h : i < l.length := by have := of_decide_eq_true h; omega
    rw [rd_i, wrap_i64 (by omega) (by omega)]
    rw [drop_cons 0 h, List.foldl_cons] at hf
    exact ⟨by omega, by omega, ⟨h0, hs, getD_inQ hin h⟩, hG _ ⟨i + 1, rfl, by omega, add_inQ hq _ _, hf⟩ (by simp only; omega)⟩
  · have h : i = l.length := by have := of_decide_eq_false h; omega
    subst h
    rw [List.drop_length] at hf
    rw [← hf]; rfl
theorem vc58 : ∀ x, C58.pre x → VC T56 H56 Try.f58 C58 x := by
  rintro ⟨⟨(q : Int), (p : Int), (k : Int), (m : Int), ⟨⟩⟩, (a : Int), ⟨⟩⟩ ⟨(h0 : Pl.okr _), (ha : Pl.inQ q a)⟩
  obtain ⟨hq, _, _, _⟩ := okr_open h0
  refine cast (α := Pl.okA1 ((q, p, k, m, ()), a, ()) ∧ ∃ (n : Nat), itl (fun (G : Int × Int × PUnit → Prop) (x : Int × Int × PUnit) => Br (decide (x.snd.fst < (↑(Pl.cjs q a).length : Int))) ((0 : Int) ≤ x.snd.fst ∧ x.snd.fst < (↑(Pl.cjs q a).length : Int) ∧ (Pl.okr (q, p, k, m, ()) ∧ Pl.inQ q x.fst ∧ Pl.inQ q (rd i64 (Pl.cjs q a) x.snd.fst)) ∧ G (Pl.mul q x.fst (rd i64 (Pl.cjs q a) x.snd.fst), IntKind.i64.wrap (x.snd.fst + (1 : Int)), ())) ((x.fst, ()) = C58.post ((q, p, k, m, ()), a, ()))) n ((1 : Int), (0 : Int), ())) (by kernel_rfl) ?_
  have hp : C58.post ((q, p, k, m, ()), a, ()) = ((Pl.cjs q a).foldl (Pl.mul q) 1, ()) := rfl
  rw [hp]
  have hl := cjs_len hq a
  have hin := cjs_in hq ha
  generalize Pl.cjs q a = l at *
  refine ⟨⟨h0, ha⟩, itl_rule (fun s => ∃ i : Nat, s.2.1 = (i : Int) ∧ i ≤ l.length ∧ Pl.inQ q s.1 ∧ (l.drop i).foldl (Pl.mul q) s.1 = l.foldl (Pl.mul q) 1) (fun s => ((l.length : Int) - s.2.1).toNat) ⟨0, rfl, Nat.zero_le _, one_inQ hq, rfl⟩ ?_⟩
  rintro ⟨s, i0, ⟨⟩⟩ G ⟨i, e, hi, hs, hf⟩ hG
  simp only at e hs hf hG ⊢
  subst e
  refine Br_of (fun h => ?_) (fun h => ?_)
  · have h : i < l.length := by have := of_decide_eq_true h; omega
    rw [rd_i, wrap_i64 (by omega) (by omega)]
    rw [drop_cons 0 h, List.foldl_cons] at hf
    exact ⟨by omega, by omega, ⟨h0, hs, getD_inQ hin h⟩, hG _ ⟨i + 1, rfl, by omega, mul_inQ hq _ _, hf⟩ (by simp only; omega)⟩
  · have h : i = l.length := by have := of_decide_eq_false h; omega
    subst h
    rw [List.drop_length] at hf
    rw [← hf]; rfl
theorem vc142 : ∀ x, C142.pre x → VC (TT []) H142 Try.f142 C142 x := by
  rintro ⟨(l : List Int), (v : Int), ⟨⟩⟩ (hl : l.length ≤ 1000000000)
  refine cast (α := ∃ (n : Nat), itl (fun (G : Int × PUnit → Prop) (x : Int × PUnit) => Br (decide (x.fst < (↑l.length : Int))) ((0 : Int) ≤ x.fst ∧ x.fst < (↑l.length : Int) ∧ Br (v == rd i64 l x.fst) (x = C142.post (l, v, ())) (G (IntKind.i64.wrap (x.fst + (1 : Int)), ()))) (((-1 : Int), ()) = C142.post (l, v, ()))) n ((0 : Int), ())) (by kernel_rfl) ?_
  have hp : C142.post (l, v, ()) = (Pl.index (fun c => decide (v = c)) l 0, ()) := rfl
  rw [hp]
  refine itl_rule (fun s => ∃ i : Nat, s.1 = (i : Int) ∧ i ≤ l.length ∧ Pl.index (fun c => decide (v = c)) (l.drop i) (i : Int) = Pl.index (fun c => decide (v = c)) l 0) (fun s => ((l.length : Int) - s.1).toNat) ⟨0, rfl, Nat.zero_le _, rfl⟩ ?_
  rintro ⟨i0, ⟨⟩⟩ G ⟨i, e, hi, hf⟩ hG
  simp only at e hf hG ⊢
  subst e
  refine Br_of (fun h => ?_) (fun h => ?_)
  · have h : i < l.length := by have := of_decide_eq_true h; omega
    rw [rd_i, wrap_i64 (by omega) (by omega)]
    rw [drop_cons 0 h, Pl.index] at hf
    refine ⟨by omega, by omega, Br_of (fun h1 => ?_) (fun h1 => ?_)⟩
    · rw [decide_eq_true (eq_of_beq h1), cond_true] at hf
      rw [← hf]
    · rw [decide_eq_false (by simpa using h1), cond_false] at hf
      exact hG _ ⟨i + 1, rfl, by omega, hf⟩ (by simp only; omega)
  · have h : i = l.length := by have := of_decide_eq_false h; omega
    subst h
    rw [List.drop_length] at hf
    rw [← hf]; rfl
theorem vc106 : ∀ x, C106.pre x → VC T106 H0 Try.f106 C106 x := by
  rintro ⟨(l : List Int), (v : Int), ⟨⟩⟩ (hl : l.length ≤ 1000000000)
  refine cast (α := l.length ≤ (1000000000 : Nat) ∧ (decide (Pl.index (fun (c : Int) => decide (v = c)) l (0 : Int) ≥ (0 : Int)), ()) = C106.post (l, v, ())) (by kernel_rfl) ?_
  refine ⟨hl, ?_⟩
  show _ = (l.any fun c => decide (v = c), ())
  congr 1
  rcases index_shift (fun c => decide (v = c)) l 0 with ⟨h1, h2⟩ | ⟨j, h1, h2, h3, h4, h5⟩
  · rw [h1, h2]; rfl
  · rw [h2, h5]; exact decide_eq_true (by omega)
theorem vc143 : ∀ x, C143.pre x → VC (TT []) H143 Try.f143 C143 x := by
  rintro ⟨(l : List Int), ⟨⟩⟩ (hl : l.length ≤ 1000000000)
  refine cast (α := ∃ (n : Nat), itl (fun (G : Int × PUnit → Prop) (x : Int × PUnit) => Br (decide (x.fst > (0 : Int))) ((0 : Int) ≤ IntKind.i64.wrap (x.fst - (1 : Int)) ∧ IntKind.i64.wrap (x.fst - (1 : Int)) < (↑l.length : Int) ∧ Br (rd i64 l (IntKind.i64.wrap (x.fst - (1 : Int))) == (0 : Int)) (G (IntKind.i64.wrap (x.fst - (1 : Int)), ())) ((0 : Int) ≤ x.fst ∧ x.fst ≤ (↑l.length : Int) ∧ x.fst = x.fst ∧ (sub l (0 : Int) x.fst, ()) = C143.post (l, ()))) ((0 : Int) ≤ x.fst ∧ x.fst ≤ (↑l.length : Int) ∧ x.fst = x.fst ∧ (sub l (0 : Int) x.fst, ()) = C143.post (l, ()))) n ((↑l.length : Int), ())) (by kernel_rfl) ?_
  have hp : C143.post (l, ()) = (l.take (Pl.trimN l l.length), ()) := rfl
  rw [hp]
  refine itl_rule (fun s => ∃ i : Nat, s.1 = (i : Int) ∧ i ≤ l.length ∧ Pl.trimN l i = Pl.trimN l l.length) (fun s => s.1.toNat) ⟨l.length, rfl, Nat.le_refl _, rfl⟩ ?_
  rintro ⟨i0, ⟨⟩⟩ G ⟨i, e, hi, hf⟩ hG
  simp only at e hf hG ⊢
  subst e
  have hsub : ∀ n : Nat, sub l (0 : Int) (n : Int) = l.take n := fun n => by unfold sub; simp
  refine Br_of (fun h => ?_) (fun h => ?_)
  · have h : 0 < i := by have := of_decide_eq_true h; omega
    rw [wrap_i64 (by omega) (by omega), show ((i : Int) - 1) = ((i - 1 : Nat) : Int) by omega, rd_i]
    rw [show i = (i - 1) + 1 by omega, Pl.trimN] at hf
    refine ⟨by omega, by omega, Br_of (fun h1 => ?_) (fun h1 => ?_)⟩
    · rw [decide_eq_true (eq_of_beq h1), cond_true] at hf
      exact hG _ ⟨i - 1, rfl, by omega, hf⟩ (by simp only; omega)
    · rw [decide_eq_false (by simpa using h1), cond_false] at hf
      exact ⟨by omega, by omega, trivial, by rw [hsub, ← hf, show i - 1 + 1 = i by omega]⟩
  · have h : i = 0 := by have := of_decide_eq_false h; omega
    subst h
    exact ⟨by omega, by omega, trivial, by rw [hsub, ← hf]; rfl⟩
theorem vc50 : ∀ x, C50.pre x → VC (TT []) H50 Try.f50 C50 x := by
  rintro ⟨(a : List Int), (b : List Int), ⟨⟩⟩ (hl : a.length ≤ 1000000000)
  refine cast (α := Br ((↑a.length : Int) != (↑b.length : Int)) ((false, ()) = C50.post (a, b, ())) (∃ (n : Nat), itl (fun (G : Int × PUnit → Prop) (x : Int × PUnit) => Br (decide (x.fst < (↑a.length : Int))) ((0 : Int) ≤ x.fst ∧ x.fst < (↑a.length : Int) ∧ (0 : Int) ≤ x.fst ∧ x.fst < (↑b.length : Int) ∧ Br (rd i64 a x.fst != rd i64 b x.fst) ((false, ()) = C50.post (a, b, ())) (G (IntKind.i64.wrap (x.fst + (1 : Int)), ()))) ((true, ()) = C50.post (a, b, ()))) n ((0 : Int), ()))) (by kernel_rfl) ?_
  have hp : C50.post (a, b, ()) = (decide (a = b), ()) := rfl
  rw [hp]
  refine Br_of (fun h => ?_) (fun h => ?_)
  · have h : (a.length : Int) ≠ b.length := by simpa using h
    rw [decide_eq_false (fun e => h (by rw [e]))]
  have h : a.length = b.length := by have : (a.length : Int) = b.length := by simpa using h
                                     omega
  refine itl_rule (fun s => ∃ i : Nat, s.1 = (i : Int) ∧ i ≤ a.length ∧ a.take i = b.take i) (fun s => ((a.length : Int) - s.1).toNat) ⟨0, rfl, Nat.zero_le _, rfl⟩ ?_
  rintro ⟨i0, ⟨⟩⟩ G ⟨i, e, hi, hf⟩ hG
  simp only at e hf hG ⊢
  subst e
  refine Br_of (fun h1 => ?_) (fun h1 => ?_)
  · have h1 : i < a.length := by have := of_decide_eq_true h1; omega
    rw [rd_i, rd_i, wrap_i64 (by omega) (by omega)]
    refine ⟨by omega, by omega, by omega, by omega, Br_of (fun h2 => ?_) (fun h2 => ?_)⟩
    · have h2 : a.getD i 0 ≠ b.getD i 0 := by simpa using h2
      rw [decide_eq_false (fun e => h2 (by rw [e]))]
    · have h2 : a.getD i 0 = b.getD i 0 := by simpa using h2
      refine hG _ ⟨i + 1, rfl, by omega, ?_⟩ (by simp only; omega)
      have hb : i < b.length := by omega
      rw [List.getD_eq_getElem?_getD, List.getD_eq_getElem?_getD, List.getElem?_eq_getElem h1, List.getElem?_eq_getElem hb] at h2
      have h2 : a[i] = b[i] := h2
      rw [List.take_succ_eq_append_getElem h1, List.take_succ_eq_append_getElem hb, hf, h2]
  · have h1 : i = a.length := by have := of_decide_eq_false h1; omega
    subst h1
    rw [List.take_length, h, List.take_length] at hf
    rw [decide_eq_true hf]
/-! ### Products -/
section
variable {q : Int} (hq : isQ q) {a b : List Int}
include hq
theorem pst_ok {out : List Int} {i k : Nat} (ho : ∀ x ∈ out, Pl.inQ q x) : (Pl.pst q a b out i k).length = out.length ∧ ∀ x ∈ Pl.pst q a b out i k, Pl.inQ q x := by
  unfold Pl.pst
  refine ⟨List.length_set, fun x hx => ?_⟩
  rcases List.mem_or_eq_of_mem_set hx with h | rfl
  · exact ho x h
  · exact add_inQ hq _ _
theorem prow_ok (i : Nat) : ∀ (k : Nat) {out : List Int}, (∀ x ∈ out, Pl.inQ q x) → (Pl.prow q a b i k out).length = out.length ∧ ∀ x ∈ Pl.prow q a b i k out, Pl.inQ q x
  | 0, _, h => ⟨rfl, h⟩
  | k + 1, out, h => by
    obtain ⟨h1, h2⟩ := prow_ok i k h
    obtain ⟨h3, h4⟩ := pst_ok hq (a := a) (b := b) (i := i) (k := k) h2
    exact ⟨h3.trans h1, h4⟩
theorem prws_ok : ∀ i : Nat, (Pl.prws q a b i).length = a.length + b.length - 1 ∧ ∀ x ∈ Pl.prws q a b i, Pl.inQ q x
  | 0 => ⟨List.length_replicate, fun x hx => by rw [List.eq_of_mem_replicate hx]; exact zero_inQ hq⟩
  | i + 1 => by
    obtain ⟨h1, h2⟩ := prws_ok i
    obtain ⟨h3, h4⟩ := prow_ok hq (a := a) (b := b) i b.length h2
    exact ⟨h3.trans h1, h4⟩
theorem prod_ok : (Pl.prod q a b).length ≤ a.length + b.length ∧ ∀ x ∈ Pl.prod q a b, Pl.inQ q x := by
  unfold Pl.prod
  cases h : decide (a.length = 0) || decide (b.length = 0) with
  | true => exact ⟨Nat.zero_le _, fun x hx => by cases hx⟩
  | false =>
    obtain ⟨h1, h2⟩ := prws_ok hq (a := a) (b := b) a.length
    exact ⟨by rw [cond_false, h1]; omega, h2⟩
end
theorem vc107 : ∀ x, C107.pre x → VC T107 H107 Try.f107 C107 x := by
  rintro ⟨v, (a : List Int), (b : List Int), ⟨⟩⟩ ⟨⟨q, hq, (rfl : v = _)⟩, (hab : Pl.okPr (Pl.qF (fieldD q)) a b)⟩
  rw [qF_d] at hab
  obtain ⟨ha, hb, la, lb⟩ := hab
  refine cast (α := Br ((↑a.length : Int) == (0 : Int)) (([], ()) = C107.post (fieldD q, a, b, ())) (Br ((↑b.length : Int) == (0 : Int)) (([], ()) = C107.post (fieldD q, a, b, ())) ((0 : Int) ≤ IntKind.i64.wrap (IntKind.i64.wrap ((↑a.length : Int) + (↑b.length : Int)) - (1 : Int)) ∧ IntKind.i64.wrap (IntKind.i64.wrap ((↑a.length : Int) + (↑b.length : Int)) - (1 : Int)) = IntKind.i64.wrap (IntKind.i64.wrap ((↑a.length : Int) + (↑b.length : Int)) - (1 : Int)) ∧ IntKind.i64.wrap (IntKind.i64.wrap ((↑a.length : Int) + (↑b.length : Int)) - (1 : Int)) * (8 : Int) ≤ (140737488355328 : Int) ∧ ∃ (n : Nat), itl (fun (G : List Int × Int × PUnit → Prop) (x : List Int × Int × PUnit) => Br (decide (x.snd.fst < (↑a.length : Int))) ((0 : Int) ≤ x.snd.fst ∧ x.snd.fst < (↑a.length : Int) ∧ ∃ (n : Nat), itl (fun (G_1 : List Int × Int × PUnit → Prop) (x_1 : List Int × Int × PUnit) => Br (decide (x_1.snd.fst < (↑b.length : Int))) ((0 : Int) ≤ x_1.snd.fst ∧ x_1.snd.fst < (↑b.length : Int) ∧ (0 : Int) ≤ IntKind.i64.wrap (x.snd.fst + x_1.snd.fst) ∧ IntKind.i64.wrap (x.snd.fst + x_1.snd.fst) < (↑(List.length x_1.fst) : Int) ∧ (0 : Int) ≤ IntKind.i64.wrap (x.snd.fst + x_1.snd.fst) ∧ IntKind.i64.wrap (x.snd.fst + x_1.snd.fst) < (↑(List.length x_1.fst) : Int) ∧ (Pl.okM (arD q) ∧ Pl.inQ (Pl.qA (arD q)) (rd i64 a x.snd.fst) ∧ Pl.inQ (Pl.qA (arD q)) (rd i64 b x_1.snd.fst)) ∧ (Pl.okA (arD q) ∧ Pl.inQ (Pl.qA (arD q)) (rd i64 x_1.fst (IntKind.i64.wrap (x.snd.fst + x_1.snd.fst))) ∧ Pl.inQ (Pl.qA (arD q)) (Pl.mul (Pl.qA (arD q)) (rd i64 a x.snd.fst) (rd i64 b x_1.snd.fst))) ∧ (0 : Int) ≤ IntKind.i64.wrap (x.snd.fst + x_1.snd.fst) ∧ IntKind.i64.wrap (x.snd.fst + x_1.snd.fst) < (↑(List.length x_1.fst) : Int) ∧ (0 : Int) ≤ IntKind.i64.wrap (x.snd.fst + x_1.snd.fst) ∧ IntKind.i64.wrap (x.snd.fst + x_1.snd.fst) < (↑(List.length x_1.fst) : Int) ∧ G_1 (List.set x_1.fst (IntKind.i64.wrap (x.snd.fst + x_1.snd.fst)).toNat (Pl.add (Pl.qA (arD q)) (rd i64 x_1.fst (IntKind.i64.wrap (x.snd.fst + x_1.snd.fst))) (Pl.mul (Pl.qA (arD q)) (rd i64 a x.snd.fst) (rd i64 b x_1.snd.fst))), IntKind.i64.wrap (x_1.snd.fst + (1 : Int)), ())) (G (x_1.1, IntKind.i64.wrap (x.snd.fst + (1 : Int)), ()))) n (x.1, (0 : Int), ())) (x.1.length ≤ (1000000000 : Nat) ∧ (Pl.trim x.1, ()) = C107.post (fieldD q, a, b, ()))) n (List.replicate (IntKind.i64.wrap (IntKind.i64.wrap ((↑a.length : Int) + (↑b.length : Int)) - (1 : Int))).toNat (0 : Int), (0 : Int), ())))) (by kernel_rfl) ?_
  rw [qA_ar hq]
  have hp : C107.post (fieldD q, a, b, ()) = (Pl.trim (Pl.prod q a b), ()) := rfl
  rw [hp]
  refine Br_of (fun h => ?_) (fun h => Br_of (fun h1 => ?_) (fun h1 => ?_))
  · have h : a.length = 0 := by have := eq_of_beq h; omega
    unfold Pl.prod; rw [decide_eq_true h]; rfl
  · have h1 : b.length = 0 := by have := eq_of_beq h1; omega
    unfold Pl.prod; rw [decide_eq_true h1, Bool.or_true]; rfl
  have h : a.length ≠ 0 := fun e => by rw [e] at h; cases h
  have h1 : b.length ≠ 0 := fun e => by rw [e] at h1; cases h1
  have hprod : Pl.prod q a b = Pl.prws q a b a.length := by unfold Pl.prod; rw [decide_eq_false h, decide_eq_false h1]; rfl
  rw [hprod, wrap_i64 (x := (a.length : Int) + b.length) (by omega) (by omega), wrap_i64 (x := (a.length : Int) + b.length - 1) (by omega) (by omega)]
  refine ⟨by omega, rfl, by omega, itl_rule (fun s => ∃ i : Nat, s.2.1 = (i : Int) ∧ i ≤ a.length ∧ s.1 = Pl.prws q a b i) (fun s => ((a.length : Int) - s.2.1).toNat) ⟨0, rfl, Nat.zero_le _, by show List.replicate _ _ = List.replicate _ _; congr 1; omega⟩ ?_⟩
  rintro ⟨out, i0, ⟨⟩⟩ G ⟨i, e, hi, ho⟩ hG
  simp only at e ho hG ⊢
  subst e ho
  refine Br_of (fun h2 => ?_) (fun h2 => ?_)
  · have h2 : i < a.length := by have := of_decide_eq_true h2; omega
    obtain ⟨r1, r2⟩ := prws_ok hq (a := a) (b := b) i
    refine ⟨by omega, by omega, itl_rule (fun s => ∃ k : Nat, s.2.1 = (k : Int) ∧ k ≤ b.length ∧ s.1 = Pl.prow q a b i k (Pl.prws q a b i)) (fun s => ((b.length : Int) - s.2.1).toNat) ⟨0, rfl, Nat.zero_le _, rfl⟩ ?_⟩
    rintro ⟨out, k0, ⟨⟩⟩ G1 ⟨k, e, hk, ho⟩ hG1
    simp only at e ho hG1 ⊢
    subst e ho
    refine Br_of (fun h3 => ?_) (fun h3 => ?_)
    · have h3 : k < b.length := by have := of_decide_eq_true h3; omega
      obtain ⟨s1, s2⟩ := prow_ok hq (a := a) (b := b) i k r2
      rw [wrap_i64 (x := (i : Int) + k) (by omega) (by omega), wrap_i64 (x := (k : Int) + 1) (by omega) (by omega), show (i : Int) + k = ((i + k : Nat) : Int) from rfl, rd_i, rd_i, rd_i, s1, r1, Int.toNat_natCast]
      have hin := getD_inQ s2 (j := i + k) (by rw [s1, r1]; omega)
      exact ⟨by omega, by omega, by omega, by omega, by omega, by omega, ⟨okM_ar hq, getD_inQ ha h2, getD_inQ hb h3⟩, ⟨okA_ar hq, hin, mul_inQ hq _ _⟩, by omega, by omega, by omega, by omega, hG1 _ ⟨k + 1, rfl, by omega, rfl⟩ (by simp only; omega)⟩
    · have h3 : k = b.length := by have := of_decide_eq_false h3; omega
      subst h3
      rw [wrap_i64 (x := (i : Int) + 1) (by omega) (by omega)]
      exact hG _ ⟨i + 1, rfl, by omega, rfl⟩ (by simp only; omega)
  · have h2 : i = a.length := by have := of_decide_eq_false h2; omega
    subst h2
    have := (prws_ok hq (a := a) (b := b) a.length).1
    exact ⟨by omega, rfl⟩
theorem vc69 : ∀ x, C69.pre x → VC T69 H69 Try.f69 C69 x := by
  rintro ⟨⟨(q : Int), (p : Int), (k : Int), (m : Int), ⟨⟩⟩, (a : List Int), (b : List Int), ⟨⟩⟩ ⟨(h0 : Pl.okr _), (hab : Pl.okPr q a b)⟩
  obtain ⟨hq, _, _, _⟩ := okr_open h0
  obtain ⟨ha, hb, la, lb⟩ := hab
  refine cast (α := Br ((↑a.length : Int) == (0 : Int)) (([], ()) = C69.post ((q, p, k, m, ()), a, b, ())) (Br ((↑b.length : Int) == (0 : Int)) (([], ()) = C69.post ((q, p, k, m, ()), a, b, ())) ((0 : Int) ≤ IntKind.i64.wrap (IntKind.i64.wrap ((↑a.length : Int) + (↑b.length : Int)) - (1 : Int)) ∧ IntKind.i64.wrap (IntKind.i64.wrap ((↑a.length : Int) + (↑b.length : Int)) - (1 : Int)) = IntKind.i64.wrap (IntKind.i64.wrap ((↑a.length : Int) + (↑b.length : Int)) - (1 : Int)) ∧ IntKind.i64.wrap (IntKind.i64.wrap ((↑a.length : Int) + (↑b.length : Int)) - (1 : Int)) * (8 : Int) ≤ (140737488355328 : Int) ∧ ∃ (n : Nat), itl (fun (G : List Int × Int × PUnit → Prop) (x : List Int × Int × PUnit) => Br (decide (x.snd.fst < (↑a.length : Int))) (∃ (n : Nat), itl (fun (G_1 : List Int × Int × PUnit → Prop) (x_1 : List Int × Int × PUnit) => Br (decide (x_1.snd.fst < (↑b.length : Int))) ((0 : Int) ≤ IntKind.i64.wrap (x.snd.fst + x_1.snd.fst) ∧ IntKind.i64.wrap (x.snd.fst + x_1.snd.fst) < (↑(List.length x_1.fst) : Int) ∧ (0 : Int) ≤ IntKind.i64.wrap (x.snd.fst + x_1.snd.fst) ∧ IntKind.i64.wrap (x.snd.fst + x_1.snd.fst) < (↑(List.length x_1.fst) : Int) ∧ (0 : Int) ≤ x.snd.fst ∧ x.snd.fst < (↑a.length : Int) ∧ (0 : Int) ≤ x_1.snd.fst ∧ x_1.snd.fst < (↑b.length : Int) ∧ (Pl.okr (q, p, k, m, ()) ∧ Pl.inQ q (rd i64 a x.snd.fst) ∧ Pl.inQ q (rd i64 b x_1.snd.fst)) ∧ (Pl.okr (q, p, k, m, ()) ∧ Pl.inQ q (rd i64 x_1.fst (IntKind.i64.wrap (x.snd.fst + x_1.snd.fst))) ∧ Pl.inQ q (Pl.mul q (rd i64 a x.snd.fst) (rd i64 b x_1.snd.fst))) ∧ (0 : Int) ≤ IntKind.i64.wrap (x.snd.fst + x_1.snd.fst) ∧ IntKind.i64.wrap (x.snd.fst + x_1.snd.fst) < (↑(List.length x_1.fst) : Int) ∧ (0 : Int) ≤ IntKind.i64.wrap (x.snd.fst + x_1.snd.fst) ∧ IntKind.i64.wrap (x.snd.fst + x_1.snd.fst) < (↑(List.length x_1.fst) : Int) ∧ G_1 (List.set x_1.fst (IntKind.i64.wrap (x.snd.fst + x_1.snd.fst)).toNat (Pl.add q (rd i64 x_1.fst (IntKind.i64.wrap (x.snd.fst + x_1.snd.fst))) (Pl.mul q (rd i64 a x.snd.fst) (rd i64 b x_1.snd.fst))), IntKind.i64.wrap (x_1.snd.fst + (1 : Int)), ())) (G (x_1.1, IntKind.i64.wrap (x.snd.fst + (1 : Int)), ()))) n (x.1, (0 : Int), ())) ((x.1, ()) = C69.post ((q, p, k, m, ()), a, b, ()))) n (List.replicate (IntKind.i64.wrap (IntKind.i64.wrap ((↑a.length : Int) + (↑b.length : Int)) - (1 : Int))).toNat (0 : Int), (0 : Int), ())))) (by kernel_rfl) ?_
  have hp : C69.post ((q, p, k, m, ()), a, b, ()) = (Pl.prod q a b, ()) := rfl
  rw [hp]
  refine Br_of (fun h => ?_) (fun h => Br_of (fun h1 => ?_) (fun h1 => ?_))
  · have h : a.length = 0 := by have := eq_of_beq h; omega
    unfold Pl.prod; rw [decide_eq_true h]; rfl
  · have h1 : b.length = 0 := by have := eq_of_beq h1; omega
    unfold Pl.prod; rw [decide_eq_true h1, Bool.or_true]; rfl
  have h : a.length ≠ 0 := fun e => by rw [e] at h; cases h
  have h1 : b.length ≠ 0 := fun e => by rw [e] at h1; cases h1
  have hprod : Pl.prod q a b = Pl.prws q a b a.length := by unfold Pl.prod; rw [decide_eq_false h, decide_eq_false h1]; rfl
  rw [hprod, wrap_i64 (x := (a.length : Int) + b.length) (by omega) (by omega), wrap_i64 (x := (a.length : Int) + b.length - 1) (by omega) (by omega)]
  refine ⟨by omega, rfl, by omega, itl_rule (fun s => ∃ i : Nat, s.2.1 = (i : Int) ∧ i ≤ a.length ∧ s.1 = Pl.prws q a b i) (fun s => ((a.length : Int) - s.2.1).toNat) ⟨0, rfl, Nat.zero_le _, by show List.replicate _ _ = List.replicate _ _; congr 1; omega⟩ ?_⟩
  rintro ⟨out, i0, ⟨⟩⟩ G ⟨i, e, hi, ho⟩ hG
  simp only at e ho hG ⊢
  subst e ho
  refine Br_of (fun h2 => ?_) (fun h2 => ?_)
  · have h2 : i < a.length := by have := of_decide_eq_true h2; omega
    obtain ⟨r1, r2⟩ := prws_ok hq (a := a) (b := b) i
    refine itl_rule (fun s => ∃ k : Nat, s.2.1 = (k : Int) ∧ k ≤ b.length ∧ s.1 = Pl.prow q a b i k (Pl.prws q a b i)) (fun s => ((b.length : Int) - s.2.1).toNat) ⟨0, rfl, Nat.zero_le _, rfl⟩ ?_
    rintro ⟨out, k0, ⟨⟩⟩ G1 ⟨k, e, hk, ho⟩ hG1
    simp only at e ho hG1 ⊢
    subst e ho
    refine Br_of (fun h3 => ?_) (fun h3 => ?_)
    · have h3 : k < b.length := by have := of_decide_eq_true h3; omega
      obtain ⟨s1, s2⟩ := prow_ok hq (a := a) (b := b) i k r2
      rw [wrap_i64 (x := (i : Int) + k) (by omega) (by omega), wrap_i64 (x := (k : Int) + 1) (by omega) (by omega), show (i : Int) + k = ((i + k : Nat) : Int) from rfl, rd_i, rd_i, rd_i, s1, r1, Int.toNat_natCast]
      have hin := getD_inQ s2 (j := i + k) (by rw [s1, r1]; omega)
      exact ⟨by omega, by omega, by omega, by omega, by omega, by omega, by omega, by omega, ⟨h0, getD_inQ ha h2, getD_inQ hb h3⟩, ⟨h0, hin, mul_inQ hq _ _⟩, by omega, by omega, by omega, by omega, hG1 _ ⟨k + 1, rfl, by omega, rfl⟩ (by simp only; omega)⟩
    · have h3 : k = b.length := by have := of_decide_eq_false h3; omega
      subst h3
      rw [wrap_i64 (x := (i : Int) + 1) (by omega) (by omega)]
      exact hG _ ⟨i + 1, rfl, by omega, rfl⟩ (by simp only; omega)
  · have h2 : i = a.length := by have := of_decide_eq_false h2; omega
    subst h2
    rfl
end Fd
end
section
/- Minimal polynomials; FieldTraces. -/
set_option linter.unusedVariables false
set_option linter.unusedSimpArgs false
set_option linter.unusedSectionVars false
set_option maxRecDepth 100000
namespace Fd
open Go Fw Go.Proofs

section
variable {q : Int} (hq : isQ q)
include hq
/-! ### A product with a monic polynomial of degree one is monic -/
theorem getD_set (l : List Int) (i j : Nat) (x : Int) : (l.set i x).getD j 0 = if i = j ∧ i < l.length then x else l.getD j 0 := by
  rw [List.getD_eq_getElem?_getD, List.getElem?_set]
  by_cases e : i = j
  · subst e
    by_cases h : i < l.length
    · rw [if_pos rfl, if_pos h, if_pos ⟨rfl, h⟩]; rfl
    · rw [if_pos rfl, if_neg h, if_neg (fun hh => h hh.2), List.getD_eq_getElem?_getD, List.getElem?_eq_none (by omega)]
  · rw [if_neg e, if_neg (fun hh => e hh.1), List.getD_eq_getElem?_getD]
theorem prow_far {a b : List Int} (i : Nat) : ∀ (k : Nat) (out : List Int) (j : Nat), i + k ≤ j → (Pl.prow q a b i k out).getD j 0 = out.getD j 0
  | 0, _, _, _ => rfl
  | k + 1, out, j, h => by
    rw [Pl.prow, Pl.pst, getD_set hq, if_neg (by omega), prow_far i k out j (by omega)]
theorem prws_far {a b : List Int} (hb : 0 < b.length) : ∀ (i j : Nat), i + b.length - 1 ≤ j → (Pl.prws q a b i).getD j 0 = 0
  | 0, j, _ => by
    rw [Pl.prws, List.getD_eq_getElem?_getD, List.getElem?_replicate]
    split <;> rfl
  | i + 1, j, h => by rw [Pl.prws, prow_far hq i b.length _ j (by omega), prws_far hb i j (by omega)]
def Pl.mon (q : Int) (l : List Int) : Prop := 0 < l.length ∧ l.getD (l.length - 1) 0 = 1 ∧ ∀ x ∈ l, Pl.inQ q x
theorem prod_mon {a : List Int} {c : Int} (ha : Pl.mon q a) : Pl.mon q (Pl.prod q a [c, 1]) ∧ (Pl.prod q a [c, 1]).length = a.length + 1 := by
  obtain ⟨h1, h2, h3⟩ := ha
  have ok := fld_ok hq
  have hp : Pl.prod q a [c, 1] = Pl.prws q a [c, 1] a.length := by unfold Pl.prod; rw [decide_eq_false (show a.length ≠ 0 by omega)]; rfl
  obtain ⟨l1, l2⟩ := prws_ok hq (a := a) (b := [c, 1]) a.length
  have l1 : (Pl.prws q a [c, 1] a.length).length = a.length + 1 := l1
  rw [hp]
  refine ⟨⟨by omega, ?_, l2⟩, l1⟩
  rw [l1, Nat.add_sub_cancel]
  obtain ⟨n, hn⟩ : ∃ n, a.length = n + 1 := ⟨a.length - 1, by omega⟩
  rw [hn] at h2 l1 ⊢
  rw [Nat.add_sub_cancel] at h2
  obtain ⟨r1, r2⟩ := prws_ok hq (a := a) (b := [c, 1]) n
  obtain ⟨s1, s2⟩ := prow_ok hq (a := a) (b := [c, 1]) n 1 r2
  show (Pl.pst q a [c, 1] (Pl.prow q a [c, 1] n 1 (Pl.prws q a [c, 1] n)) n 1).getD (n + 1) 0 = 1
  rw [Pl.pst, getD_set hq, if_pos ⟨rfl, by rw [s1, r1, hn]; show n + 1 < n + 1 + 2 - 1; omega⟩, prow_far hq n 1 _ (n + 1) (by omega), prws_far hq (by show 0 < 2; omega) n (n + 1) (by show n + 2 - 1 ≤ n + 1; omega), h2]
  show (fld q).add 0 ((fld q).mul 1 1) = 1
  rw [Fm.Fld.one_mul ok (Fm.Fld.in1 ok), Fm.Fld.zero_add ok (Fm.Fld.in1 ok)]
theorem trim_mon {l : List Int} (h : Pl.mon q l) : Pl.trim l = l := by
  obtain ⟨h1, h2, _⟩ := h
  unfold Pl.trim
  obtain ⟨n, hn⟩ : ∃ n, l.length = n + 1 := ⟨l.length - 1, by omega⟩
  rw [hn, Nat.add_sub_cancel] at h2
  rw [hn, Pl.trimN, h2, decide_eq_false (show ¬ (1 : Int) = 0 by omega), cond_false, ← hn, List.take_length]
theorem sub_zero_neg (x : Int) : Pl.sub q 0 x = Pl.neg q x := by
  have ok := fld_ok hq
  show (fld q).sub 0 x = (fld q).neg x
  rw [Fm.Fld.sub_eq ok, Fm.Fld.zero_add ok (Fm.Fld.neg_in ok x)]
theorem mon_one : Pl.mon q [1] := ⟨by show 0 < 1; omega, rfl, fun x hx => by rw [List.mem_singleton.1 hx]; exact one_inQ hq⟩
/-! ### Conjugates -/
theorem conj_get : ∀ (n i : Nat) (a : Int), i < n → (Pl.conj q n a).getD i 0 = (fld q).pow a ((Pl.lpf q).toNat ^ i) ∨ ¬ Pl.inQ q a
  | 0, i, a, h => by omega
  | n + 1, 0, a, _ => by
    by_cases ha : Pl.inQ q a
    · left
      show a = (fld q).pow a 1
      rw [Fm.Fld.pow_one (fld_ok hq) ((in_iff hq a).2 ha)]
    · exact .inr ha
  | n + 1, i + 1, a, h => by
    by_cases ha : Pl.inQ q a
    · left
      rcases conj_get n i (Pl.pow q a (Pl.lpf q)) (by omega) with h1 | h1
      · show (Pl.conj q n (Pl.pow q a (Pl.lpf q))).getD i 0 = _
        rw [h1]
        show (fld q).pow ((fld q).pow a (Pl.lpf q).toNat) _ = _
        rw [← Fm.Fld.pow_mul (fld_ok hq), Nat.pow_succ, Nat.mul_comm]
      · exact absurd (pow_inQ hq a _) h1
    · exact .inr ha
theorem cjs_get {a : Int} (ha : Pl.inQ q a) {i : Nat} (h : i < (Pl.cjs q a).length) : (Pl.cjs q a).getD i 0 = (fld q).pow a ((Pl.lpf q).toNat ^ i) := by
  rcases conj_get hq (Pl.K q).toNat i a (by unfold Pl.cjs at h; rwa [conj_len] at h) with h1 | h1
  · exact h1
  · exact absurd ha h1
theorem pow_qq {x : Int} (hx : Pl.inQ q x) : (fld q).pow x q.toNat = x := by
  have ok := fld_ok hq
  have q2 := hq.1
  by_cases h0 : x = 0
  · subst h0; exact Fm.Fld.zero_pow ok (by omega)
  · rw [show q.toNat = (q.toNat - 1) + 1 by omega, Fm.Fld.pow, fermat hq hx.1 hx.2 h0, Fm.Fld.one_mul ok ((in_iff hq x).2 hx)]
/-- The p-th power is one to one. -/
theorem frob_inj {x y : Int} (hx : Pl.inQ q x) (hy : Pl.inQ q y) {j : Nat} (hj : j ≤ (Pl.K q).toNat) (h : (fld q).pow x ((Pl.lpf q).toNat ^ j) = (fld q).pow y ((Pl.lpf q).toNat ^ j)) : x = y := by
  have ok := fld_ok hq
  have hQ : q.toNat = (Pl.lpf q).toNat ^ j * (Pl.lpf q).toNat ^ ((Pl.K q).toNat - j) := by
    rw [← Nat.pow_add, show j + ((Pl.K q).toNat - j) = (Pl.K q).toNat by omega]
    have := isQ.natpow hq
    omega
  have e : (fld q).pow ((fld q).pow x ((Pl.lpf q).toNat ^ j)) ((Pl.lpf q).toNat ^ ((Pl.K q).toNat - j)) = (fld q).pow ((fld q).pow y ((Pl.lpf q).toNat ^ j)) ((Pl.lpf q).toNat ^ ((Pl.K q).toNat - j)) := by rw [h]
  rw [← Fm.Fld.pow_mul ok, ← Fm.Fld.pow_mul ok, ← hQ, pow_qq hq hx, pow_qq hq hy] at e
  exact e
theorem cjs_back {a : Int} (ha : Pl.inQ q a) {i j : Nat} (hi : i < (Pl.cjs q a).length) (hji : j ≤ i) (h : (Pl.cjs q a).getD j 0 = (Pl.cjs q a).getD i 0) : (Pl.cjs q a).getD (i - j) 0 = a := by
  have ok := fld_ok hq
  have hl : (Pl.cjs q a).length = (Pl.K q).toNat := by unfold Pl.cjs; rw [conj_len]
  rw [cjs_get hq ha (by omega), cjs_get hq ha hi] at h
  rw [cjs_get hq ha (by omega)]
  refine frob_inj hq ((in_iff hq _).1 (Fm.Fld.pow_in ok _ _)) ha (j := j) (by omega) ?_
  rw [h, ← Fm.Fld.pow_mul ok, ← Nat.pow_add, show i - j + j = i by omega]
/-- A conjugate that was there before: the first one, again. -/
theorem again_iff {a : Int} (ha : Pl.inQ q a) {i : Nat} (hi : i < (Pl.cjs q a).length) (hn : ∀ j, 1 ≤ j → j < i → (Pl.cjs q a).getD j 0 ≠ a) :
    (((Pl.cjs q a).take i).any fun c => decide ((Pl.cjs q a).getD i 0 = c)) = !(decide (i = 0) || decide ((Pl.cjs q a).getD i 0 ≠ a)) := by
  have hl : (Pl.cjs q a).length = (Pl.K q).toNat := by unfold Pl.cjs; rw [conj_len]
  have h0 : (Pl.cjs q a).getD 0 0 = a := by
    rw [cjs_get hq ha (by omega)]
    show (fld q).pow a 1 = a
    rw [Fm.Fld.pow_one (fld_ok hq) ((in_iff hq a).2 ha)]
  by_cases hi0 : i = 0
  · subst hi0; rfl
  rw [decide_eq_false hi0, Bool.false_or]
  by_cases e : (Pl.cjs q a).getD i 0 = a
  · rw [decide_eq_false (not_not_intro e)]
    refine List.any_eq_true.2 ⟨a, ?_, decide_eq_true e⟩
    have : ((Pl.cjs q a).take i).getD 0 0 = a := by
      rw [List.getD_eq_getElem?_getD, List.getElem?_take, if_pos (by omega), ← List.getD_eq_getElem?_getD, h0]
    have hmem := getD_mem (l := (Pl.cjs q a).take i) (i := 0) (by rw [List.length_take]; omega)
    rw [this] at hmem
    exact hmem
  · rw [decide_eq_true e]
    refine List.any_eq_false.2 fun c hc => ?_
    intro hd
    have hd := of_decide_eq_true hd
    obtain ⟨j, hj, rfl⟩ := List.mem_iff_getElem.1 hc
    rw [List.length_take] at hj
    have hj' : j < i := by omega
    have hg : (Pl.cjs q a).getD j 0 = (Pl.cjs q a).getD i 0 := by
      rw [hd, List.getElem_take, List.getD_eq_getElem?_getD, List.getElem?_eq_getElem (by omega)]; rfl
    by_cases hj0 : j = 0
    · subst hj0; rw [h0] at hg; exact e hg.symm
    · exact hn (i - j) (by omega) (by omega) (cjs_back hq ha hi (by omega) hg)
end
theorem vc59 : ∀ x, C59.pre x → VC T59 H59 Try.f59 C59 x := by
  rintro ⟨v, (a : Int), ⟨⟩⟩ ⟨q, hq, (rfl : v = _)⟩
  refine cast (α := Pl.okF (D.rptr (fieldC q)) ∧ (Pl.okF (D.rptr (fieldC q)) ∧ Pl.inQ (Pl.qF (D.rptr (fieldC q))) (a % Pl.qF (D.rptr (fieldC q)))) ∧ ∃ (n : Nat), itl (fun (G : List Int × Int × PUnit → Prop) (x : List Int × Int × PUnit) => Br (decide (x.snd.fst < (↑(Pl.cjs (Pl.qF (D.rptr (fieldC q))) (a % Pl.qF (D.rptr (fieldC q)))).length : Int))) ((0 : Int) ≤ x.snd.fst ∧ x.snd.fst < (↑(Pl.cjs (Pl.qF (D.rptr (fieldC q))) (a % Pl.qF (D.rptr (fieldC q)))).length : Int) ∧ (0 : Int) ≤ x.snd.fst ∧ x.snd.fst ≤ (↑(Pl.cjs (Pl.qF (D.rptr (fieldC q))) (a % Pl.qF (D.rptr (fieldC q)))).length : Int) ∧ (sub (Pl.cjs (Pl.qF (D.rptr (fieldC q))) (a % Pl.qF (D.rptr (fieldC q)))) (0 : Int) x.snd.fst).length ≤ (1000000000 : Nat) ∧ Br ((sub (Pl.cjs (Pl.qF (D.rptr (fieldC q))) (a % Pl.qF (D.rptr (fieldC q)))) (0 : Int) x.snd.fst).any fun (c : Int) => decide (rd i64 (Pl.cjs (Pl.qF (D.rptr (fieldC q))) (a % Pl.qF (D.rptr (fieldC q)))) x.snd.fst = c)) ((x.1, ()) = C59.post (fieldD q, a, ())) ((Pl.okA (arD q) ∧ Pl.inQ (Pl.qA (arD q)) (0 : Int) ∧ Pl.inQ (Pl.qA (arD q)) (rd i64 (Pl.cjs (Pl.qF (D.rptr (fieldC q))) (a % Pl.qF (D.rptr (fieldC q)))) x.snd.fst)) ∧ (Pl.okF (D.rptr (fieldC q)) ∧ Pl.okPr (Pl.qF (D.rptr (fieldC q))) x.1 [Pl.sub (Pl.qA (arD q)) (0 : Int) (rd i64 (Pl.cjs (Pl.qF (D.rptr (fieldC q))) (a % Pl.qF (D.rptr (fieldC q)))) x.snd.fst), (1 : Int)]) ∧ G (Pl.trim (Pl.prod (Pl.qF (D.rptr (fieldC q))) x.1 [Pl.sub (Pl.qA (arD q)) (0 : Int) (rd i64 (Pl.cjs (Pl.qF (D.rptr (fieldC q))) (a % Pl.qF (D.rptr (fieldC q)))) x.snd.fst), (1 : Int)]), IntKind.i64.wrap (x.snd.fst + (1 : Int)), ()))) ((x.1, ()) = C59.post (fieldD q, a, ()))) n ([(1 : Int)], (0 : Int), ())) (by kernel_rfl) ?_
  rw [qF_f, qA_ar hq]
  have hp : C59.post (fieldD q, a, ()) = (Pl.minP q (a % q), ()) := rfl
  rw [hp]
  have hy := emod_inQ hq a
  generalize a % q = y at *
  have hl17 := cjs_len hq y
  have hin := cjs_in hq hy
  have hback := fun (i : Nat) (hi : i < (Pl.cjs q y).length) hn => again_iff hq hy hi hn
  have hmin : Pl.minP q y = Pl.minL q (Pl.cjs q y) y (Pl.cjs q y).length 0 [1] := rfl
  rw [hmin]
  generalize Pl.cjs q y = l at *
  have hsub : ∀ n : Nat, sub l (0 : Int) (n : Int) = l.take n := fun n => by unfold sub; simp
  refine ⟨okF_f hq, ⟨okF_f hq, hy⟩, itl_rule (fun s => ∃ i : Nat, s.2.1 = (i : Int) ∧ i ≤ l.length ∧ Pl.mon q s.1 ∧ s.1.length = i + 1 ∧ (∀ j, 1 ≤ j → j < i → l.getD j 0 ≠ y) ∧ Pl.minL q l y (l.length - i) i s.1 = Pl.minL q l y l.length 0 [1]) (fun s => ((l.length : Int) - s.2.1).toNat)
    ⟨0, rfl, Nat.zero_le _, mon_one hq, rfl, fun j h1 h2 => by omega, rfl⟩ ?_⟩
  rintro ⟨out, i0, ⟨⟩⟩ G ⟨i, e, hi, hm, hlen, hn, hf⟩ hG
  simp only at e hm hlen hf hG ⊢
  subst e
  refine Br_of (fun h => ?_) (fun h => ?_)
  · have h : i < l.length := by have := of_decide_eq_true h; omega
    rw [hsub, rd_i, hback i h hn, wrap_i64 (by omega) (by omega), sub_zero_neg hq]
    rw [show l.length - i = (l.length - (i + 1)) + 1 by omega, Pl.minL, decide_eq_true h, Bool.true_and] at hf
    refine ⟨by omega, by omega, by omega, by omega, by rw [List.length_take]; omega, Br_of (fun h1 => ?_) (fun h1 => ?_)⟩
    · have h1 : (decide (i = 0) || decide (l.getD i 0 ≠ y)) = false := by simpa using h1
      rw [h1, cond_false] at hf
      rw [← hf]
    · have h1 : (decide (i = 0) || decide (l.getD i 0 ≠ y)) = true := by
        cases hb : decide (i = 0) || decide (l.getD i 0 ≠ y) with
        | true => rfl
        | false => rw [hb] at h1; cases h1
      rw [h1, cond_true] at hf
      obtain ⟨m1, m2⟩ := prod_mon hq (c := Pl.neg q (l.getD i 0)) hm
      rw [trim_mon hq m1]
      refine ⟨⟨okA_ar hq, zero_inQ hq, getD_inQ hin h⟩, ⟨okF_f hq, hm.2.2, ?_, by omega, by show 2 ≤ 1000000; omega⟩, hG _ ⟨i + 1, rfl, by omega, m1, by rw [m2, hlen], fun j j1 j2 => ?_, hf⟩ (by simp only; omega)⟩
      · intro x hx
        simp at hx
        rcases hx with rfl | rfl
        · exact neg_inQ hq _
        · exact one_inQ hq
      · by_cases ej : j = i
        · subst ej
          rw [decide_eq_false (show j ≠ 0 by omega), Bool.false_or] at h1
          exact of_decide_eq_true h1
        · exact hn j j1 (by omega)
  · have h : i = l.length := by have := of_decide_eq_false h; omega
    subst h
    rw [Nat.sub_self, Pl.minL] at hf
    rw [← hf]
theorem vc60 : ∀ x, C60.pre x → VC T60 H60 Try.f60 C60 x := by
  rintro ⟨⟨(q : Int), (p : Int), (k : Int), (m : Int), ⟨⟩⟩, (a : Int), ⟨⟩⟩ ⟨(h0 : Pl.okr _), (ha : Pl.inQ q a)⟩
  obtain ⟨hq, _, _, _⟩ := okr_open h0
  refine cast (α := Pl.okA1 ((q, p, k, m, ()), a, ()) ∧ ∃ (n : Nat), itl (fun (G : List Int × Int × PUnit → Prop) (x : List Int × Int × PUnit) => Br (decide (x.snd.fst < (↑(Pl.cjs q a).length : Int))) (Br (x.snd.fst == (0 : Int)) ((0 : Int) ≤ x.snd.fst ∧ x.snd.fst < (↑(Pl.cjs q a).length : Int) ∧ (Pl.okr (q, p, k, m, ()) ∧ Pl.inQ q (rd i64 (Pl.cjs q a) x.snd.fst)) ∧ (Pl.okr (q, p, k, m, ()) ∧ Pl.okPr q x.1 [Pl.neg q (rd i64 (Pl.cjs q a) x.snd.fst), (1 : Int)]) ∧ G (Pl.prod q x.1 [Pl.neg q (rd i64 (Pl.cjs q a) x.snd.fst), (1 : Int)], IntKind.i64.wrap (x.snd.fst + (1 : Int)), ())) ((0 : Int) ≤ x.snd.fst ∧ x.snd.fst < (↑(Pl.cjs q a).length : Int) ∧ Br (rd i64 (Pl.cjs q a) x.snd.fst != a) ((0 : Int) ≤ x.snd.fst ∧ x.snd.fst < (↑(Pl.cjs q a).length : Int) ∧ (Pl.okr (q, p, k, m, ()) ∧ Pl.inQ q (rd i64 (Pl.cjs q a) x.snd.fst)) ∧ (Pl.okr (q, p, k, m, ()) ∧ Pl.okPr q x.1 [Pl.neg q (rd i64 (Pl.cjs q a) x.snd.fst), (1 : Int)]) ∧ G (Pl.prod q x.1 [Pl.neg q (rd i64 (Pl.cjs q a) x.snd.fst), (1 : Int)], IntKind.i64.wrap (x.snd.fst + (1 : Int)), ())) ((x.1, ()) = C60.post ((q, p, k, m, ()), a, ())))) ((x.1, ()) = C60.post ((q, p, k, m, ()), a, ()))) n ([(1 : Int)], (0 : Int), ())) (by kernel_rfl) ?_
  have hp : C60.post ((q, p, k, m, ()), a, ()) = (Pl.minP q a, ()) := rfl
  rw [hp]
  have hl17 := cjs_len hq a
  have hin := cjs_in hq ha
  have hmin : Pl.minP q a = Pl.minL q (Pl.cjs q a) a (Pl.cjs q a).length 0 [1] := rfl
  rw [hmin]
  generalize Pl.cjs q a = l at *
  refine ⟨⟨h0, ha⟩, itl_rule (fun s => ∃ i : Nat, s.2.1 = (i : Int) ∧ i ≤ l.length ∧ Pl.mon q s.1 ∧ s.1.length = i + 1 ∧ Pl.minL q l a (l.length - i) i s.1 = Pl.minL q l a l.length 0 [1]) (fun s => ((l.length : Int) - s.2.1).toNat)
    ⟨0, rfl, Nat.zero_le _, mon_one hq, rfl, rfl⟩ ?_⟩
  rintro ⟨out, i0, ⟨⟩⟩ G ⟨i, e, hi, hm, hlen, hf⟩ hG
  simp only at e hm hlen hf hG ⊢
  subst e
  refine Br_of (fun h => ?_) (fun h => ?_)
  · have h : i < l.length := by have := of_decide_eq_true h; omega
    rw [rd_i, wrap_i64 (by omega) (by omega)]
    rw [show l.length - i = (l.length - (i + 1)) + 1 by omega, Pl.minL, decide_eq_true h, Bool.true_and] at hf
    obtain ⟨m1, m2⟩ := prod_mon hq (c := Pl.neg q (l.getD i 0)) hm
    have hpr : Pl.okPr q out [Pl.neg q (l.getD i 0), 1] := ⟨hm.2.2, fun x hx => by
      simp at hx
      rcases hx with rfl | rfl
      · exact neg_inQ hq _
      · exact one_inQ hq, by omega, by show 2 ≤ 1000000; omega⟩
    refine Br_of (fun h1 => ?_) (fun h1 => ⟨by omega, by omega, Br_of (fun h2 => ?_) (fun h2 => ?_)⟩)
    · have h1 : i = 0 := by have := eq_of_beq h1; omega
      rw [decide_eq_true h1, Bool.true_or, cond_true] at hf
      exact ⟨by omega, by omega, ⟨h0, getD_inQ hin h⟩, ⟨h0, hpr⟩, hG _ ⟨i + 1, rfl, by omega, m1, by rw [m2, hlen], hf⟩ (by simp only; omega)⟩
    · have h2 : l.getD i 0 ≠ a := by simpa using h2
      rw [decide_eq_true h2, Bool.or_true, cond_true] at hf
      exact ⟨by omega, by omega, ⟨h0, getD_inQ hin h⟩, ⟨h0, hpr⟩, hG _ ⟨i + 1, rfl, by omega, m1, by rw [m2, hlen], hf⟩ (by simp only; omega)⟩
    · have h1 : i ≠ 0 := fun e => by rw [e] at h1; cases h1
      have h2 : l.getD i 0 = a := by simpa using h2
      rw [decide_eq_false h1, decide_eq_false (not_not_intro h2), Bool.or_false, cond_false] at hf
      rw [← hf]
  · have h : i = l.length := by have := of_decide_eq_false h; omega
    subst h
    rw [Nat.sub_self, Pl.minL] at hf
    rw [← hf]
theorem nrc53 : NRC C53 := ⟨fun x hx => ⟨okF_nr hx, trivial, trivial⟩, fun x hx => ⟨trivial, trivial, trivial⟩⟩
theorem nrc107 : NRC C107 := ⟨fun x hx => ⟨okF_nr hx.1, rfl, rfl, trivial⟩, fun x hx => ⟨rfl, trivial⟩⟩
theorem nrc59 : NRC C59 := ⟨fun x hx => ⟨okF_nr hx, trivial, trivial⟩, fun x hx => ⟨rfl, trivial⟩⟩
theorem snd53 : Sound Try.prog 53 C53 := fn_sound (T := T30) (fn := Try.f53) (tokF ⟨snd95, trivial⟩) Try.func53 (by kernel_rfl) H53 vc53 (by kernel_rfl) (hC := nrc53)
theorem snd54 : Sound Try.prog 54 C54 := fn_sound (T := T54) (fn := Try.f54) (tok0 ⟨snd35, trivial⟩) Try.func54 (by kernel_rfl) H54 vc54 (by kernel_rfl)
theorem snd105 : Sound Try.prog 105 C105 := fn_sound (T := T105) (fn := Try.f105) (tok0 ⟨snd40, trivial⟩) Try.func105 (by kernel_rfl) H105 vc105 (by kernel_rfl)
theorem snd56 : Sound Try.prog 56 C56 := fn_sound (T := T56) (fn := Try.f56) (tok0 ⟨snd105, snd31, snd35, trivial⟩) Try.func56 (by kernel_rfl) H56 vc56 (by kernel_rfl)
theorem snd58 : Sound Try.prog 58 C58 := fn_sound (T := T56) (fn := Try.f58) (tok0 ⟨snd105, snd31, snd35, trivial⟩) Try.func58 (by kernel_rfl) H56 vc58 (by kernel_rfl)
theorem snd142 : Sound Try.prog 142 C142 := fn_sound (T := TT []) (fn := Try.f142) (tok0 trivial) Try.func142 (by kernel_rfl) H142 vc142 (by kernel_rfl)
theorem snd106 : Sound Try.prog 106 C106 := fn_sound (T := T106) (fn := Try.f106) (tok0 ⟨snd142, trivial⟩) Try.func106 (by kernel_rfl) H0 vc106 (by kernel_rfl)
theorem snd143 : Sound Try.prog 143 C143 := fn_sound (T := TT []) (fn := Try.f143) (tok0 trivial) Try.func143 (by kernel_rfl) H143 vc143 (by kernel_rfl)
theorem snd50 : Sound Try.prog 50 C50 := fn_sound (T := TT []) (fn := Try.f50) (tok0 trivial) Try.func50 (by kernel_rfl) H50 vc50 (by kernel_rfl)
theorem snd107 : Sound Try.prog 107 C107 := fn_sound (T := T107) (fn := Try.f107) (tokF ⟨snd143, trivial⟩) Try.func107 (by kernel_rfl) H107 vc107 (by kernel_rfl) (hC := nrc107)
theorem snd69 : Sound Try.prog 69 C69 := fn_sound (T := T69) (fn := Try.f69) (tok0 ⟨snd31, snd35, trivial⟩) Try.func69 (by kernel_rfl) H69 vc69 (by kernel_rfl)
theorem snd59 : Sound Try.prog 59 C59 := fn_sound (T := T59) (fn := Try.f59) (tokF ⟨snd95, snd104, snd106, snd107, trivial⟩) Try.func59 (by kernel_rfl) H59 vc59 (by kernel_rfl) (hC := nrc59)
theorem snd60 : Sound Try.prog 60 C60 := fn_sound (T := T60) (fn := Try.f60) (tok0 ⟨snd105, snd96, snd69, trivial⟩) Try.func60 (by kernel_rfl) H60 vc60 (by kernel_rfl)
/-! ### FieldTraces -/
theorem minL_mon {q : Int} (hq : isQ q) {l : List Int} {a : Int} : ∀ (f i : Nat) (out : List Int), Pl.mon q out → Pl.mon q (Pl.minL q l a f i out) ∧ (Pl.minL q l a f i out).length ≤ out.length + f
  | 0, i, out, h => ⟨h, Nat.le_refl _⟩
  | f + 1, i, out, h => by
    rw [Pl.minL]
    cases hb : decide (i < l.length) && (decide (i = 0) || decide (l.getD i 0 ≠ a)) with
    | false => exact ⟨h, by rw [cond_false]; omega⟩
    | true =>
      rw [cond_true]
      obtain ⟨m1, m2⟩ := prod_mon hq (c := Pl.neg q (l.getD i 0)) h
      obtain ⟨k1, k2⟩ := minL_mon hq (l := l) (a := a) f (i + 1) _ m1
      exact ⟨k1, by omega⟩
theorem vc11 : ∀ x, C11.pre x → VC T11 H0 Try.f11 C11 x := by
  rintro ⟨(o : Int), (a : Int), ⟨⟩⟩ -
  refine cast (α := True ∧ Pl.okr (Pl.someQ o (5000 : Int), Pl.lpf (Pl.someQ o (5000 : Int)), Pl.K (Pl.someQ o (5000 : Int)), Pl.Mod (Pl.someQ o (5000 : Int)), ()) ∧ Pl.okF (D.rptr (fieldC (Pl.someQ o (5000 : Int)))) ∧ Pl.okA1 ((Pl.someQ o (5000 : Int), Pl.lpf (Pl.someQ o (5000 : Int)), Pl.K (Pl.someQ o (5000 : Int)), Pl.Mod (Pl.someQ o (5000 : Int)), ()), a % Pl.someQ o (5000 : Int), ()) ∧ Br (!((bif (Pl.root (Pl.qF (D.rptr (fieldC (Pl.someQ o (5000 : Int))))) (a % Pl.qF (D.rptr (fieldC (Pl.someQ o (5000 : Int)))))).snd then (0 : I.El) else (4 : I.El)) == (0 : Int)) == (Pl.root (Pl.someQ o (5000 : Int)) (a % Pl.someQ o (5000 : Int))).snd) ((false, ()) = C11.post (o, a, ())) (Br ((Pl.root (Pl.qF (D.rptr (fieldC (Pl.someQ o (5000 : Int))))) (a % Pl.qF (D.rptr (fieldC (Pl.someQ o (5000 : Int)))))).fst != (Pl.root (Pl.someQ o (5000 : Int)) (a % Pl.someQ o (5000 : Int))).fst) ((false, ()) = C11.post (o, a, ())) (Br ((bif (Pl.root (Pl.qF (D.rptr (fieldC (Pl.someQ o (5000 : Int))))) (a % Pl.qF (D.rptr (fieldC (Pl.someQ o (5000 : Int)))))).snd then (0 : I.El) else (4 : I.El)) != (0 : Int)) (Br ((bif (Pl.root (Pl.qF (D.rptr (fieldC (Pl.someQ o (5000 : Int))))) (a % Pl.qF (D.rptr (fieldC (Pl.someQ o (5000 : Int)))))).snd then (0 : I.El) else (4 : I.El)) != (4 : Int)) ((false, ()) = C11.post (o, a, ())) (Pl.okF (D.rptr (fieldC (Pl.someQ o (5000 : Int)))) ∧ Pl.okA1 ((Pl.someQ o (5000 : Int), Pl.lpf (Pl.someQ o (5000 : Int)), Pl.K (Pl.someQ o (5000 : Int)), Pl.Mod (Pl.someQ o (5000 : Int)), ()), a % Pl.someQ o (5000 : Int), ()) ∧ Br (Pl.trace (Pl.qF (D.rptr (fieldC (Pl.someQ o (5000 : Int))))) (a % Pl.qF (D.rptr (fieldC (Pl.someQ o (5000 : Int))))) == Pl.trace (Pl.someQ o (5000 : Int)) (a % Pl.someQ o (5000 : Int))) (Pl.okF (D.rptr (fieldC (Pl.someQ o (5000 : Int)))) ∧ Pl.okA1 ((Pl.someQ o (5000 : Int), Pl.lpf (Pl.someQ o (5000 : Int)), Pl.K (Pl.someQ o (5000 : Int)), Pl.Mod (Pl.someQ o (5000 : Int)), ()), a % Pl.someQ o (5000 : Int), ()) ∧ Br (Pl.norm (Pl.qF (D.rptr (fieldC (Pl.someQ o (5000 : Int))))) (a % Pl.qF (D.rptr (fieldC (Pl.someQ o (5000 : Int))))) == Pl.norm (Pl.someQ o (5000 : Int)) (a % Pl.someQ o (5000 : Int))) (Pl.okF (D.rptr (fieldC (Pl.someQ o (5000 : Int)))) ∧ Pl.okA1 ((Pl.someQ o (5000 : Int), Pl.lpf (Pl.someQ o (5000 : Int)), Pl.K (Pl.someQ o (5000 : Int)), Pl.Mod (Pl.someQ o (5000 : Int)), ()), a % Pl.someQ o (5000 : Int), ()) ∧ (Pl.minP (Pl.qF (D.rptr (fieldC (Pl.someQ o (5000 : Int))))) (a % Pl.qF (D.rptr (fieldC (Pl.someQ o (5000 : Int)))))).length ≤ (1000000000 : Nat) ∧ Br (Pl.same (Pl.minP (Pl.qF (D.rptr (fieldC (Pl.someQ o (5000 : Int))))) (a % Pl.qF (D.rptr (fieldC (Pl.someQ o (5000 : Int)))))) (Pl.minP (Pl.someQ o (5000 : Int)) (a % Pl.someQ o (5000 : Int)))) (True ∧ (true, ()) = C11.post (o, a, ())) ((false, ()) = C11.post (o, a, ()))) ((false, ()) = C11.post (o, a, ()))) ((false, ()) = C11.post (o, a, ())))) (Pl.okF (D.rptr (fieldC (Pl.someQ o (5000 : Int)))) ∧ Pl.okA1 ((Pl.someQ o (5000 : Int), Pl.lpf (Pl.someQ o (5000 : Int)), Pl.K (Pl.someQ o (5000 : Int)), Pl.Mod (Pl.someQ o (5000 : Int)), ()), a % Pl.someQ o (5000 : Int), ()) ∧ Br (Pl.trace (Pl.qF (D.rptr (fieldC (Pl.someQ o (5000 : Int))))) (a % Pl.qF (D.rptr (fieldC (Pl.someQ o (5000 : Int))))) == Pl.trace (Pl.someQ o (5000 : Int)) (a % Pl.someQ o (5000 : Int))) (Pl.okF (D.rptr (fieldC (Pl.someQ o (5000 : Int)))) ∧ Pl.okA1 ((Pl.someQ o (5000 : Int), Pl.lpf (Pl.someQ o (5000 : Int)), Pl.K (Pl.someQ o (5000 : Int)), Pl.Mod (Pl.someQ o (5000 : Int)), ()), a % Pl.someQ o (5000 : Int), ()) ∧ Br (Pl.norm (Pl.qF (D.rptr (fieldC (Pl.someQ o (5000 : Int))))) (a % Pl.qF (D.rptr (fieldC (Pl.someQ o (5000 : Int))))) == Pl.norm (Pl.someQ o (5000 : Int)) (a % Pl.someQ o (5000 : Int))) (Pl.okF (D.rptr (fieldC (Pl.someQ o (5000 : Int)))) ∧ Pl.okA1 ((Pl.someQ o (5000 : Int), Pl.lpf (Pl.someQ o (5000 : Int)), Pl.K (Pl.someQ o (5000 : Int)), Pl.Mod (Pl.someQ o (5000 : Int)), ()), a % Pl.someQ o (5000 : Int), ()) ∧ (Pl.minP (Pl.qF (D.rptr (fieldC (Pl.someQ o (5000 : Int))))) (a % Pl.qF (D.rptr (fieldC (Pl.someQ o (5000 : Int)))))).length ≤ (1000000000 : Nat) ∧ Br (Pl.same (Pl.minP (Pl.qF (D.rptr (fieldC (Pl.someQ o (5000 : Int))))) (a % Pl.qF (D.rptr (fieldC (Pl.someQ o (5000 : Int)))))) (Pl.minP (Pl.someQ o (5000 : Int)) (a % Pl.someQ o (5000 : Int)))) (True ∧ (true, ()) = C11.post (o, a, ())) ((false, ()) = C11.post (o, a, ()))) ((false, ()) = C11.post (o, a, ()))) ((false, ()) = C11.post (o, a, ())))))) (by kernel_rfl) ?_
  have hq := someQ_isQ o 5000
  generalize Pl.someQ o 5000 = q at *
  rw [qF_f]
  have hr : Pl.okr (q, Pl.lpf q, Pl.K q, Pl.Mod q, ()) := okr_RF hq
  have hy := emod_inQ hq a
  generalize a % q = y at *
  have ho : Pl.okA1 ((q, Pl.lpf q, Pl.K q, Pl.Mod q, ()), y, ()) := ⟨hr, hy⟩
  have oF := okF_f hq
  have hlen : (Pl.minP q y).length ≤ 1000000000 := by
    have h1 := (minL_mon hq (l := Pl.cjs q y) (a := y) (Pl.cjs q y).length 0 [1] (mon_one hq)).2
    have h2 := cjs_len hq y
    have h3 : (Pl.minP q y).length ≤ 1 + (Pl.cjs q y).length := h1
    omega
  have hs : Pl.same (Pl.minP q y) (Pl.minP q y) = true := decide_eq_true rfl
  have last : ∀ {F : Prop}, oF = oF → (Pl.okF (D.rptr (fieldC q)) ∧ Pl.okA1 ((q, Pl.lpf q, Pl.K q, Pl.Mod q, ()), y, ()) ∧ Br (Pl.trace q y == Pl.trace q y) (Pl.okF (D.rptr (fieldC q)) ∧ Pl.okA1 ((q, Pl.lpf q, Pl.K q, Pl.Mod q, ()), y, ()) ∧ Br (Pl.norm q y == Pl.norm q y) (Pl.okF (D.rptr (fieldC q)) ∧ Pl.okA1 ((q, Pl.lpf q, Pl.K q, Pl.Mod q, ()), y, ()) ∧ (Pl.minP q y).length ≤ (1000000000 : Nat) ∧ Br (Pl.same (Pl.minP q y) (Pl.minP q y)) (True ∧ (true, ()) = C11.post (o, a, ())) F) F) F) := fun {F} _ =>
    ⟨oF, ho, Br_eq ⟨oF, ho, Br_eq ⟨oF, ho, hlen, by rw [hs]; exact ⟨trivial, rfl⟩⟩⟩⟩
  refine ⟨trivial, hr, oF, ho, ?_⟩
  cases hroot : (Pl.root q y).2 with
  | true => exact Br_nb rfl (Br_ne (Br_ne (a := 0) (last rfl)))
  | false => exact Br_nb rfl (Br_ne (Br_of (fun _ => Br_ne (a := 4) (last rfl)) (fun h => by cases h)))
theorem snd11 : Sound Try.prog 11 C11 := fn_sound (T := T11) (fn := Try.f11) (tok0 ⟨snd19, snd29, snd53, snd54, snd55, snd56, snd57, snd58, snd59, snd60, snd50, snd24, trivial⟩) Try.func11 (by kernel_rfl) H0 vc11 (by kernel_rfl)
end Fd
end
