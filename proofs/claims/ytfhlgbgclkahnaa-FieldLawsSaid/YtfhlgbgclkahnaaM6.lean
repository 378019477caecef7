import Derived.WalkKit
import Derived.ProofKit
import Derived.OpenShut
import Derived.Below
import Derived.WideKeyPair
import Derived.Test.YtfhlgbgclkahnaaRows
import Derived.Test.YtfhlgbgclkahnaaM5
section
/- Powers and logarithms; FieldPowers, FieldOrders. -/
set_option linter.unusedVariables false
set_option linter.unusedSimpArgs false
set_option maxRecDepth 100000
namespace Fd
open Go Fw Go.Proofs

theorem wrap_mod1 {m n : Int} (m1 : 1 ≤ m) (m6 : m ≤ 65536) : (IntKind.i64.wrap (n.tmod m + m)).tmod m = n % m := by
  have h1 := Int.tmod_lt_of_pos n (show 0 < m by omega)
  have h2 := Int.lt_tmod_of_pos n (show 0 < m by omega)
  rw [wrap_i64 (by omega) (by omega), tmod_pos (by omega), Int.add_emod_right]
  rcases ilt n 0 with h | h
  · have h3 := Int.emod_add_mul_ediv n m
    have h4 := Int.tmod_add_mul_tdiv n m
    have e : n.tmod m = n - m * n.tdiv m := by omega
    rw [e, Int.sub_mul_emod_self_left]
  · rw [Int.tmod_eq_emod_of_nonneg h, Int.emod_emod]
theorem powV_0 (q x : Int) : Pl.powV q x 0 = (1, 0) := rfl
theorem powV_neg {q n : Int} (h : n < 0) : Pl.powV q 0 n = (0, 6) := by
  unfold Pl.powV
  rw [decide_eq_false (show ¬ n = 0 by omega), decide_eq_true (show (0 : Int) = 0 from rfl), decide_eq_true h]; rfl
theorem powV_z {q n : Int} (h : 0 < n) : Pl.powV q 0 n = (0, 0) := by
  unfold Pl.powV
  rw [decide_eq_false (show ¬ n = 0 by omega), decide_eq_true (show (0 : Int) = 0 from rfl), decide_eq_false (show ¬ n < 0 by omega)]; rfl
theorem powV_x {q x n : Int} (hx : x ≠ 0) : Pl.powV q x n = (Pl.pow q x (n % (q - 1)), 0) := by
  by_cases hn : n = 0
  · subst hn
    rw [powV_0, Int.zero_emod]; rfl
  · unfold Pl.powV
    rw [decide_eq_false hn, decide_eq_false hx]; rfl
theorem logV_z (q : Int) : Pl.logV q 0 = (0, 6) := by
  unfold Pl.logV; rw [decide_eq_true rfl]; rfl
theorem logV_x {q x : Int} (hx : x ≠ 0) : Pl.logV q x = (Pl.log q x, 0) := by
  unfold Pl.logV; rw [decide_eq_false hx]; rfl
theorem vc38 : ∀ x, C38.pre x → VC T38 H0 Try.f38 C38 x := by
  rintro ⟨v, (a : Int), (n : Int), ⟨⟩⟩ ⟨q, hq, (rfl : v = _)⟩
  refine cast (α := Pl.okF (D.rptr (fieldC q)) ∧ Br (n == (0 : Int)) (((1 : Int), (0 : Int), ()) = C38.post (fieldD q, a, n, ())) (Br (a % Pl.qF (D.rptr (fieldC q)) == (0 : Int)) (Br (decide (n < (0 : Int))) (((0 : Int), (6 : Int), ()) = C38.post (fieldD q, a, n, ())) (Br (a % Pl.qF (D.rptr (fieldC q)) == (0 : Int)) (((0 : Int), (0 : Int), ()) = C38.post (fieldD q, a, n, ())) (IntKind.i64.wrap (q - (1 : Int)) ≠ (0 : Int) ∧ IntKind.i64.wrap (q - (1 : Int)) ≠ (0 : Int) ∧ (Pl.okM (D.iface (23 : Nat) (D.rptr (fieldC q))) ∧ Pl.inQ (Pl.qA (D.iface (23 : Nat) (D.rptr (fieldC q)))) (a % Pl.qF (D.rptr (fieldC q))) ∧ (0 : Int) ≤ (IntKind.i64.wrap (n.tmod (IntKind.i64.wrap (q - (1 : Int))) + IntKind.i64.wrap (q - (1 : Int)))).tmod (IntKind.i64.wrap (q - (1 : Int))) ∧ (IntKind.i64.wrap (n.tmod (IntKind.i64.wrap (q - (1 : Int))) + IntKind.i64.wrap (q - (1 : Int)))).tmod (IntKind.i64.wrap (q - (1 : Int))) ≤ (4611686018427387904 : Int)) ∧ (Pl.pow (Pl.qA (D.iface (23 : Nat) (D.rptr (fieldC q)))) (a % Pl.qF (D.rptr (fieldC q))) ((IntKind.i64.wrap (n.tmod (IntKind.i64.wrap (q - (1 : Int))) + IntKind.i64.wrap (q - (1 : Int)))).tmod (IntKind.i64.wrap (q - (1 : Int)))), (0 : Int), ()) = C38.post (fieldD q, a, n, ())))) (Br (a % Pl.qF (D.rptr (fieldC q)) == (0 : Int)) (((0 : Int), (0 : Int), ()) = C38.post (fieldD q, a, n, ())) (IntKind.i64.wrap (q - (1 : Int)) ≠ (0 : Int) ∧ IntKind.i64.wrap (q - (1 : Int)) ≠ (0 : Int) ∧ (Pl.okM (D.iface (23 : Nat) (D.rptr (fieldC q))) ∧ Pl.inQ (Pl.qA (D.iface (23 : Nat) (D.rptr (fieldC q)))) (a % Pl.qF (D.rptr (fieldC q))) ∧ (0 : Int) ≤ (IntKind.i64.wrap (n.tmod (IntKind.i64.wrap (q - (1 : Int))) + IntKind.i64.wrap (q - (1 : Int)))).tmod (IntKind.i64.wrap (q - (1 : Int))) ∧ (IntKind.i64.wrap (n.tmod (IntKind.i64.wrap (q - (1 : Int))) + IntKind.i64.wrap (q - (1 : Int)))).tmod (IntKind.i64.wrap (q - (1 : Int))) ≤ (4611686018427387904 : Int)) ∧ (Pl.pow (Pl.qA (D.iface (23 : Nat) (D.rptr (fieldC q)))) (a % Pl.qF (D.rptr (fieldC q))) ((IntKind.i64.wrap (n.tmod (IntKind.i64.wrap (q - (1 : Int))) + IntKind.i64.wrap (q - (1 : Int)))).tmod (IntKind.i64.wrap (q - (1 : Int)))), (0 : Int), ()) = C38.post (fieldD q, a, n, ()))))) (by kernel_rfl) ?_
  rw [qF_f, qA_f]
  have hp : C38.post (fieldD q, a, n, ()) = ((Pl.powV q (a % q) n).1, (Pl.powV q (a % q) n).2, ()) := rfl
  rw [hp]
  have q2 := hq.1
  have q6 := hq.2.1
  have hin := emod_inQ hq a
  generalize a % q = x at *
  rw [wrap_i64 (x := q - 1) (by omega) (by omega), wrap_mod1 (by omega) (by omega)]
  have m0 := Int.emod_nonneg n (show q - 1 ≠ 0 by omega)
  have m1 := Int.emod_lt_of_pos n (show 0 < q - 1 by omega)
  refine ⟨okF_f hq, Br_of (fun h => ?_) (fun h => Br_of (fun h1 => Br_of (fun h2 => ?_) (fun h2 => Br_of (fun _ => ?_) (fun h3 => absurd h1 (by rw [h3]; simp)))) (fun h1 => Br_of (fun h2 => absurd h2 (by rw [h1]; simp)) (fun h2 => ?_)))⟩
  · have h : n = 0 := by simpa using h
    subst h; rfl
  · have h1 : x = 0 := by simpa using h1
    subst h1
    rw [powV_neg (of_decide_eq_true h2)]
  · have h : n ≠ 0 := by simpa using h
    have h1 : x = 0 := by simpa using h1
    have h2 : ¬ n < 0 := of_decide_eq_false h2
    subst h1
    rw [powV_z (by omega)]
  · have h1 : x ≠ 0 := by simpa using h1
    rw [powV_x h1]
    exact ⟨by omega, by omega, ⟨okM_f hq, hin, m0, by omega⟩, rfl⟩
theorem vc39 : ∀ x, C39.pre x → VC T30 H39 Try.f39 C39 x := by
  rintro ⟨v, (a : Int), ⟨⟩⟩ ⟨q, hq, (rfl : v = _)⟩
  refine cast (α := Pl.okF (D.rptr (fieldC q)) ∧ Br (a % Pl.qF (D.rptr (fieldC q)) == (0 : Int)) (((0 : Int), (6 : Int), ()) = C39.post (fieldD q, a, ())) (∃ (n : Nat), itl (fun (G : Int × Int × PUnit → Prop) (x : Int × Int × PUnit) => Br (x.snd.fst != a % Pl.qF (D.rptr (fieldC q))) ((Pl.okM (arD q) ∧ Pl.inQ (Pl.qA (arD q)) x.snd.fst ∧ Pl.inQ (Pl.qA (arD q)) (Pl.gen q)) ∧ G (IntKind.i64.wrap (x.fst + (1 : Int)), Pl.mul (Pl.qA (arD q)) x.snd.fst (Pl.gen q), ())) ((x.fst, (0 : Int), ()) = C39.post (fieldD q, a, ()))) n ((0 : Int), (1 : Int), ()))) (by kernel_rfl) ?_
  rw [qF_f, qA_ar hq]
  have hp : C39.post (fieldD q, a, ()) = ((Pl.logV q (a % q)).1, (Pl.logV q (a % q)).2, ()) := rfl
  rw [hp]
  have q2 := hq.1
  have q6 := hq.2.1
  have hin := emod_inQ hq a
  generalize a % q = x at *
  refine ⟨okF_f hq, Br_of (fun h => ?_) (fun h => ?_)⟩
  · have h : x = 0 := by simpa using h
    subst h
    rw [logV_z]
  · have h : x ≠ 0 := by simpa using h
    rw [logV_x h]
    obtain ⟨i, hi, hlog, hpow⟩ := log_spec hq hin h
    refine itl_rule (fun s => ∃ j : Nat, s.1 = (j : Int) ∧ j ≤ i ∧ s.2.1 = (fld q).pow (Pl.gen q) j) (fun s => ((i : Int) - s.1).toNat) ⟨0, rfl, Nat.zero_le _, rfl⟩ ?_
    rintro ⟨n, y, ⟨⟩⟩ G ⟨j, e1, hj, e2⟩ hG
    simp only at e1 e2 hG ⊢
    subst e1 e2
    refine Br_of (fun h1 => ?_) (fun h1 => ?_)
    · have hji : j ≠ i := fun e => by subst e; rw [hpow] at h1; simp at h1
      rw [wrap_i64 (by omega) (by omega)]
      exact ⟨⟨okM_ar hq, gen_in hq j, gen_inQ hq⟩, hG _ ⟨j + 1, by simp, by omega, rfl⟩ (by simp only; omega)⟩
    · have h1 : (fld q).pow (Pl.gen q) j = x := by simpa using h1
      have : j = i := (gen_spec hq).2.2.2.2.inj (fld_ok hq) j i (by omega) hi (by rw [h1, hpow])
      subst this
      rw [hlog]
theorem nrc38 : NRC C38 := ⟨fun x hx => ⟨okF_nr hx, trivial, trivial, trivial⟩, fun x hx => ⟨trivial, trivial, trivial⟩⟩
theorem nrc39 : NRC C39 := ⟨fun x hx => ⟨okF_nr hx, trivial, trivial⟩, fun x hx => ⟨trivial, trivial, trivial⟩⟩
theorem snd38 : Sound Try.prog 38 C38 := fn_sound (T := T38) (fn := Try.f38) (tok0 ⟨snd95, snd100, trivial⟩) Try.func38 (by kernel_rfl) H0 vc38 (by kernel_rfl) (hC := nrc38)
theorem snd39 : Sound Try.prog 39 C39 := fn_sound (T := T30) (fn := Try.f39) (tokF ⟨snd95, trivial⟩) Try.func39 (by kernel_rfl) H39 vc39 (by kernel_rfl) (hC := nrc39)
theorem vc6 : ∀ x, C6.pre x → VC T6 H0 Try.f6 C6 x := by
  rintro ⟨(o : Int), (a : Int), (n : Int), ⟨⟩⟩ -
  refine cast (α := True ∧ Pl.okr (Pl.someQ o (5000 : Int), Pl.lpf (Pl.someQ o (5000 : Int)), Pl.K (Pl.someQ o (5000 : Int)), Pl.Mod (Pl.someQ o (5000 : Int)), ()) ∧ Pl.okF (D.rptr (fieldC (Pl.someQ o (5000 : Int)))) ∧ Pl.okF (D.rptr (fieldC (Pl.someQ o (5000 : Int)))) ∧ Br (a % Pl.someQ o (5000 : Int) == (0 : Int)) (Br (n == (0 : Int)) (Br ((Pl.logV (Pl.qF (D.rptr (fieldC (Pl.someQ o (5000 : Int))))) (a % Pl.qF (D.rptr (fieldC (Pl.someQ o (5000 : Int)))))).snd != (6 : Int)) ((false, ()) = C6.post (o, a, n, ())) (Br ((Pl.logV (Pl.qF (D.rptr (fieldC (Pl.someQ o (5000 : Int))))) (a % Pl.qF (D.rptr (fieldC (Pl.someQ o (5000 : Int)))))).fst != (0 : Int)) ((false, ()) = C6.post (o, a, n, ())) (Br (!((Pl.powV (Pl.qF (D.rptr (fieldC (Pl.someQ o (5000 : Int))))) (a % Pl.qF (D.rptr (fieldC (Pl.someQ o (5000 : Int))))) n).snd == (6 : Int)) == decide (n < (0 : Int))) ((false, ()) = C6.post (o, a, n, ())) (Br ((Pl.powV (Pl.qF (D.rptr (fieldC (Pl.someQ o (5000 : Int))))) (a % Pl.qF (D.rptr (fieldC (Pl.someQ o (5000 : Int))))) n).snd != (0 : Int)) (Br ((Pl.powV (Pl.qF (D.rptr (fieldC (Pl.someQ o (5000 : Int))))) (a % Pl.qF (D.rptr (fieldC (Pl.someQ o (5000 : Int))))) n).snd != (6 : Int)) ((false, ()) = C6.post (o, a, n, ())) (Br ((Pl.powV (Pl.qF (D.rptr (fieldC (Pl.someQ o (5000 : Int))))) (a % Pl.qF (D.rptr (fieldC (Pl.someQ o (5000 : Int))))) n).snd != (0 : Int)) (Br ((Pl.powV (Pl.qF (D.rptr (fieldC (Pl.someQ o (5000 : Int))))) (a % Pl.qF (D.rptr (fieldC (Pl.someQ o (5000 : Int))))) n).fst == (0 : Int)) (True ∧ (true, ()) = C6.post (o, a, n, ())) (Br ((Pl.powV (Pl.qF (D.rptr (fieldC (Pl.someQ o (5000 : Int))))) (a % Pl.qF (D.rptr (fieldC (Pl.someQ o (5000 : Int))))) n).snd == (0 : Int)) (Br ((Pl.powV (Pl.qF (D.rptr (fieldC (Pl.someQ o (5000 : Int))))) (a % Pl.qF (D.rptr (fieldC (Pl.someQ o (5000 : Int))))) n).fst == (1 : Int)) (True ∧ (true, ()) = C6.post (o, a, n, ())) ((false, ()) = C6.post (o, a, n, ()))) ((false, ()) = C6.post (o, a, n, ())))) (Br ((Pl.powV (Pl.qF (D.rptr (fieldC (Pl.someQ o (5000 : Int))))) (a % Pl.qF (D.rptr (fieldC (Pl.someQ o (5000 : Int))))) n).snd == (0 : Int)) (Br ((Pl.powV (Pl.qF (D.rptr (fieldC (Pl.someQ o (5000 : Int))))) (a % Pl.qF (D.rptr (fieldC (Pl.someQ o (5000 : Int))))) n).fst == (1 : Int)) (True ∧ (true, ()) = C6.post (o, a, n, ())) ((false, ()) = C6.post (o, a, n, ()))) ((false, ()) = C6.post (o, a, n, ()))))) (Br ((Pl.powV (Pl.qF (D.rptr (fieldC (Pl.someQ o (5000 : Int))))) (a % Pl.qF (D.rptr (fieldC (Pl.someQ o (5000 : Int))))) n).snd != (0 : Int)) (Br ((Pl.powV (Pl.qF (D.rptr (fieldC (Pl.someQ o (5000 : Int))))) (a % Pl.qF (D.rptr (fieldC (Pl.someQ o (5000 : Int))))) n).fst == (0 : Int)) (True ∧ (true, ()) = C6.post (o, a, n, ())) (Br ((Pl.powV (Pl.qF (D.rptr (fieldC (Pl.someQ o (5000 : Int))))) (a % Pl.qF (D.rptr (fieldC (Pl.someQ o (5000 : Int))))) n).snd == (0 : Int)) (Br ((Pl.powV (Pl.qF (D.rptr (fieldC (Pl.someQ o (5000 : Int))))) (a % Pl.qF (D.rptr (fieldC (Pl.someQ o (5000 : Int))))) n).fst == (1 : Int)) (True ∧ (true, ()) = C6.post (o, a, n, ())) ((false, ()) = C6.post (o, a, n, ()))) ((false, ()) = C6.post (o, a, n, ())))) (Br ((Pl.powV (Pl.qF (D.rptr (fieldC (Pl.someQ o (5000 : Int))))) (a % Pl.qF (D.rptr (fieldC (Pl.someQ o (5000 : Int))))) n).snd == (0 : Int)) (Br ((Pl.powV (Pl.qF (D.rptr (fieldC (Pl.someQ o (5000 : Int))))) (a % Pl.qF (D.rptr (fieldC (Pl.someQ o (5000 : Int))))) n).fst == (1 : Int)) (True ∧ (true, ()) = C6.post (o, a, n, ())) ((false, ()) = C6.post (o, a, n, ()))) ((false, ()) = C6.post (o, a, n, ())))))))) (Br ((Pl.logV (Pl.qF (D.rptr (fieldC (Pl.someQ o (5000 : Int))))) (a % Pl.qF (D.rptr (fieldC (Pl.someQ o (5000 : Int)))))).snd != (6 : Int)) ((false, ()) = C6.post (o, a, n, ())) (Br ((Pl.logV (Pl.qF (D.rptr (fieldC (Pl.someQ o (5000 : Int))))) (a % Pl.qF (D.rptr (fieldC (Pl.someQ o (5000 : Int)))))).fst != (0 : Int)) ((false, ()) = C6.post (o, a, n, ())) (Br (!((Pl.powV (Pl.qF (D.rptr (fieldC (Pl.someQ o (5000 : Int))))) (a % Pl.qF (D.rptr (fieldC (Pl.someQ o (5000 : Int))))) n).snd == (6 : Int)) == decide (n < (0 : Int))) ((false, ()) = C6.post (o, a, n, ())) (Br ((Pl.powV (Pl.qF (D.rptr (fieldC (Pl.someQ o (5000 : Int))))) (a % Pl.qF (D.rptr (fieldC (Pl.someQ o (5000 : Int))))) n).snd != (0 : Int)) (Br ((Pl.powV (Pl.qF (D.rptr (fieldC (Pl.someQ o (5000 : Int))))) (a % Pl.qF (D.rptr (fieldC (Pl.someQ o (5000 : Int))))) n).snd != (6 : Int)) ((false, ()) = C6.post (o, a, n, ())) (Br ((Pl.powV (Pl.qF (D.rptr (fieldC (Pl.someQ o (5000 : Int))))) (a % Pl.qF (D.rptr (fieldC (Pl.someQ o (5000 : Int))))) n).snd != (0 : Int)) (Br ((Pl.powV (Pl.qF (D.rptr (fieldC (Pl.someQ o (5000 : Int))))) (a % Pl.qF (D.rptr (fieldC (Pl.someQ o (5000 : Int))))) n).fst == (0 : Int)) (True ∧ (true, ()) = C6.post (o, a, n, ())) (Br ((Pl.powV (Pl.qF (D.rptr (fieldC (Pl.someQ o (5000 : Int))))) (a % Pl.qF (D.rptr (fieldC (Pl.someQ o (5000 : Int))))) n).snd == (0 : Int)) (Br ((Pl.powV (Pl.qF (D.rptr (fieldC (Pl.someQ o (5000 : Int))))) (a % Pl.qF (D.rptr (fieldC (Pl.someQ o (5000 : Int))))) n).fst == (0 : Int)) (True ∧ (true, ()) = C6.post (o, a, n, ())) ((false, ()) = C6.post (o, a, n, ()))) ((false, ()) = C6.post (o, a, n, ())))) (Br ((Pl.powV (Pl.qF (D.rptr (fieldC (Pl.someQ o (5000 : Int))))) (a % Pl.qF (D.rptr (fieldC (Pl.someQ o (5000 : Int))))) n).snd == (0 : Int)) (Br ((Pl.powV (Pl.qF (D.rptr (fieldC (Pl.someQ o (5000 : Int))))) (a % Pl.qF (D.rptr (fieldC (Pl.someQ o (5000 : Int))))) n).fst == (0 : Int)) (True ∧ (true, ()) = C6.post (o, a, n, ())) ((false, ()) = C6.post (o, a, n, ()))) ((false, ()) = C6.post (o, a, n, ()))))) (Br ((Pl.powV (Pl.qF (D.rptr (fieldC (Pl.someQ o (5000 : Int))))) (a % Pl.qF (D.rptr (fieldC (Pl.someQ o (5000 : Int))))) n).snd != (0 : Int)) (Br ((Pl.powV (Pl.qF (D.rptr (fieldC (Pl.someQ o (5000 : Int))))) (a % Pl.qF (D.rptr (fieldC (Pl.someQ o (5000 : Int))))) n).fst == (0 : Int)) (True ∧ (true, ()) = C6.post (o, a, n, ())) (Br ((Pl.powV (Pl.qF (D.rptr (fieldC (Pl.someQ o (5000 : Int))))) (a % Pl.qF (D.rptr (fieldC (Pl.someQ o (5000 : Int))))) n).snd == (0 : Int)) (Br ((Pl.powV (Pl.qF (D.rptr (fieldC (Pl.someQ o (5000 : Int))))) (a % Pl.qF (D.rptr (fieldC (Pl.someQ o (5000 : Int))))) n).fst == (0 : Int)) (True ∧ (true, ()) = C6.post (o, a, n, ())) ((false, ()) = C6.post (o, a, n, ()))) ((false, ()) = C6.post (o, a, n, ())))) (Br ((Pl.powV (Pl.qF (D.rptr (fieldC (Pl.someQ o (5000 : Int))))) (a % Pl.qF (D.rptr (fieldC (Pl.someQ o (5000 : Int))))) n).snd == (0 : Int)) (Br ((Pl.powV (Pl.qF (D.rptr (fieldC (Pl.someQ o (5000 : Int))))) (a % Pl.qF (D.rptr (fieldC (Pl.someQ o (5000 : Int))))) n).fst == (0 : Int)) (True ∧ (true, ()) = C6.post (o, a, n, ())) ((false, ()) = C6.post (o, a, n, ()))) ((false, ()) = C6.post (o, a, n, ()))))))))) (IntKind.i64.wrap (Pl.someQ o (5000 : Int) - (1 : Int)) ≠ (0 : Int) ∧ IntKind.i64.wrap (Pl.someQ o (5000 : Int) - (1 : Int)) ≠ (0 : Int) ∧ Br ((Pl.powV (Pl.qF (D.rptr (fieldC (Pl.someQ o (5000 : Int))))) (a % Pl.qF (D.rptr (fieldC (Pl.someQ o (5000 : Int))))) n).snd == (0 : Int)) (Br ((Pl.logV (Pl.qF (D.rptr (fieldC (Pl.someQ o (5000 : Int))))) (a % Pl.qF (D.rptr (fieldC (Pl.someQ o (5000 : Int)))))).snd == (0 : Int)) ((Pl.okr (Pl.someQ o (5000 : Int), Pl.lpf (Pl.someQ o (5000 : Int)), Pl.K (Pl.someQ o (5000 : Int)), Pl.Mod (Pl.someQ o (5000 : Int)), ()) ∧ Pl.inQ (Pl.someQ o (5000 : Int)) (a % Pl.someQ o (5000 : Int)) ∧ (0 : Int) ≤ (IntKind.i64.wrap (n.tmod (IntKind.i64.wrap (Pl.someQ o (5000 : Int) - (1 : Int))) + IntKind.i64.wrap (Pl.someQ o (5000 : Int) - (1 : Int)))).tmod (IntKind.i64.wrap (Pl.someQ o (5000 : Int) - (1 : Int))) ∧ (IntKind.i64.wrap (n.tmod (IntKind.i64.wrap (Pl.someQ o (5000 : Int) - (1 : Int))) + IntKind.i64.wrap (Pl.someQ o (5000 : Int) - (1 : Int)))).tmod (IntKind.i64.wrap (Pl.someQ o (5000 : Int) - (1 : Int))) ≤ (4611686018427387904 : Int)) ∧ Br ((Pl.powV (Pl.qF (D.rptr (fieldC (Pl.someQ o (5000 : Int))))) (a % Pl.qF (D.rptr (fieldC (Pl.someQ o (5000 : Int))))) n).fst == Pl.pow (Pl.someQ o (5000 : Int)) (a % Pl.someQ o (5000 : Int)) ((IntKind.i64.wrap (n.tmod (IntKind.i64.wrap (Pl.someQ o (5000 : Int) - (1 : Int))) + IntKind.i64.wrap (Pl.someQ o (5000 : Int) - (1 : Int)))).tmod (IntKind.i64.wrap (Pl.someQ o (5000 : Int) - (1 : Int))))) ((Pl.okr (Pl.someQ o (5000 : Int), Pl.lpf (Pl.someQ o (5000 : Int)), Pl.K (Pl.someQ o (5000 : Int)), Pl.Mod (Pl.someQ o (5000 : Int)), ()) ∧ Pl.inQ (Pl.someQ o (5000 : Int)) (a % Pl.someQ o (5000 : Int)) ∧ a % Pl.someQ o (5000 : Int) ≠ (0 : Int)) ∧ Br ((Pl.logV (Pl.qF (D.rptr (fieldC (Pl.someQ o (5000 : Int))))) (a % Pl.qF (D.rptr (fieldC (Pl.someQ o (5000 : Int)))))).fst == Pl.log (Pl.someQ o (5000 : Int)) (a % Pl.someQ o (5000 : Int))) (True ∧ (true, ()) = C6.post (o, a, n, ())) ((false, ()) = C6.post (o, a, n, ()))) ((false, ()) = C6.post (o, a, n, ()))) ((false, ()) = C6.post (o, a, n, ()))) ((false, ()) = C6.post (o, a, n, ())))) (by kernel_rfl) ?_
  have hq := someQ_isQ o 5000
  generalize Pl.someQ o 5000 = q at *
  rw [qF_f]
  have hr : Pl.okr (q, Pl.lpf q, Pl.K q, Pl.Mod q, ()) := okr_RF hq
  have hin := emod_inQ hq a
  generalize a % q = x at *
  have q2 := hq.1
  have q6 := hq.2.1
  refine ⟨trivial, hr, okF_f hq, okF_f hq, Br_of (fun h => ?_) (fun h => ?_)⟩
  · have h : x = 0 := by simpa using h
    subst h
    rw [logV_z]
    rcases Int.lt_trichotomy n 0 with hn | hn | hn
    · rw [powV_neg hn, show (n == 0) = false by simpa using (show n ≠ 0 by omega), decide_eq_true hn]
      show True ∧ (true, ()) = C6.post (o, a, n, ())
      exact ⟨trivial, rfl⟩
    · subst hn
      rw [powV_0]
      show True ∧ (true, ()) = C6.post (o, a, 0, ())
      exact ⟨trivial, rfl⟩
    · rw [powV_z hn, show (n == 0) = false by simpa using (show n ≠ 0 by omega), decide_eq_false (show ¬ n < 0 by omega)]
      show True ∧ (true, ()) = C6.post (o, a, n, ())
      exact ⟨trivial, rfl⟩
  · have h : x ≠ 0 := by simpa using h
    rw [wrap_i64 (x := q - 1) (by omega) (by omega), wrap_mod1 (by omega) (by omega), powV_x h, logV_x h]
    have m0 := Int.emod_nonneg n (show q - 1 ≠ 0 by omega)
    have m1 := Int.emod_lt_of_pos n (show 0 < q - 1 by omega)
    exact ⟨by omega, by omega, Br_eq (Br_eq ⟨⟨hr, hin, m0, by omega⟩, Br_eq ⟨⟨hr, hin, h⟩, Br_eq ⟨trivial, rfl⟩⟩⟩)⟩
theorem snd6 : Sound Try.prog 6 C6 := fn_sound (T := T6) (fn := Try.f6) (tok0 ⟨snd19, snd29, snd38, snd39, snd40, snd41, snd24, trivial⟩) Try.func6 (by kernel_rfl) H0 vc6 (by kernel_rfl)
theorem emod_self_in {q x : Int} (h : Pl.inQ q x) : x % q = x := Int.emod_eq_of_lt h.1 h.2
theorem Br_nb {b c : Bool} {p r : Prop} (h : b = c) (hr : r) : Br (!(b == c)) p r := Br_of (fun e => by rw [h] at e; simp at e) (fun _ => hr)
theorem vc7 : ∀ x, C7.pre x → VC T7 H7 Try.f7 C7 x := by
  rintro ⟨(o : Int), (a : Int), (b : Int), ⟨⟩⟩ -
  refine cast (α := True ∧ Pl.okF (D.rptr (fieldC (Pl.someQ o (2000 : Int)))) ∧ ∃ (n : Nat), itl (fun (G : Int × PUnit → Prop) (x : Int × PUnit) => Br (decide (x.fst ≤ Pl.gen (Pl.qF (D.rptr (fieldC (Pl.someQ o (2000 : Int))))))) (∃ (n : Nat), itl (fun (G_1 : Int × Int × PUnit → Prop) (x_1 : Int × Int × PUnit) => Br (x_1.snd.fst != (1 : Int)) (Br (decide (x_1.fst < Pl.someQ o (2000 : Int))) (Pl.okF (D.rptr (fieldC (Pl.someQ o (2000 : Int)))) ∧ G_1 (IntKind.i64.wrap (x_1.fst + (1 : Int)), Pl.mul (Pl.qF (D.rptr (fieldC (Pl.someQ o (2000 : Int))))) (x_1.snd.fst % Pl.qF (D.rptr (fieldC (Pl.someQ o (2000 : Int))))) (x.fst % Pl.qF (D.rptr (fieldC (Pl.someQ o (2000 : Int))))), ())) (Br (!(x_1.fst == IntKind.i64.wrap (Pl.someQ o (2000 : Int) - (1 : Int))) == (x.fst == Pl.gen (Pl.qF (D.rptr (fieldC (Pl.someQ o (2000 : Int))))))) ((false, ()) = C7.post (o, a, b, ())) (G (IntKind.i64.wrap (x.fst + (1 : Int)), ())))) (Br (!(x_1.fst == IntKind.i64.wrap (Pl.someQ o (2000 : Int) - (1 : Int))) == (x.fst == Pl.gen (Pl.qF (D.rptr (fieldC (Pl.someQ o (2000 : Int))))))) ((false, ()) = C7.post (o, a, b, ())) (G (IntKind.i64.wrap (x.fst + (1 : Int)), ())))) n ((1 : Int), x)) (Pl.okr (Pl.someQ o (2000 : Int), Pl.lpf (Pl.someQ o (2000 : Int)), Pl.K (Pl.someQ o (2000 : Int)), Pl.Mod (Pl.someQ o (2000 : Int)), ()) ∧ Pl.okr (Pl.someQ o (2000 : Int), Pl.lpf (Pl.someQ o (2000 : Int)), Pl.K (Pl.someQ o (2000 : Int)), Pl.Mod (Pl.someQ o (2000 : Int)), ()) ∧ Br (a % Pl.someQ o (2000 : Int) == (0 : Int)) (True ∧ (true, ()) = C7.post (o, a, b, ())) (Br (b % Pl.someQ o (2000 : Int) == (0 : Int)) (True ∧ (true, ()) = C7.post (o, a, b, ())) (Pl.okF (D.rptr (fieldC (Pl.someQ o (2000 : Int)))) ∧ Pl.okF (D.rptr (fieldC (Pl.someQ o (2000 : Int)))) ∧ Pl.okF (D.rptr (fieldC (Pl.someQ o (2000 : Int)))) ∧ Pl.okF (D.rptr (fieldC (Pl.someQ o (2000 : Int)))) ∧ Pl.okF (D.rptr (fieldC (Pl.someQ o (2000 : Int)))) ∧ Br ((Pl.logV (Pl.qF (D.rptr (fieldC (Pl.someQ o (2000 : Int))))) (a % Pl.someQ o (2000 : Int) % Pl.qF (D.rptr (fieldC (Pl.someQ o (2000 : Int)))))).snd == (0 : Int)) (Br ((Pl.logV (Pl.qF (D.rptr (fieldC (Pl.someQ o (2000 : Int))))) (b % Pl.someQ o (2000 : Int) % Pl.qF (D.rptr (fieldC (Pl.someQ o (2000 : Int)))))).snd == (0 : Int)) (Br ((Pl.logV (Pl.qF (D.rptr (fieldC (Pl.someQ o (2000 : Int))))) (Pl.mul (Pl.qF (D.rptr (fieldC (Pl.someQ o (2000 : Int))))) (a % Pl.someQ o (2000 : Int) % Pl.qF (D.rptr (fieldC (Pl.someQ o (2000 : Int))))) (b % Pl.someQ o (2000 : Int) % Pl.qF (D.rptr (fieldC (Pl.someQ o (2000 : Int))))) % Pl.qF (D.rptr (fieldC (Pl.someQ o (2000 : Int)))))).snd == (0 : Int)) (Br ((Pl.powV (Pl.qF (D.rptr (fieldC (Pl.someQ o (2000 : Int))))) (Pl.gen (Pl.qF (D.rptr (fieldC (Pl.someQ o (2000 : Int))))) % Pl.qF (D.rptr (fieldC (Pl.someQ o (2000 : Int))))) (Pl.logV (Pl.qF (D.rptr (fieldC (Pl.someQ o (2000 : Int))))) (a % Pl.someQ o (2000 : Int) % Pl.qF (D.rptr (fieldC (Pl.someQ o (2000 : Int)))))).fst).snd == (0 : Int)) (IntKind.i64.wrap (Pl.someQ o (2000 : Int) - (1 : Int)) ≠ (0 : Int) ∧ Br ((Pl.logV (Pl.qF (D.rptr (fieldC (Pl.someQ o (2000 : Int))))) (Pl.mul (Pl.qF (D.rptr (fieldC (Pl.someQ o (2000 : Int))))) (a % Pl.someQ o (2000 : Int) % Pl.qF (D.rptr (fieldC (Pl.someQ o (2000 : Int))))) (b % Pl.someQ o (2000 : Int) % Pl.qF (D.rptr (fieldC (Pl.someQ o (2000 : Int))))) % Pl.qF (D.rptr (fieldC (Pl.someQ o (2000 : Int)))))).fst == (IntKind.i64.wrap ((Pl.logV (Pl.qF (D.rptr (fieldC (Pl.someQ o (2000 : Int))))) (a % Pl.someQ o (2000 : Int) % Pl.qF (D.rptr (fieldC (Pl.someQ o (2000 : Int)))))).fst + (Pl.logV (Pl.qF (D.rptr (fieldC (Pl.someQ o (2000 : Int))))) (b % Pl.someQ o (2000 : Int) % Pl.qF (D.rptr (fieldC (Pl.someQ o (2000 : Int)))))).fst)).tmod (IntKind.i64.wrap (Pl.someQ o (2000 : Int) - (1 : Int)))) (Br ((Pl.powV (Pl.qF (D.rptr (fieldC (Pl.someQ o (2000 : Int))))) (Pl.gen (Pl.qF (D.rptr (fieldC (Pl.someQ o (2000 : Int))))) % Pl.qF (D.rptr (fieldC (Pl.someQ o (2000 : Int))))) (Pl.logV (Pl.qF (D.rptr (fieldC (Pl.someQ o (2000 : Int))))) (a % Pl.someQ o (2000 : Int) % Pl.qF (D.rptr (fieldC (Pl.someQ o (2000 : Int)))))).fst).fst == a % Pl.someQ o (2000 : Int)) (True ∧ (true, ()) = C7.post (o, a, b, ())) ((false, ()) = C7.post (o, a, b, ()))) ((false, ()) = C7.post (o, a, b, ()))) ((false, ()) = C7.post (o, a, b, ()))) ((false, ()) = C7.post (o, a, b, ()))) ((false, ()) = C7.post (o, a, b, ()))) ((false, ()) = C7.post (o, a, b, ())))))) n ((1 : Int), ())) (by kernel_rfl) ?_
  have hq := someQ_isQ o 2000
  generalize Pl.someQ o 2000 = q at *
  rw [qF_f]
  have hr : Pl.okr (q, Pl.lpf q, Pl.K q, Pl.Mod q, ()) := okr_RF hq
  have hx := emod_inQ hq a
  have hy := emod_inQ hq b
  generalize a % q = x at *
  generalize b % q = y at *
  have q2 := hq.1
  have q6 := hq.2.1
  have ok := fld_ok hq
  obtain ⟨g1, g2, g3, g4, g5⟩ := gen_spec hq
  have hg := gen_inQ hq
  rw [wrap_i64 (x := q - 1) (by omega) (by omega), emod_self_in hx, emod_self_in hy, emod_self_in hg, emod_self_in (mul_inQ hq x y)]
  refine ⟨trivial, okF_f hq, itl_rule (fun s => 1 ≤ s.1 ∧ s.1 ≤ Pl.gen q + 1) (fun s => (Pl.gen q + 1 - s.1).toNat) ⟨by simp only; omega, by simp only; omega⟩ ?_⟩
  rintro ⟨z, ⟨⟩⟩ G ⟨z1, z2⟩ hG
  simp only at z1 z2 hG ⊢
  refine Br_of (fun h => ?_) (fun h => ?_)
  · have h : z ≤ Pl.gen q := of_decide_eq_true h
    have hz : Pl.inQ q z := ⟨by omega, by omega⟩
    have hz0 : z ≠ 0 := by omega
    have hord : ∀ n : Nat, (fld q).Ord z n → ((n : Int) == q - 1) = (z == Pl.gen q) := by
      intro n hn
      by_cases e : z = Pl.gen q
      · subst e
        have hd1 := hn.dvd ok g5.2.1
        have hd2 := g5.dvd ok hn.2.1
        have := Nat.dvd_antisymm hd1 hd2
        have e1 : (n : Int) = q - 1 := by omega
        rw [e1]; simp
      · have e2 : (n : Int) ≠ q - 1 := fun e2 => by
          have hn' : n = q.toNat - 1 := by omega
          rw [hn'] at hn
          have := (genT_spec hq (g := z) (by omega) (by omega)).2 hn
          rw [g4 z (by omega) (by omega)] at this
          cases this
        rw [beq_eq_false_iff_ne.2 e2, beq_eq_false_iff_ne.2 e]
    rw [emod_self_in hz]
    refine itl_rule (fun s => ∃ n : Nat, s.1 = (n : Int) ∧ 1 ≤ n ∧ (n : Int) ≤ q ∧ s.2.1 = (fld q).pow z n ∧ ∀ i, 1 ≤ i → i < n → (fld q).pow z i ≠ 1) (fun s => (q - s.1).toNat) ⟨1, rfl, Nat.le_refl _, by omega, ((Fm.Fld.pow_one ok ((in_iff hq z).2 hz)).symm), fun i h1 h2 => by omega⟩ ?_
    rintro ⟨n0, y0, ⟨⟩⟩ G1 ⟨n, e1, n1, n2, e2, hn⟩ hG1
    simp only at e1 e2 hG1 ⊢
    subst e1 e2
    refine Br_of (fun h1 => ?_) (fun h1 => ?_)
    · have h1 : (fld q).pow z n ≠ 1 := by simpa using h1
      refine Br_of (fun h2 => ?_) (fun h2 => ?_)
      · have h2 : (n : Int) < q := of_decide_eq_true h2
        rw [wrap_i64 (by omega) (by omega), emod_self_in ((in_iff hq _).1 (Fm.Fld.pow_in ok z n))]
        refine ⟨okF_f hq, hG1 _ ⟨n + 1, rfl, by omega, by omega, rfl, fun i i1 i2 => ?_⟩ (by simp only; omega)⟩
        by_cases e : i = n
        · subst e; exact h1
        · exact hn i i1 (by omega)
      · have h2 : ¬ (n : Int) < q := of_decide_eq_false h2
        exact absurd (fermat hq hz.1 hz.2 hz0) (hn (q.toNat - 1) (by omega) (by omega))
    · have h1 : (fld q).pow z n = 1 := by simpa using h1
      refine Br_nb (hord n ⟨n1, h1, fun m m1 m2 => hn m m1 m2⟩) ?_
      rw [wrap_i64 (by omega) (by omega)]
      exact hG _ ⟨by simp only; omega, by simp only; omega⟩ (by simp only; omega)
  · refine ⟨hr, hr, Br_of (fun _ => ⟨trivial, rfl⟩) (fun h1 => Br_of (fun _ => ⟨trivial, rfl⟩) (fun h2 => ?_))⟩
    have h1 : x ≠ 0 := by simpa using h1
    have h2 : y ≠ 0 := by simpa using h2
    have hg0 : Pl.gen q ≠ 0 := by omega
    obtain ⟨i, i1, i2, i3⟩ := log_spec hq hx h1
    obtain ⟨j, j1, j2, j3⟩ := log_spec hq hy h2
    have hxy : Pl.mul q x y = (fld q).pow (Pl.gen q) (i + j) := by rw [Fm.Fld.pow_add ok, i3, j3]; rfl
    have hxy0 : Pl.mul q x y ≠ 0 := by rw [hxy]; exact Fm.Fld.pow_ne ok (dom hq) ((in_iff hq _).2 hg) hg0 _
    obtain ⟨k, k1, k2, k3⟩ := log_spec hq (mul_inQ hq x y) hxy0
    rw [logV_x h1, logV_x h2, logV_x hxy0, powV_x hg0]
    simp only
    rw [i2, j2, k2]
    have hN : ((q.toNat - 1 : Nat) : Int) = q - 1 := by omega
    have hk : k = (i + j) % (q.toNat - 1) := by
      refine g5.inj ok k _ k1 (Nat.mod_lt _ (by omega)) ?_
      rw [k3, hxy]
      conv => lhs; rw [← Nat.div_add_mod (i + j) (q.toNat - 1), Fm.Fld.pow_add ok, Fm.Fld.pow_mul ok, g5.2.1, Fm.Fld.one_pow ok, Fm.Fld.one_mul ok (Fm.Fld.pow_in ok _ _)]
    have e1 : (IntKind.i64.wrap ((i : Int) + (j : Int))).tmod (q - 1) = (k : Int) := by
      rw [wrap_i64 (by omega) (by omega), Int.tmod_eq_emod_of_nonneg (by omega), hk, ← hN, Int.natCast_emod]; rfl
    have e2 : Pl.pow q (Pl.gen q) ((i : Int) % (q - 1)) = x := by
      rw [Int.emod_eq_of_lt (by omega) (by omega)]
      show (fld q).pow (Pl.gen q) (Int.toNat (i : Int)) = x
      rw [Int.toNat_natCast, i3]
    rw [e1, e2]
    exact ⟨okF_f hq, okF_f hq, okF_f hq, okF_f hq, okF_f hq, Br_eq (Br_eq (Br_eq (Br_eq ⟨by omega, Br_eq (Br_eq ⟨trivial, rfl⟩)⟩)))⟩
theorem snd7 : Sound Try.prog 7 C7 := fn_sound (T := T7) (fn := Try.f7) (tok0 ⟨snd19, snd29, snd34, snd38, snd39, snd42, snd24, trivial⟩) Try.func7 (by kernel_rfl) H7 vc7 (by kernel_rfl)
end Fd
end
section
/- Plain algebra: the p-th power keeps sums. -/
set_option linter.unusedVariables false
set_option linter.unusedSimpArgs false
set_option linter.unusedSectionVars false
namespace Fm
/-- Binomials. -/
def ch : Nat → Nat → Nat
  | 0, 0 => 1
  | 0, _ + 1 => 0
  | _ + 1, 0 => 1
  | n + 1, i + 1 => ch n i + ch n (i + 1)
theorem ch_zero (n : Nat) : ch n 0 = 1 := by cases n <;> rfl
theorem ch_lt : ∀ (n i : Nat), n < i → ch n i = 0
  | 0, 0, h => by omega
  | 0, i + 1, _ => rfl
  | n + 1, 0, h => by omega
  | n + 1, i + 1, h => by rw [ch, ch_lt n i (by omega), ch_lt n (i + 1) (by omega)]
theorem ch_self : ∀ n, ch n n = 1
  | 0 => rfl
  | n + 1 => by rw [ch, ch_self n, ch_lt n (n + 1) (by omega)]
theorem ch_mul : ∀ (n i : Nat), (i + 1) * ch (n + 1) (i + 1) = (n + 1) * ch n i
  | 0, 0 => rfl
  | 0, i + 1 => by rw [ch_lt 1 (i + 1 + 1) (by omega), ch_lt 0 (i + 1) (by omega)]; simp
  | n + 1, 0 => by
    have h := ch_mul n 0
    have e : ch (n + 1 + 1) (0 + 1) = ch (n + 1) 0 + ch (n + 1) (0 + 1) := rfl
    rw [e, ch_zero]
    rw [ch_zero] at h
    omega
  | n + 1, i + 1 => by
    have h1 := ch_mul n i
    have h2 := ch_mul n (i + 1)
    rw [ch]
    have e : ch (n + 1) (i + 1) = ch n i + ch n (i + 1) := rfl
    generalize ch (n + 1) (i + 1 + 1) = A at *
    generalize ch (n + 1) (i + 1) = B at *
    generalize ch n i = C at *
    generalize ch n (i + 1) = E at *
    subst e
    have e1 : (i + 1 + 1) * (C + E + A) = (i + 1) * (C + E) + (C + E) + (i + 1 + 1) * A := by grind
    rw [e1, h1, h2]
    grind
theorem ch_dvd {p : Nat} (hp : IsP p) {i : Nat} (h0 : 0 < i) (h1 : i < p) : p ∣ ch p i := by
  obtain ⟨j, rfl⟩ : ∃ j, i = j + 1 := ⟨i - 1, by omega⟩
  obtain ⟨n, rfl⟩ : ∃ n, p = n + 1 := ⟨p - 1, by omega⟩
  have h := ch_mul n j
  have hd : (n + 1) ∣ (j + 1) * ch (n + 1) (j + 1) := ⟨ch n j, h⟩
  rcases hp.dvd_mul hd with h2 | h2
  · have := Nat.le_of_dvd (by omega) h2
    omega
  · exact h2
namespace Fld
variable (F : Fld)
def nsm : Nat → Int → Int
  | 0, _ => 0
  | n + 1, a => F.add (nsm n a) a
/-- The sum of c(i) times a^i b^(n - i). -/
def hv (a b : Int) : (Nat → Nat) → Nat → Int
  | c, 0 => F.nsm (c 0) 1
  | c, n + 1 => F.add (F.nsm (c 0) (F.pow b (n + 1))) (F.mul a (hv a b (fun i => c (i + 1)) n))
def sh (c : Nat → Nat) : Nat → Nat
  | 0 => 0
  | i + 1 => c i
variable {F} (ok : F.Ok)
include ok
theorem nsm_in (n : Nat) (a : Int) : F.In (F.nsm n a) := by
  cases n with
  | zero => exact in0 ok
  | succ n => exact add_in ok _ _
theorem nsm_eqv (a : Int) : ∀ n : Nat, Eqv F.p F.d (dg F.p (F.nsm n a)) (smul n (dg F.p a))
  | 0 => by rw [nsm, dg0 ok, show ((0 : Nat) : Int) = 0 from rfl, zero_smul]; exact Eqv.refl _
  | n + 1 => by
    refine (add_eqv ok _ _).trans (((nsm_eqv a n).add (Eqv.refl _)).trans ?_)
    rw [show ((n + 1 : Nat) : Int) = (n : Int) + 1 from rfl, smul_add', one_smul]
    exact Eqv.refl _
theorem nsm_dvd (a : Int) {n : Nat} (h : F.p ∣ (n : Int)) : F.nsm n a = 0 := by
  rw [← num_dg' ok (nsm_in ok n a), ← num_zero ok F.d]
  refine num_congr ((nsm_eqv ok a n).trans fun i hi => ?_)
  show F.p ∣ (n : Int) * dg F.p a i - 0
  rw [Int.sub_zero]
  exact Int.dvd_mul_of_dvd_left h
theorem nsm_one {a : Int} (ha : F.In a) : F.nsm 1 a = a := by rw [nsm, nsm, zero_add ok ha]
theorem nsm_add (a : Int) (m : Nat) : ∀ n, F.nsm (m + n) a = F.add (F.nsm m a) (F.nsm n a)
  | 0 => by rw [nsm, Nat.add_zero, add_zero ok (nsm_in ok _ _)]
  | n + 1 => by rw [← Nat.add_assoc, nsm, nsm, nsm_add a m n, add_assoc ok]
theorem nsm_mul (a b : Int) : ∀ n, F.nsm n (F.mul b a) = F.mul b (F.nsm n a)
  | 0 => by rw [nsm, nsm, mul_zero ok]
  | n + 1 => by rw [nsm, nsm, nsm_mul a b n, mul_add ok]
theorem hv_add (a b : Int) : ∀ (n : Nat) (c e : Nat → Nat), F.hv a b (fun i => c i + e i) n = F.add (F.hv a b c n) (F.hv a b e n)
  | 0, c, e => nsm_add ok _ _ _
  | n + 1, c, e => by
    rw [hv, hv, hv, nsm_add ok, hv_add a b n (fun i => c (i + 1)) (fun i => e (i + 1)), mul_add ok]
    rw [add_assoc ok, add_assoc ok]
    congr 1
    rw [add_left_comm ok]
theorem hv_in (a b : Int) (n : Nat) (c : Nat → Nat) : F.In (F.hv a b c n) := by
  cases n with
  | zero => exact nsm_in ok _ _
  | succ n => exact add_in ok _ _
theorem hv_sh (a b : Int) (n : Nat) (c : Nat → Nat) : F.hv a b (sh c) (n + 1) = F.mul a (F.hv a b c n) := by
  rw [hv]
  show F.add (F.nsm 0 _) (F.mul a (F.hv a b c n)) = _
  rw [nsm, zero_add ok (mul_in ok _ _)]
theorem hv_b (a b : Int) : ∀ (n : Nat) (c : Nat → Nat), c (n + 1) = 0 → F.hv a b c (n + 1) = F.mul b (F.hv a b c n)
  | 0, c, h => by
    rw [hv, hv, hv]
    show F.add (F.nsm (c 0) (F.mul 1 b)) (F.mul a (F.nsm (c (0 + 1)) 1)) = _
    rw [h, nsm, mul_zero ok, add_zero ok (nsm_in ok _ _), mul_comm ok 1 b, nsm_mul ok]
  | n + 1, c, h => by
    rw [hv, hv_b a b n (fun i => c (i + 1)) h]
    have e : F.hv a b c (n + 1) = F.add (F.nsm (c 0) (F.pow b (n + 1))) (F.mul a (F.hv a b (fun i => c (i + 1)) n)) := rfl
    rw [e]
    show F.add (F.nsm (c 0) (F.mul (F.pow b (n + 1)) b)) _ = _
    rw [mul_comm ok (F.pow b (n + 1)) b, nsm_mul ok, mul_add ok, mul_left_comm ok a b]
theorem pow_hv (a b : Int) : ∀ n, F.pow (F.add a b) n = F.hv a b (ch n) n
  | 0 => by
    show 1 = F.nsm 1 1
    rw [nsm_one ok (in1 ok)]
  | n + 1 => by
    have e : ch (n + 1) = fun i => sh (ch n) i + ch n i := by
      funext i
      cases i with
      | zero => show 1 = 0 + ch n 0; rw [ch_zero]
      | succ i => rfl
    rw [e, hv_add ok, hv_sh ok, hv_b ok a b n _ (ch_lt n (n + 1) (by omega)), ← add_mul ok, pow, pow_hv a b n, mul_comm ok]
theorem hv_top (a b : Int) : ∀ (n : Nat) (c : Nat → Nat), (∀ i, i < n → F.p ∣ (c i : Int)) → c n = 1 → F.hv a b c n = F.pow a n
  | 0, c, _, h => by rw [hv, h, nsm_one ok (in1 ok)]; rfl
  | n + 1, c, hc, h => by
    rw [hv, nsm_dvd ok _ (hc 0 (by omega)), hv_top a b n _ (fun i hi => hc (i + 1) (by omega)) h, zero_add ok (mul_in ok _ _), mul_comm ok]
    rfl
/-- The p-th power of a sum. -/
theorem frob {p : Nat} (hp : IsP p) (hF : F.p = p) (a b : Int) : F.pow (F.add a b) p = F.add (F.pow a p) (F.pow b p) := by
  rw [pow_hv ok]
  obtain ⟨n, rfl⟩ : ∃ n, p = n + 1 := ⟨p - 1, by have := hp.1; omega⟩
  rw [hv, ch_zero, nsm_one ok (pow_in ok _ _), hv_top ok a b n _ (fun i hi => ?_) (ch_self (n + 1)), add_comm ok]
  · congr 1
    rw [mul_comm ok]; rfl
  · rw [hF]
    exact Int.natCast_dvd_natCast.2 (ch_dvd hp (by omega) (by omega))
end Fld
end Fm
end
section
/- FieldLaws: contract, and what it needs. -/
set_option linter.unusedVariables false
set_option linter.unusedSimpArgs false
set_option maxRecDepth 100000
namespace Fd
open Go Fw Go.Proofs

abbrev G3 : Ar := .ty (.pair i64 (.pair i64 (.pair i64 .unit)))
noncomputable def T10 : Ctx := TT [(19, C19), (29, C29), (30, C30), (32, C32), (34, C34), (36, C36), (38, C38), (51, C51), (52, C52), (24, C24)]
def C10 : Con := ⟨[I, G3], [B], fun _ => True, fun _ => (true, ()), none⟩
def H10 : Hints := lo [(0, ⟨[5, 7, 8, 12, 13, 14], [(15, si), (16, si)]⟩), (2, ⟨[5, 7, 8, 12, 15], [(14, si), (17, si)]⟩)]
theorem pow_mod {q x : Int} (hq : isQ q) (hx : Pl.inQ q x) (h0 : x ≠ 0) (n : Nat) : Pl.pow q x ((n : Int) % (q - 1)) = (fld q).pow x n := by
  have ok := fld_ok hq
  have q2 := hq.1
  have hN : ((q.toNat - 1 : Nat) : Int) = q - 1 := by omega
  have hf := fermat hq hx.1 hx.2 h0
  unfold Pl.pow
  rw [← hN, ← Int.natCast_emod, Int.toNat_natCast]
  conv => rhs; rw [← Nat.div_add_mod n (q.toNat - 1), Fm.Fld.pow_add ok, Fm.Fld.pow_mul ok, hf, Fm.Fld.one_pow ok, Fm.Fld.one_mul ok (Fm.Fld.pow_in ok _ _)]
theorem powV_p {q x : Int} (hq : isQ q) (hx : Pl.inQ q x) {n : Nat} (hn : 0 < n) : Pl.powV q x (n : Int) = ((fld q).pow x n, 0) := by
  by_cases h0 : x = 0
  · subst h0
    rw [powV_z (by omega), Fm.Fld.zero_pow (fld_ok hq) hn]
  · rw [powV_x h0, pow_mod hq hx h0]
theorem pow_q {q x : Int} (hq : isQ q) (hx : Pl.inQ q x) : (fld q).pow x q.toNat = x := by
  have ok := fld_ok hq
  have q2 := hq.1
  by_cases h0 : x = 0
  · subst h0; exact Fm.Fld.zero_pow ok (by omega)
  · rw [show q.toNat = (q.toNat - 1) + 1 by omega, Fm.Fld.pow, fermat hq hx.1 hx.2 h0, Fm.Fld.one_mul ok ((in_iff hq x).2 hx)]
theorem frob_q {q : Int} (hq : isQ q) (a b : Int) : (fld q).pow (Pl.add q a b) (Pl.lpf q).toNat = Pl.add q ((fld q).pow a (Pl.lpf q).toNat) ((fld q).pow b (Pl.lpf q).toNat) :=
  Fm.Fld.frob (fld_ok hq) hq.prime.nat (by show Pl.lpf q = _; exact (isQ.natp hq).symm) a b
theorem nsm_p {q : Int} (hq : isQ q) (a : Int) : (fld q).nsm (Pl.lpf q).toNat a = 0 :=
  Fm.Fld.nsm_dvd (fld_ok hq) a (by show Pl.lpf q ∣ _; rw [isQ.natp hq]; exact Int.dvd_refl _)
end Fd
end
section
/- FieldLaws. -/
set_option linter.unusedVariables false
set_option linter.unusedSimpArgs false
set_option maxRecDepth 100000
namespace Fd
open Go Fw Go.Proofs

theorem Br_ne2 {a b : Int} {p r : Prop} (e : a = b) (h : r) : Br (a != b) p r := by subst e; exact Br_ne h
theorem Br_eq2 {a b : Int} {p r : Prop} (e : a = b) (h : p) : Br (a == b) p r := by subst e; exact Br_eq h
theorem Br_two {c : Bool} {p r : Prop} (h : r) (f : c = true → r → p) : Br c p r := Br_of (fun e => f e h) (fun _ => h)
section
variable {q : Int} (hq : isQ q)
include hq
theorem mul_inv {b : Int} (hb : Pl.inQ q b) (h0 : b ≠ 0) : Pl.mul q b (Pl.inv q b) = 1 := by
  have ok := fld_ok hq
  have q2 := hq.1
  show (fld q).mul b ((fld q).pow b (q - 2).toNat) = 1
  rw [Fm.Fld.mul_comm ok]
  show (fld q).pow b ((q - 2).toNat + 1) = 1
  rw [show (q - 2).toNat + 1 = q.toNat - 1 by omega, fermat hq hb.1 hb.2 h0]
theorem add_sub_cancel {a : Int} (ha : Pl.inQ q a) (b : Int) : Pl.sub q (Pl.add q a b) b = a := by
  have ok := fld_ok hq
  show (fld q).sub ((fld q).add a b) b = a
  rw [Fm.Fld.sub_eq ok, Fm.Fld.add_assoc ok, Fm.Fld.add_neg ok, Fm.Fld.add_zero ok ((in_iff hq a).2 ha)]
theorem mul_div_cancel {a b : Int} (ha : Pl.inQ q a) (hb : Pl.inQ q b) (h0 : b ≠ 0) : Pl.div q (Pl.mul q a b) b = (a, 0) := by
  have ok := fld_ok hq
  unfold Pl.div
  rw [decide_eq_false h0, cond_false]
  have : Pl.mul q (Pl.mul q a b) (Pl.inv q b) = a := by
    have h1 : Pl.mul q (Pl.mul q a b) (Pl.inv q b) = Pl.mul q a (Pl.mul q b (Pl.inv q b)) := Fm.Fld.mul_assoc ok _ _ _
    rw [h1, mul_inv hq hb h0]
    exact Fm.Fld.mul_one ok ((in_iff hq a).2 ha)
  rw [this]
end
theorem vc10 : ∀ x, C10.pre x → VC T10 H10 Try.f10 C10 x := by
  rintro ⟨(o : Int), ⟨(a : Int), (b : Int), (c : Int), ⟨⟩⟩, ⟨⟩⟩ -
  refine cast (α := True ∧ Pl.okr (Pl.someQ o (65536 : Int), Pl.lpf (Pl.someQ o (65536 : Int)), Pl.K (Pl.someQ o (65536 : Int)), Pl.Mod (Pl.someQ o (65536 : Int)), ()) ∧ Pl.okr (Pl.someQ o (65536 : Int), Pl.lpf (Pl.someQ o (65536 : Int)), Pl.K (Pl.someQ o (65536 : Int)), Pl.Mod (Pl.someQ o (65536 : Int)), ()) ∧ Pl.okr (Pl.someQ o (65536 : Int), Pl.lpf (Pl.someQ o (65536 : Int)), Pl.K (Pl.someQ o (65536 : Int)), Pl.Mod (Pl.someQ o (65536 : Int)), ()) ∧ Pl.okF (D.rptr (fieldC (Pl.someQ o (65536 : Int)))) ∧ Pl.okF (D.rptr (fieldC (Pl.someQ o (65536 : Int)))) ∧ Br (Pl.add (Pl.qF (D.rptr (fieldC (Pl.someQ o (65536 : Int))))) (a % Pl.someQ o (65536 : Int) % Pl.qF (D.rptr (fieldC (Pl.someQ o (65536 : Int))))) (b % Pl.someQ o (65536 : Int) % Pl.qF (D.rptr (fieldC (Pl.someQ o (65536 : Int))))) != Pl.add (Pl.qF (D.rptr (fieldC (Pl.someQ o (65536 : Int))))) (b % Pl.someQ o (65536 : Int) % Pl.qF (D.rptr (fieldC (Pl.someQ o (65536 : Int))))) (a % Pl.someQ o (65536 : Int) % Pl.qF (D.rptr (fieldC (Pl.someQ o (65536 : Int)))))) ((false, ()) = C10.post (o, (a, b, c, ()), ())) (Pl.okF (D.rptr (fieldC (Pl.someQ o (65536 : Int)))) ∧ Pl.okF (D.rptr (fieldC (Pl.someQ o (65536 : Int)))) ∧ Br (Pl.mul (Pl.qF (D.rptr (fieldC (Pl.someQ o (65536 : Int))))) (a % Pl.someQ o (65536 : Int) % Pl.qF (D.rptr (fieldC (Pl.someQ o (65536 : Int))))) (b % Pl.someQ o (65536 : Int) % Pl.qF (D.rptr (fieldC (Pl.someQ o (65536 : Int))))) != Pl.mul (Pl.qF (D.rptr (fieldC (Pl.someQ o (65536 : Int))))) (b % Pl.someQ o (65536 : Int) % Pl.qF (D.rptr (fieldC (Pl.someQ o (65536 : Int))))) (a % Pl.someQ o (65536 : Int) % Pl.qF (D.rptr (fieldC (Pl.someQ o (65536 : Int)))))) ((false, ()) = C10.post (o, (a, b, c, ()), ())) (Pl.okF (D.rptr (fieldC (Pl.someQ o (65536 : Int)))) ∧ Pl.okF (D.rptr (fieldC (Pl.someQ o (65536 : Int)))) ∧ Pl.okF (D.rptr (fieldC (Pl.someQ o (65536 : Int)))) ∧ Pl.okF (D.rptr (fieldC (Pl.someQ o (65536 : Int)))) ∧ Br (Pl.add (Pl.qF (D.rptr (fieldC (Pl.someQ o (65536 : Int))))) (Pl.add (Pl.qF (D.rptr (fieldC (Pl.someQ o (65536 : Int))))) (a % Pl.someQ o (65536 : Int) % Pl.qF (D.rptr (fieldC (Pl.someQ o (65536 : Int))))) (b % Pl.someQ o (65536 : Int) % Pl.qF (D.rptr (fieldC (Pl.someQ o (65536 : Int))))) % Pl.qF (D.rptr (fieldC (Pl.someQ o (65536 : Int))))) (c % Pl.someQ o (65536 : Int) % Pl.qF (D.rptr (fieldC (Pl.someQ o (65536 : Int))))) != Pl.add (Pl.qF (D.rptr (fieldC (Pl.someQ o (65536 : Int))))) (a % Pl.someQ o (65536 : Int) % Pl.qF (D.rptr (fieldC (Pl.someQ o (65536 : Int))))) (Pl.add (Pl.qF (D.rptr (fieldC (Pl.someQ o (65536 : Int))))) (b % Pl.someQ o (65536 : Int) % Pl.qF (D.rptr (fieldC (Pl.someQ o (65536 : Int))))) (c % Pl.someQ o (65536 : Int) % Pl.qF (D.rptr (fieldC (Pl.someQ o (65536 : Int))))) % Pl.qF (D.rptr (fieldC (Pl.someQ o (65536 : Int)))))) ((false, ()) = C10.post (o, (a, b, c, ()), ())) (Pl.okF (D.rptr (fieldC (Pl.someQ o (65536 : Int)))) ∧ Pl.okF (D.rptr (fieldC (Pl.someQ o (65536 : Int)))) ∧ Pl.okF (D.rptr (fieldC (Pl.someQ o (65536 : Int)))) ∧ Pl.okF (D.rptr (fieldC (Pl.someQ o (65536 : Int)))) ∧ Br (Pl.mul (Pl.qF (D.rptr (fieldC (Pl.someQ o (65536 : Int))))) (Pl.mul (Pl.qF (D.rptr (fieldC (Pl.someQ o (65536 : Int))))) (a % Pl.someQ o (65536 : Int) % Pl.qF (D.rptr (fieldC (Pl.someQ o (65536 : Int))))) (b % Pl.someQ o (65536 : Int) % Pl.qF (D.rptr (fieldC (Pl.someQ o (65536 : Int))))) % Pl.qF (D.rptr (fieldC (Pl.someQ o (65536 : Int))))) (c % Pl.someQ o (65536 : Int) % Pl.qF (D.rptr (fieldC (Pl.someQ o (65536 : Int))))) != Pl.mul (Pl.qF (D.rptr (fieldC (Pl.someQ o (65536 : Int))))) (a % Pl.someQ o (65536 : Int) % Pl.qF (D.rptr (fieldC (Pl.someQ o (65536 : Int))))) (Pl.mul (Pl.qF (D.rptr (fieldC (Pl.someQ o (65536 : Int))))) (b % Pl.someQ o (65536 : Int) % Pl.qF (D.rptr (fieldC (Pl.someQ o (65536 : Int))))) (c % Pl.someQ o (65536 : Int) % Pl.qF (D.rptr (fieldC (Pl.someQ o (65536 : Int))))) % Pl.qF (D.rptr (fieldC (Pl.someQ o (65536 : Int)))))) ((false, ()) = C10.post (o, (a, b, c, ()), ())) (Pl.okF (D.rptr (fieldC (Pl.someQ o (65536 : Int)))) ∧ Pl.okF (D.rptr (fieldC (Pl.someQ o (65536 : Int)))) ∧ Pl.okF (D.rptr (fieldC (Pl.someQ o (65536 : Int)))) ∧ Pl.okF (D.rptr (fieldC (Pl.someQ o (65536 : Int)))) ∧ Pl.okF (D.rptr (fieldC (Pl.someQ o (65536 : Int)))) ∧ Br (Pl.mul (Pl.qF (D.rptr (fieldC (Pl.someQ o (65536 : Int))))) (a % Pl.someQ o (65536 : Int) % Pl.qF (D.rptr (fieldC (Pl.someQ o (65536 : Int))))) (Pl.add (Pl.qF (D.rptr (fieldC (Pl.someQ o (65536 : Int))))) (b % Pl.someQ o (65536 : Int) % Pl.qF (D.rptr (fieldC (Pl.someQ o (65536 : Int))))) (c % Pl.someQ o (65536 : Int) % Pl.qF (D.rptr (fieldC (Pl.someQ o (65536 : Int))))) % Pl.qF (D.rptr (fieldC (Pl.someQ o (65536 : Int))))) != Pl.add (Pl.qF (D.rptr (fieldC (Pl.someQ o (65536 : Int))))) (Pl.mul (Pl.qF (D.rptr (fieldC (Pl.someQ o (65536 : Int))))) (a % Pl.someQ o (65536 : Int) % Pl.qF (D.rptr (fieldC (Pl.someQ o (65536 : Int))))) (b % Pl.someQ o (65536 : Int) % Pl.qF (D.rptr (fieldC (Pl.someQ o (65536 : Int))))) % Pl.qF (D.rptr (fieldC (Pl.someQ o (65536 : Int))))) (Pl.mul (Pl.qF (D.rptr (fieldC (Pl.someQ o (65536 : Int))))) (a % Pl.someQ o (65536 : Int) % Pl.qF (D.rptr (fieldC (Pl.someQ o (65536 : Int))))) (c % Pl.someQ o (65536 : Int) % Pl.qF (D.rptr (fieldC (Pl.someQ o (65536 : Int))))) % Pl.qF (D.rptr (fieldC (Pl.someQ o (65536 : Int)))))) ((false, ()) = C10.post (o, (a, b, c, ()), ())) (Pl.okF (D.rptr (fieldC (Pl.someQ o (65536 : Int)))) ∧ Br (Pl.add (Pl.qF (D.rptr (fieldC (Pl.someQ o (65536 : Int))))) (a % Pl.someQ o (65536 : Int) % Pl.qF (D.rptr (fieldC (Pl.someQ o (65536 : Int))))) ((0 : Int) % Pl.qF (D.rptr (fieldC (Pl.someQ o (65536 : Int))))) != a % Pl.someQ o (65536 : Int)) ((false, ()) = C10.post (o, (a, b, c, ()), ())) (Pl.okF (D.rptr (fieldC (Pl.someQ o (65536 : Int)))) ∧ Br (Pl.mul (Pl.qF (D.rptr (fieldC (Pl.someQ o (65536 : Int))))) (a % Pl.someQ o (65536 : Int) % Pl.qF (D.rptr (fieldC (Pl.someQ o (65536 : Int))))) ((1 : Int) % Pl.qF (D.rptr (fieldC (Pl.someQ o (65536 : Int))))) != a % Pl.someQ o (65536 : Int)) ((false, ()) = C10.post (o, (a, b, c, ()), ())) (Pl.okF (D.rptr (fieldC (Pl.someQ o (65536 : Int)))) ∧ Pl.okF (D.rptr (fieldC (Pl.someQ o (65536 : Int)))) ∧ Br (Pl.sub (Pl.qF (D.rptr (fieldC (Pl.someQ o (65536 : Int))))) (Pl.add (Pl.qF (D.rptr (fieldC (Pl.someQ o (65536 : Int))))) (a % Pl.someQ o (65536 : Int) % Pl.qF (D.rptr (fieldC (Pl.someQ o (65536 : Int))))) (b % Pl.someQ o (65536 : Int) % Pl.qF (D.rptr (fieldC (Pl.someQ o (65536 : Int))))) % Pl.qF (D.rptr (fieldC (Pl.someQ o (65536 : Int))))) (b % Pl.someQ o (65536 : Int) % Pl.qF (D.rptr (fieldC (Pl.someQ o (65536 : Int))))) != a % Pl.someQ o (65536 : Int)) ((false, ()) = C10.post (o, (a, b, c, ()), ())) (Br (b % Pl.someQ o (65536 : Int) != (0 : Int)) (Pl.okF (D.rptr (fieldC (Pl.someQ o (65536 : Int)))) ∧ Pl.okF (D.rptr (fieldC (Pl.someQ o (65536 : Int)))) ∧ Br ((Pl.div (Pl.qF (D.rptr (fieldC (Pl.someQ o (65536 : Int))))) (Pl.mul (Pl.qF (D.rptr (fieldC (Pl.someQ o (65536 : Int))))) (a % Pl.someQ o (65536 : Int) % Pl.qF (D.rptr (fieldC (Pl.someQ o (65536 : Int))))) (b % Pl.someQ o (65536 : Int) % Pl.qF (D.rptr (fieldC (Pl.someQ o (65536 : Int))))) % Pl.qF (D.rptr (fieldC (Pl.someQ o (65536 : Int))))) (b % Pl.someQ o (65536 : Int) % Pl.qF (D.rptr (fieldC (Pl.someQ o (65536 : Int)))))).snd != (0 : Int)) ((false, ()) = C10.post (o, (a, b, c, ()), ())) (Br ((Pl.div (Pl.qF (D.rptr (fieldC (Pl.someQ o (65536 : Int))))) (Pl.mul (Pl.qF (D.rptr (fieldC (Pl.someQ o (65536 : Int))))) (a % Pl.someQ o (65536 : Int) % Pl.qF (D.rptr (fieldC (Pl.someQ o (65536 : Int))))) (b % Pl.someQ o (65536 : Int) % Pl.qF (D.rptr (fieldC (Pl.someQ o (65536 : Int))))) % Pl.qF (D.rptr (fieldC (Pl.someQ o (65536 : Int))))) (b % Pl.someQ o (65536 : Int) % Pl.qF (D.rptr (fieldC (Pl.someQ o (65536 : Int)))))).fst != a % Pl.someQ o (65536 : Int)) ((false, ()) = C10.post (o, (a, b, c, ()), ())) (Pl.okF (D.rptr (fieldC (Pl.someQ o (65536 : Int)))) ∧ ∃ (n : Nat), itl (fun (G : Int × Int × PUnit → Prop) (x : Int × Int × PUnit) => Br (decide (x.snd.fst < Pl.K (Pl.qF (D.rptr (fieldC (Pl.someQ o (65536 : Int))))))) (G (IntKind.i64.wrap (x.fst * Pl.lpf (Pl.qF (D.rptr (fieldC (Pl.someQ o (65536 : Int)))))), IntKind.i64.wrap (x.snd.fst + (1 : Int)), ())) (∃ (n : Nat), itl (fun (G : Int × Int × PUnit → Prop) (x_1 : Int × Int × PUnit) => Br (decide (x_1.snd.fst < Pl.lpf (Pl.qF (D.rptr (fieldC (Pl.someQ o (65536 : Int))))))) (Pl.okF (D.rptr (fieldC (Pl.someQ o (65536 : Int)))) ∧ G (Pl.add (Pl.qF (D.rptr (fieldC (Pl.someQ o (65536 : Int))))) (x_1.fst % Pl.qF (D.rptr (fieldC (Pl.someQ o (65536 : Int))))) (a % Pl.someQ o (65536 : Int) % Pl.qF (D.rptr (fieldC (Pl.someQ o (65536 : Int))))), IntKind.i64.wrap (x_1.snd.fst + (1 : Int)), ())) (Pl.okF (D.rptr (fieldC (Pl.someQ o (65536 : Int)))) ∧ Pl.okF (D.rptr (fieldC (Pl.someQ o (65536 : Int)))) ∧ Pl.okF (D.rptr (fieldC (Pl.someQ o (65536 : Int)))) ∧ Pl.okF (D.rptr (fieldC (Pl.someQ o (65536 : Int)))) ∧ Pl.okF (D.rptr (fieldC (Pl.someQ o (65536 : Int)))) ∧ Pl.okF (D.rptr (fieldC (Pl.someQ o (65536 : Int)))) ∧ Br (x.fst == Pl.qF (D.rptr (fieldC (Pl.someQ o (65536 : Int))))) (Br (x_1.fst == (0 : Int)) (Br ((Pl.powV (Pl.qF (D.rptr (fieldC (Pl.someQ o (65536 : Int))))) (a % Pl.someQ o (65536 : Int) % Pl.qF (D.rptr (fieldC (Pl.someQ o (65536 : Int))))) x.fst).snd == (0 : Int)) (Br ((Pl.powV (Pl.qF (D.rptr (fieldC (Pl.someQ o (65536 : Int))))) (Pl.add (Pl.qF (D.rptr (fieldC (Pl.someQ o (65536 : Int))))) (a % Pl.someQ o (65536 : Int) % Pl.qF (D.rptr (fieldC (Pl.someQ o (65536 : Int))))) (b % Pl.someQ o (65536 : Int) % Pl.qF (D.rptr (fieldC (Pl.someQ o (65536 : Int))))) % Pl.qF (D.rptr (fieldC (Pl.someQ o (65536 : Int))))) (Pl.lpf (Pl.qF (D.rptr (fieldC (Pl.someQ o (65536 : Int))))))).snd == (0 : Int)) (Br ((Pl.powV (Pl.qF (D.rptr (fieldC (Pl.someQ o (65536 : Int))))) (a % Pl.someQ o (65536 : Int) % Pl.qF (D.rptr (fieldC (Pl.someQ o (65536 : Int))))) (Pl.lpf (Pl.qF (D.rptr (fieldC (Pl.someQ o (65536 : Int))))))).snd == (0 : Int)) (Br ((Pl.powV (Pl.qF (D.rptr (fieldC (Pl.someQ o (65536 : Int))))) (b % Pl.someQ o (65536 : Int) % Pl.qF (D.rptr (fieldC (Pl.someQ o (65536 : Int))))) (Pl.lpf (Pl.qF (D.rptr (fieldC (Pl.someQ o (65536 : Int))))))).snd == (0 : Int)) (Br ((Pl.powV (Pl.qF (D.rptr (fieldC (Pl.someQ o (65536 : Int))))) (a % Pl.someQ o (65536 : Int) % Pl.qF (D.rptr (fieldC (Pl.someQ o (65536 : Int))))) x.fst).fst == a % Pl.someQ o (65536 : Int)) (Pl.okF (D.rptr (fieldC (Pl.someQ o (65536 : Int)))) ∧ Br ((Pl.powV (Pl.qF (D.rptr (fieldC (Pl.someQ o (65536 : Int))))) (Pl.add (Pl.qF (D.rptr (fieldC (Pl.someQ o (65536 : Int))))) (a % Pl.someQ o (65536 : Int) % Pl.qF (D.rptr (fieldC (Pl.someQ o (65536 : Int))))) (b % Pl.someQ o (65536 : Int) % Pl.qF (D.rptr (fieldC (Pl.someQ o (65536 : Int))))) % Pl.qF (D.rptr (fieldC (Pl.someQ o (65536 : Int))))) (Pl.lpf (Pl.qF (D.rptr (fieldC (Pl.someQ o (65536 : Int))))))).fst == Pl.add (Pl.qF (D.rptr (fieldC (Pl.someQ o (65536 : Int))))) ((Pl.powV (Pl.qF (D.rptr (fieldC (Pl.someQ o (65536 : Int))))) (a % Pl.someQ o (65536 : Int) % Pl.qF (D.rptr (fieldC (Pl.someQ o (65536 : Int))))) (Pl.lpf (Pl.qF (D.rptr (fieldC (Pl.someQ o (65536 : Int))))))).fst % Pl.qF (D.rptr (fieldC (Pl.someQ o (65536 : Int))))) ((Pl.powV (Pl.qF (D.rptr (fieldC (Pl.someQ o (65536 : Int))))) (b % Pl.someQ o (65536 : Int) % Pl.qF (D.rptr (fieldC (Pl.someQ o (65536 : Int))))) (Pl.lpf (Pl.qF (D.rptr (fieldC (Pl.someQ o (65536 : Int))))))).fst % Pl.qF (D.rptr (fieldC (Pl.someQ o (65536 : Int)))))) (True ∧ (true, ()) = C10.post (o, (a, b, c, ()), ())) ((false, ()) = C10.post (o, (a, b, c, ()), ()))) ((false, ()) = C10.post (o, (a, b, c, ()), ()))) ((false, ()) = C10.post (o, (a, b, c, ()), ()))) ((false, ()) = C10.post (o, (a, b, c, ()), ()))) ((false, ()) = C10.post (o, (a, b, c, ()), ()))) ((false, ()) = C10.post (o, (a, b, c, ()), ()))) ((false, ()) = C10.post (o, (a, b, c, ()), ()))) ((false, ()) = C10.post (o, (a, b, c, ()), ())))) n ((0 : Int), (0 : Int), ()))) n ((1 : Int), (0 : Int), ())))) (Pl.okF (D.rptr (fieldC (Pl.someQ o (65536 : Int)))) ∧ ∃ (n : Nat), itl (fun (G : Int × Int × PUnit → Prop) (x : Int × Int × PUnit) => Br (decide (x.snd.fst < Pl.K (Pl.qF (D.rptr (fieldC (Pl.someQ o (65536 : Int))))))) (G (IntKind.i64.wrap (x.fst * Pl.lpf (Pl.qF (D.rptr (fieldC (Pl.someQ o (65536 : Int)))))), IntKind.i64.wrap (x.snd.fst + (1 : Int)), ())) (∃ (n : Nat), itl (fun (G : Int × Int × PUnit → Prop) (x_1 : Int × Int × PUnit) => Br (decide (x_1.snd.fst < Pl.lpf (Pl.qF (D.rptr (fieldC (Pl.someQ o (65536 : Int))))))) (Pl.okF (D.rptr (fieldC (Pl.someQ o (65536 : Int)))) ∧ G (Pl.add (Pl.qF (D.rptr (fieldC (Pl.someQ o (65536 : Int))))) (x_1.fst % Pl.qF (D.rptr (fieldC (Pl.someQ o (65536 : Int))))) (a % Pl.someQ o (65536 : Int) % Pl.qF (D.rptr (fieldC (Pl.someQ o (65536 : Int))))), IntKind.i64.wrap (x_1.snd.fst + (1 : Int)), ())) (Pl.okF (D.rptr (fieldC (Pl.someQ o (65536 : Int)))) ∧ Pl.okF (D.rptr (fieldC (Pl.someQ o (65536 : Int)))) ∧ Pl.okF (D.rptr (fieldC (Pl.someQ o (65536 : Int)))) ∧ Pl.okF (D.rptr (fieldC (Pl.someQ o (65536 : Int)))) ∧ Pl.okF (D.rptr (fieldC (Pl.someQ o (65536 : Int)))) ∧ Pl.okF (D.rptr (fieldC (Pl.someQ o (65536 : Int)))) ∧ Br (x.fst == Pl.qF (D.rptr (fieldC (Pl.someQ o (65536 : Int))))) (Br (x_1.fst == (0 : Int)) (Br ((Pl.powV (Pl.qF (D.rptr (fieldC (Pl.someQ o (65536 : Int))))) (a % Pl.someQ o (65536 : Int) % Pl.qF (D.rptr (fieldC (Pl.someQ o (65536 : Int))))) x.fst).snd == (0 : Int)) (Br ((Pl.powV (Pl.qF (D.rptr (fieldC (Pl.someQ o (65536 : Int))))) (Pl.add (Pl.qF (D.rptr (fieldC (Pl.someQ o (65536 : Int))))) (a % Pl.someQ o (65536 : Int) % Pl.qF (D.rptr (fieldC (Pl.someQ o (65536 : Int))))) (b % Pl.someQ o (65536 : Int) % Pl.qF (D.rptr (fieldC (Pl.someQ o (65536 : Int))))) % Pl.qF (D.rptr (fieldC (Pl.someQ o (65536 : Int))))) (Pl.lpf (Pl.qF (D.rptr (fieldC (Pl.someQ o (65536 : Int))))))).snd == (0 : Int)) (Br ((Pl.powV (Pl.qF (D.rptr (fieldC (Pl.someQ o (65536 : Int))))) (a % Pl.someQ o (65536 : Int) % Pl.qF (D.rptr (fieldC (Pl.someQ o (65536 : Int))))) (Pl.lpf (Pl.qF (D.rptr (fieldC (Pl.someQ o (65536 : Int))))))).snd == (0 : Int)) (Br ((Pl.powV (Pl.qF (D.rptr (fieldC (Pl.someQ o (65536 : Int))))) (b % Pl.someQ o (65536 : Int) % Pl.qF (D.rptr (fieldC (Pl.someQ o (65536 : Int))))) (Pl.lpf (Pl.qF (D.rptr (fieldC (Pl.someQ o (65536 : Int))))))).snd == (0 : Int)) (Br ((Pl.powV (Pl.qF (D.rptr (fieldC (Pl.someQ o (65536 : Int))))) (a % Pl.someQ o (65536 : Int) % Pl.qF (D.rptr (fieldC (Pl.someQ o (65536 : Int))))) x.fst).fst == a % Pl.someQ o (65536 : Int)) (Pl.okF (D.rptr (fieldC (Pl.someQ o (65536 : Int)))) ∧ Br ((Pl.powV (Pl.qF (D.rptr (fieldC (Pl.someQ o (65536 : Int))))) (Pl.add (Pl.qF (D.rptr (fieldC (Pl.someQ o (65536 : Int))))) (a % Pl.someQ o (65536 : Int) % Pl.qF (D.rptr (fieldC (Pl.someQ o (65536 : Int))))) (b % Pl.someQ o (65536 : Int) % Pl.qF (D.rptr (fieldC (Pl.someQ o (65536 : Int))))) % Pl.qF (D.rptr (fieldC (Pl.someQ o (65536 : Int))))) (Pl.lpf (Pl.qF (D.rptr (fieldC (Pl.someQ o (65536 : Int))))))).fst == Pl.add (Pl.qF (D.rptr (fieldC (Pl.someQ o (65536 : Int))))) ((Pl.powV (Pl.qF (D.rptr (fieldC (Pl.someQ o (65536 : Int))))) (a % Pl.someQ o (65536 : Int) % Pl.qF (D.rptr (fieldC (Pl.someQ o (65536 : Int))))) (Pl.lpf (Pl.qF (D.rptr (fieldC (Pl.someQ o (65536 : Int))))))).fst % Pl.qF (D.rptr (fieldC (Pl.someQ o (65536 : Int))))) ((Pl.powV (Pl.qF (D.rptr (fieldC (Pl.someQ o (65536 : Int))))) (b % Pl.someQ o (65536 : Int) % Pl.qF (D.rptr (fieldC (Pl.someQ o (65536 : Int))))) (Pl.lpf (Pl.qF (D.rptr (fieldC (Pl.someQ o (65536 : Int))))))).fst % Pl.qF (D.rptr (fieldC (Pl.someQ o (65536 : Int)))))) (True ∧ (true, ()) = C10.post (o, (a, b, c, ()), ())) ((false, ()) = C10.post (o, (a, b, c, ()), ()))) ((false, ()) = C10.post (o, (a, b, c, ()), ()))) ((false, ()) = C10.post (o, (a, b, c, ()), ()))) ((false, ()) = C10.post (o, (a, b, c, ()), ()))) ((false, ()) = C10.post (o, (a, b, c, ()), ()))) ((false, ()) = C10.post (o, (a, b, c, ()), ()))) ((false, ()) = C10.post (o, (a, b, c, ()), ()))) ((false, ()) = C10.post (o, (a, b, c, ()), ())))) n ((0 : Int), (0 : Int), ()))) n ((1 : Int), (0 : Int), ()))))))))))) (by kernel_rfl) ?_
  have hq := someQ_isQ o 65536
  generalize Pl.someQ o 65536 = q at *
  rw [qF_f]
  have hr : Pl.okr (q, Pl.lpf q, Pl.K q, Pl.Mod q, ()) := okr_RF hq
  have hA := emod_inQ hq a
  have hB := emod_inQ hq b
  have hC := emod_inQ hq c
  have hp : C10.post (o, (a, b, c, ()), ()) = (true, ()) := rfl
  rw [hp]
  generalize a % q = A at *
  generalize b % q = B at *
  generalize c % q = C at *
  have ok := fld_ok hq
  have oF := okF_f hq
  have q2 := hq.1
  have q6 := hq.2.1
  have hAB := add_inQ hq A B
  have iA := (in_iff hq A).2 hA
  rw [emod_self_in hA, emod_self_in hB, emod_self_in hC, emod_self_in hAB, emod_self_in (mul_inQ hq A B), emod_self_in (add_inQ hq B C), emod_self_in (mul_inQ hq B C), emod_self_in (mul_inQ hq A C), Int.zero_emod, Int.emod_eq_of_lt (show (0 : Int) ≤ 1 by omega) (show (1 : Int) < q by omega)]
  have hl2 := hq.prime.1
  have hl6 := (lpf_spec q2 q6).2.1
  have hpow := hq.pow
  have hK1 := hq.2.2
  have pq : Pl.powV q A q = (A, 0) := by
    have h := powV_p hq hA (n := q.toNat) (by omega)
    rw [Int.toNat_of_nonneg (by omega), pow_q hq hA] at h
    exact h
  have pp : ∀ x, Pl.inQ q x → Pl.powV q x (Pl.lpf q) = ((fld q).pow x (Pl.lpf q).toNat, 0) := fun x hx => by
    have h := powV_p hq hx (n := (Pl.lpf q).toNat) (by omega)
    rw [Int.toNat_of_nonneg (by omega)] at h
    exact h
  have pin : ∀ x, (fld q).pow x (Pl.lpf q).toNat % q = (fld q).pow x (Pl.lpf q).toNat := fun x => emod_self_in ((in_iff hq _).1 (Fm.Fld.pow_in ok _ _))
  rw [pp A hA, pp B hB, pp _ hAB]
  simp only [pin]
  refine ⟨trivial, hr, hr, hr, oF, oF, Br_ne2 (Fm.Fld.add_comm ok A B) ⟨oF, oF, Br_ne2 (Fm.Fld.mul_comm ok A B) ⟨oF, oF, oF, oF, Br_ne2 (Fm.Fld.add_assoc ok A B C) ⟨oF, oF, oF, oF, Br_ne2 (Fm.Fld.mul_assoc ok A B C) ⟨oF, oF, oF, oF, oF, Br_ne2 (Fm.Fld.mul_add ok A B C) ⟨oF, Br_ne2 (Fm.Fld.add_zero ok iA) ⟨oF, Br_ne2 (Fm.Fld.mul_one ok iA)
    ⟨oF, oF, Br_ne2 (add_sub_cancel hq hA B) (Br_two ⟨oF, ?_⟩ (fun h R => ?_))⟩⟩⟩⟩⟩⟩⟩⟩
  · refine itl_rule (fun s => ∃ i : Nat, s.2.1 = (i : Int) ∧ i ≤ (Pl.K q).toNat ∧ s.1 = Pl.lpf q ^ i) (fun s => (Pl.K q - s.2.1).toNat) ⟨0, rfl, Nat.zero_le _, (Int.pow_zero _).symm⟩ ?_
    rintro ⟨n, i0, ⟨⟩⟩ G ⟨i, e1, hi, e2⟩ hG
    simp only at e1 e2 hG ⊢
    subst e1 e2
    refine Br_of (fun h => ?_) (fun h => ?_)
    · have h : (i : Int) < Pl.K q := of_decide_eq_true h
      have h1 : Pl.lpf q ^ (i + 1) ≤ Pl.lpf q ^ (Pl.K q).toNat := pow_mono hl2 (by omega)
      have h0 : 0 < Pl.lpf q ^ i := Int.pow_pos (by omega)
      have h2 : Pl.lpf q ^ (i + 1) = Pl.lpf q ^ i * Pl.lpf q := Int.pow_succ _ _
      have h3 : 0 < Pl.lpf q ^ (i + 1) := Int.pow_pos (by omega)
      rw [← hpow] at h1
      have hK := isQ.K64 hq
      rw [← h2, wrap_i64 (by omega) (by omega), wrap_i64 (by omega) (by omega)]
      exact hG _ ⟨i + 1, rfl, by omega, rfl⟩ (by simp only; omega)
    · have h : ¬ (i : Int) < Pl.K q := of_decide_eq_false h
      have : i = (Pl.K q).toNat := by omega
      subst this
      rw [← hpow]
      refine itl_rule (fun s => ∃ i : Nat, s.2.1 = (i : Int) ∧ i ≤ (Pl.lpf q).toNat ∧ s.1 = (fld q).nsm i A) (fun s => (Pl.lpf q - s.2.1).toNat) ⟨0, rfl, Nat.zero_le _, rfl⟩ ?_
      rintro ⟨s, i0, ⟨⟩⟩ G1 ⟨i, e1, hi, e2⟩ hG1
      simp only at e1 e2 hG1 ⊢
      subst e1 e2
      refine Br_of (fun h => ?_) (fun h => ?_)
      · have h : (i : Int) < Pl.lpf q := of_decide_eq_true h
        rw [emod_self_in ((in_iff hq _).1 (Fm.Fld.nsm_in ok i A)), wrap_i64 (by omega) (by omega)]
        exact ⟨oF, hG1 _ ⟨i + 1, rfl, by omega, rfl⟩ (by simp only; omega)⟩
      · have h : ¬ (i : Int) < Pl.lpf q := of_decide_eq_false h
        have : i = (Pl.lpf q).toNat := by omega
        subst this
        rw [nsm_p hq, pq]
        exact ⟨oF, oF, oF, oF, oF, oF, Br_eq (Br_eq (Br_eq (Br_eq (Br_eq (Br_eq (Br_eq ⟨oF, Br_eq2 (frob_q hq A B) ⟨trivial, trivial⟩⟩))))))⟩
  · have hB0 : B ≠ 0 := by simpa using h
    rw [mul_div_cancel hq hA hB hB0]
    exact ⟨oF, oF, Br_ne (Br_ne R)⟩
theorem snd10 : Sound Try.prog 10 C10 := fn_sound (T := T10) (fn := Try.f10) (tok0 ⟨snd19, snd29, snd30, snd32, snd34, snd36, snd38, snd51, snd52, snd24, trivial⟩) Try.func10 (by kernel_rfl) H10 vc10 (by kernel_rfl)
end Fd
end
section
/- Arrays of three integers among a law's parameters. -/
namespace Go.Proofs.Ytfhlgbgclkahnaa
open Go.ChangeShapes Go.WideShapes Go.ChangeAt Go.RowKit Go.WideMaps
set_option linter.unusedVariables false
section
variable {H : Type} {enc : TypeId × Value → H} {P : Program} {k e : TypeId} {q : IntKind} {W : World} {base : Nat} {sp : Nat → Bool} {held : Bool}
theorem okWide_triple (A : ArrKey P k e 3) {r : Reach} {b0 : Nat} {v : Value} (h : Value.okWide P W r b0 k v) : ∃ c0 c1 c2, v = .agg #[c0, c1, c2] := by
  simp only [Value.okWide, A.hu] at h
  obtain ⟨cs, h1, h2, _⟩ := h
  rw [A.size] at h2
  obtain ⟨l⟩ := cs
  match l, h2 with
  | [c0, c1, c2], _ => exact ⟨c0, c1, c2, h1⟩
theorem open_triple (A : ArrKey P k e 3) (he : P.underlying e = some (.int q)) {r : Reach} {b0 : Nat} {v : Value} {d : DataW H} {ps : List MemPlace} (hval : Value.okWide P W r b0 k v) (hd : DataW.Trod enc P W base sp held k v d ps) :
    ∃ a b c : Int, v = .agg #[.int q a, .int q b, .int q c] ∧ d = .agg [.lit (.int q a), .lit (.int q b), .lit (.int q c)] ∧ ps = [] ∧ (Lit.int q a).wf = true ∧ (Lit.int q b).wf = true ∧ (Lit.int q c).wf = true := by
  obtain ⟨c0, c1, c2, rfl⟩ := okWide_triple A hval
  obtain ⟨fuel, hf⟩ := hd
  cases fuel with
  | zero => simp [DataW.trod] at hf
  | succ n =>
    rw [DataW.trod_step] at hf
    unfold DataW.trodStep at hf
    simp only [A.hu, Value.cells] at hf
    rw [if_pos (by rw [A.size]; rfl)] at hf
    simp only [Option.map_eq_some_iff] at hf
    obtain ⟨xs, hx, e1⟩ := hf
    rw [show List.range 3 = [0, 1, 2] from rfl, List.mapM_cons, List.mapM_cons, List.mapM_cons, List.mapM_nil] at hx
    simp only [bind, Option.bind_eq_some_iff, pure, Option.some.injEq, A.one] at hx
    obtain ⟨y0, h0, _, ⟨y1, h1, _, ⟨y2, h2, _, rfl, rfl⟩, rfl⟩, rfl⟩ := hx
    obtain ⟨a, ea, rfl, wa⟩ := DataW.trod_int he h0
    obtain ⟨b, eb, rfl, wb⟩ := DataW.trod_int he h1
    obtain ⟨c, ec, rfl, wc⟩ := DataW.trod_int he h2
    simp at ea eb ec
    subst ea; subst eb; subst ec
    simp only [Prod.mk.injEq] at e1
    exact ⟨a, b, c, rfl, by rw [← e1.1]; rfl, by rw [← e1.2]; rfl, wa, wb, wc⟩
theorem shut_triple (A : ArrKey P k e 3) (he : P.underlying e = some (.int q)) {a b c : Int} (wa : (Lit.int q a).wf = true) (wb : (Lit.int q b).wf = true) (wc : (Lit.int q c).wf = true) :
    DataW.Trod enc P W base sp held k (.agg #[.int q a, .int q b, .int q c]) (.agg [.lit (.int q a), .lit (.int q b), .lit (.int q c)]) [] :=
  ⟨2, by
    show DataW.trod enc P W base sp held (1 + 1) k [.int q a, .int q b, .int q c] = _
    rw [DataW.trod_step]
    unfold DataW.trodStep
    simp only [A.hu]
    rw [if_pos (by rw [A.size]; rfl), show List.range 3 = [0, 1, 2] from rfl, List.mapM_cons, List.mapM_cons, List.mapM_cons, List.mapM_nil]
    simp [A.one, DataW.trod, he, wa, wb, wc]⟩
end
theorem triples : ArrKey Try.prog 60 3 3 := ⟨Try.underlying60, by kernel_rfl, by kernel_rfl, by kernel_rfl⟩
end Go.Proofs.Ytfhlgbgclkahnaa
end
