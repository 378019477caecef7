/- The functions of TopLogs: what is to be shown of each, shown (4). -/
import Derived.Test.YtfhlgbgclkahnaaTlD
set_option linter.unusedVariables false
set_option linter.unusedSimpArgs false
set_option maxRecDepth 100000
namespace Tl
open Go Fw Go.Proofs

theorem vc38 : ∀ x, C38.pre x → VC T38 H0 Try.f38 C38 x := by
  rintro ⟨c, (a : Int), (n : Int), ⟨⟩⟩ ⟨p, g, h1, h2, h3⟩
  simp only at h1 h2 h3
  subst h1
  show (∃ (p_1 : Int), ∃ (g_1 : Int), D.rptr (fieldC p g) = fieldD p_1 g_1 ∧ 2 ≤ p_1 ∧ p_1 ≤ 65536) ∧
      Br (n == 0) ((1, 0, ()) = C38.post (fieldD p g, a, n, ()))
        (Br (a % Pl.qOf (D.rptr (fieldC p g)) == 0)
          (Br (decide (n < 0)) ((0, 6, ()) = C38.post (fieldD p g, a, n, ()))
            (Br (a % Pl.qOf (D.rptr (fieldC p g)) == 0) ((0, 0, ()) = C38.post (fieldD p g, a, n, ()))
              (IntKind.i64.wrap (p - 1) ≠ 0 ∧
                IntKind.i64.wrap (p - 1) ≠ 0 ∧
                  (Pl.recvOK (D.iface 23 (D.rptr (fieldC p g))) ∧
                      0 ≤ a % Pl.qOf (D.rptr (fieldC p g)) ∧
                        a % Pl.qOf (D.rptr (fieldC p g)) < Pl.modOf (D.iface 23 (D.rptr (fieldC p g))) ∧
                          0 ≤
                              (IntKind.i64.wrap (n.tmod (IntKind.i64.wrap (p - 1)) + IntKind.i64.wrap (p - 1))).tmod
                                (IntKind.i64.wrap (p - 1)) ∧
                            (IntKind.i64.wrap (n.tmod (IntKind.i64.wrap (p - 1)) + IntKind.i64.wrap (p - 1))).tmod
                                (IntKind.i64.wrap (p - 1)) ≤
                              9223372036854775807) ∧
                    (Pl.pw (Pl.modOf (D.iface 23 (D.rptr (fieldC p g)))) (a % Pl.qOf (D.rptr (fieldC p g)))
                          ((IntKind.i64.wrap (n.tmod (IntKind.i64.wrap (p - 1)) + IntKind.i64.wrap (p - 1))).tmod
                            (IntKind.i64.wrap (p - 1))),
                        0, ()) =
                      C38.post (fieldD p g, a, n, ()))))
          (Br (a % Pl.qOf (D.rptr (fieldC p g)) == 0) ((0, 0, ()) = C38.post (fieldD p g, a, n, ()))
            (IntKind.i64.wrap (p - 1) ≠ 0 ∧
              IntKind.i64.wrap (p - 1) ≠ 0 ∧
                (Pl.recvOK (D.iface 23 (D.rptr (fieldC p g))) ∧
                    0 ≤ a % Pl.qOf (D.rptr (fieldC p g)) ∧
                      a % Pl.qOf (D.rptr (fieldC p g)) < Pl.modOf (D.iface 23 (D.rptr (fieldC p g))) ∧
                        0 ≤
                            (IntKind.i64.wrap (n.tmod (IntKind.i64.wrap (p - 1)) + IntKind.i64.wrap (p - 1))).tmod
                              (IntKind.i64.wrap (p - 1)) ∧
                          (IntKind.i64.wrap (n.tmod (IntKind.i64.wrap (p - 1)) + IntKind.i64.wrap (p - 1))).tmod
                              (IntKind.i64.wrap (p - 1)) ≤
                            9223372036854775807) ∧
                  (Pl.pw (Pl.modOf (D.iface 23 (D.rptr (fieldC p g)))) (a % Pl.qOf (D.rptr (fieldC p g)))
                        ((IntKind.i64.wrap (n.tmod (IntKind.i64.wrap (p - 1)) + IntKind.i64.wrap (p - 1))).tmod
                          (IntKind.i64.wrap (p - 1))),
                      0, ()) =
                    C38.post (fieldD p g, a, n, ()))))
  have hq : Pl.qOf (D.rptr (fieldC p g)) = p := rfl
  have hm : Pl.modOf (D.iface 23 (D.rptr (fieldC p g))) = p := rfl
  have hpost : C38.post (fieldD p g, a, n, ()) = ((Pl.powF p a n).1, (Pl.powF p a n).2, ()) := rfl
  rw [hq, hm, hpost]
  have a1 := Int.emod_nonneg a (b := p) (by omega)
  have a2 := Int.emod_lt_of_pos a (b := p) (by omega)
  have last : ∀ h : ¬ n = 0, ¬ a % p = 0 →
      (IntKind.i64.wrap (p - 1) ≠ 0 ∧ IntKind.i64.wrap (p - 1) ≠ 0 ∧
        (Pl.recvOK (D.iface 23 (D.rptr (fieldC p g))) ∧ 0 ≤ a % p ∧ a % p < p ∧
            0 ≤ (IntKind.i64.wrap (n.tmod (IntKind.i64.wrap (p - 1)) + IntKind.i64.wrap (p - 1))).tmod (IntKind.i64.wrap (p - 1)) ∧
              (IntKind.i64.wrap (n.tmod (IntKind.i64.wrap (p - 1)) + IntKind.i64.wrap (p - 1))).tmod (IntKind.i64.wrap (p - 1)) ≤ 9223372036854775807) ∧
          (Pl.pw p (a % p) ((IntKind.i64.wrap (n.tmod (IntKind.i64.wrap (p - 1)) + IntKind.i64.wrap (p - 1))).tmod (IntKind.i64.wrap (p - 1))), (0 : Int), ()) = ((Pl.powF p a n).1, (Pl.powF p a n).2, ())) := by
    intro hn ha
    rw [wrap_i64 (x := p - 1) (by omega) (by omega)]
    have h4 := Int.tmod_lt_of_pos n (b := p - 1) (by omega)
    have h5 := Int.lt_tmod_of_pos n (b := p - 1) (by omega)
    rw [wrap_i64 (by omega) (by omega), tmod_nn (a := n.tmod (p - 1) + (p - 1)) (by omega)]
    have e : (n.tmod (p - 1) + (p - 1)) % (p - 1) = n % (p - 1) := by
      rw [Int.add_emod_right, Int.tmod_def, Int.sub_mul_emod_self_left]
    rw [e]
    have b1 := Int.emod_nonneg n (b := p - 1) (by omega)
    have b2 := Int.emod_lt_of_pos n (b := p - 1) (by omega)
    refine ⟨by omega, by omega, ⟨⟨p, by omega, h3, .inr ⟨g, rfl⟩⟩, a1, a2, b1, by omega⟩, ?_⟩
    unfold Pl.powF
    rw [decide_eq_false hn, decide_eq_false ha]
    rfl
  refine ⟨⟨p, g, rfl, by omega, h3⟩, Br_of (fun hb => ?_) (fun hb => ?_)⟩
  · have : n = 0 := by simpa using hb
    subst this
    rfl
  have hn : ¬ n = 0 := by simpa using hb
  refine Br_of (fun hc => ?_) (fun hc => ?_)
  · have ha : a % p = 0 := by simpa using hc
    refine Br_of (fun hd => ?_) (fun hd => ?_)
    · unfold Pl.powF
      rw [decide_eq_false hn, decide_eq_true ha, hd]
      rfl
    · refine Br_of (fun he => ?_) (fun he => absurd ha (by simpa using he))
      unfold Pl.powF
      rw [decide_eq_false hn, decide_eq_true ha, hd]
      rfl
  · have ha : ¬ a % p = 0 := by simpa using hc
    exact Br_of (fun he => absurd (by simpa using he) ha) (fun he => last hn ha)

theorem vc39 : ∀ x, C39.pre x → VC T39 H39 Try.f39 C39 x := by
  rintro ⟨c, (a : Int), ⟨⟩⟩ ⟨p, g, h1, h2, h3, h4, h5, h6⟩
  simp only at h1 h2 h3 h4 h5 h6
  subst h1
  show (∃ (p_1 : Int), ∃ (g_1 : Int), D.rptr (fieldC p g) = fieldD p_1 g_1 ∧ 2 ≤ p_1 ∧ p_1 ≤ 65536) ∧
      Br (a % Pl.qOf (D.rptr (fieldC p g)) == 0) ((0, 6, ()) = C39.post (fieldD p g, a, ()))
        (∃ (n : Nat),
          itl
            (fun (G : Int × Int × PUnit → Prop) (x : Int × Int × PUnit) =>
              Br (x.snd.fst != a % Pl.qOf (D.rptr (fieldC p g)))
                ((Pl.recvOK (arD p) ∧ 0 ≤ x.snd.fst ∧ x.snd.fst < Pl.modOf (arD p) ∧ 0 ≤ g ∧ g < Pl.modOf (arD p)) ∧
                  G (IntKind.i64.wrap (x.fst + 1), x.snd.fst * g % Pl.modOf (arD p), ()))
                ((x.fst, 0, ()) = C39.post (fieldD p g, a, ())))
            n (0, 1, ()))
  have hq : Pl.qOf (D.rptr (fieldC p g)) = p := rfl
  have hm : Pl.modOf (arD p) = p := rfl
  have hpost : C39.post (fieldD p g, a, ()) = (bif decide (a % p = 0) then 0 else Pl.logI p g (a % p), bif decide (a % p = 0) then 6 else 0, ()) := rfl
  rw [hq, hm, hpost]
  have a1 := Int.emod_nonneg a (b := p) (by omega)
  have a2 := Int.emod_lt_of_pos a (b := p) (by omega)
  refine ⟨⟨p, g, rfl, h2, h3⟩, Br_of (fun hb => ?_) (fun hb => ?_)⟩
  · have ha : a % p = 0 := by simpa using hb
    rw [decide_eq_true ha]
    rfl
  have ha : ¬ a % p = 0 := by simpa using hb
  rw [decide_eq_false ha, cond_false, cond_false]
  have h6 := h6 ha
  generalize a % p = b at *
  refine itl_rule (fun x => 0 ≤ x.1 ∧ x.1 ≤ 65537 ∧ 0 ≤ x.2.1 ∧ x.2.1 < p ∧ Pl.logOK p g b (65537 - x.1).toNat x.2.1 = true ∧ Pl.logL p g b (65537 - x.1).toNat x.2.1 x.1 = Pl.logI p g b) (fun x => (65537 - x.1).toNat) ⟨by simp only; omega, by simp only; omega, by simp only; omega, by simp only; omega, h6, rfl⟩ ?_
  rintro ⟨(n : Int), (x : Int), ⟨⟩⟩ G ⟨i1, i2, i3, i4, i5, i6⟩ hG
  simp only at i1 i2 i3 i4 i5 i6 ⊢
  generalize hf : (65537 - n).toNat = f at i5 i6
  cases f with
  | zero => simp [Pl.logOK] at i5
  | succ f =>
    unfold Pl.logOK at i5
    unfold Pl.logL at i6
    refine Br_of (fun hc => ?_) (fun hc => ?_)
    · have hne : ¬ x = b := by simpa using hc
      rw [decide_eq_false hne, cond_false] at i5 i6
      rw [wrap_i64 (by omega) (by omega)]
      have hf' : (65537 - (n + 1)).toNat = f := by omega
      refine ⟨⟨⟨p, h2, h3, .inl rfl⟩, i3, i4, h4, h5⟩, hG _ ⟨by simp only; omega, by simp only; omega, Int.emod_nonneg _ (by omega), Int.emod_lt_of_pos _ (by omega), ?_, ?_⟩ (by simp only; omega)⟩
      · simp only; rw [hf']; exact i5
      · simp only; rw [hf']; exact i6
    · have he : x = b := by simpa using hc
      rw [decide_eq_true he, cond_true] at i6
      rw [i6]

theorem findR_ge {p : Int} (hp : 0 ≤ p) : ∀ {f : Nat} {r : Int}, Pl.findR p f r ≠ 0 → r ≤ Pl.findR p f r
  | 0, r, h => absurd rfl h
  | f + 1, r, h => by
    unfold Pl.findR at h ⊢
    cases hb : Pl.isPrime r with
    | true => simp
    | false =>
      rw [hb] at h
      simp only [cond_false] at h ⊢
      have := findR_ge hp h
      omega

theorem vc83 : ∀ x, C83.pre x → VC T83 H83 Try.f83 C83 x := by
  rintro ⟨(p : Int), ⟨⟩⟩ h
  have h : Pl.okP p = true := h
  unfold Pl.okP at h
  simp only [Bool.and_eq_true, decide_eq_true_eq] at h
  obtain ⟨⟨⟨⟨h1, h2⟩, h3⟩, h4⟩, h5⟩ := h
  have r1 := inB_iff.1 h1
  show [p].length ≤ 9223372036854775807 ∧
      Br (![p].all (Pl.inB 3 65521)) (((0, 0, 0, ()), 1, ()) = C83.post (p, ()))
        (p ≤ 2147483647 ∧
          Br (!Pl.isPrime p) (((0, 0, 0, ()), 1, ()) = C83.post (p, ()))
            (∃ (n : Nat),
              itl
                (fun (G : (Int × Int × Int × PUnit) × Int × PUnit → Prop) (x : (Int × Int × Int × PUnit) × Int × PUnit) =>
                  x.snd.fst ≤ 2147483647 ∧
                    Br (!Pl.isPrime x.snd.fst)
                      (G ((x.fst.fst, x.fst.snd.fst, x.fst.snd.snd.fst, ()), IntKind.i64.wrap (x.snd.fst + p), ()))
                      (∃ (n : Nat),
                        itl
                          (fun (G : (Int × Int × Int × PUnit) × Int × PUnit → Prop)
                              (x_1 : (Int × Int × Int × PUnit) × Int × PUnit) =>
                            p ≠ 0 ∧
                              (2 ≤ x.snd.fst ∧
                                  x.snd.fst ≤ 2147483647 ∧
                                    0 ≤ x_1.snd.fst ∧
                                      0 ≤ IntKind.i64.wrap ((IntKind.i64.wrap (x.snd.fst - 1)).tdiv p) ∧
                                        IntKind.i64.wrap ((IntKind.i64.wrap (x.snd.fst - 1)).tdiv p) ≤
                                          9223372036854775807) ∧
                                Br
                                  (Pl.pw x.snd.fst (x_1.snd.fst % x.snd.fst)
                                      (IntKind.i64.wrap ((IntKind.i64.wrap (x.snd.fst - 1)).tdiv p)) !=
                                    1)
                                  (((x.snd.fst, p,
                                        Pl.pw x.snd.fst (x_1.snd.fst % x.snd.fst)
                                          (IntKind.i64.wrap ((IntKind.i64.wrap (x.snd.fst - 1)).tdiv p)),
                                        ()),
                                      0, ()) =
                                    C83.post (p, ()))
                                  (G
                                    ((x_1.fst.fst, x_1.fst.snd.fst, x_1.fst.snd.snd.fst, ()),
                                      IntKind.i64.wrap (x_1.snd.fst + 1), ())))
                          n ((x.fst.fst, x.fst.snd.fst, x.fst.snd.snd.fst, ()), 2, ())))
                n ((0, 0, 0, ()), IntKind.i64.wrap (p + 1), ())))
  have hpost : C83.post (p, ()) = ((Pl.theR p, p, Pl.theG p, ()), 0, ()) := rfl
  rw [hpost]
  simp only [all1, h1, h2]
  refine ⟨by simp, Br_of (fun hb => by simp at hb) fun _ => ⟨by omega, Br_of (fun hb => by simp at hb) fun _ => ?_⟩⟩
  rw [wrap_i64 (x := p + 1) (by omega) (by omega)]
  refine itl_rule (fun x => p + 1 ≤ x.2.1 ∧ ∃ f, Pl.findR p f x.2.1 = Pl.theR p) (fun x => (Pl.theR p - x.2.1).toNat) ⟨Int.le_refl _, 1000, by simp only; unfold Pl.theR; rfl⟩ ?_
  rintro ⟨b, (r : Int), ⟨⟩⟩ G ⟨i1, f, i2⟩ hG
  simp only at i1 i2 ⊢
  cases f with
  | zero => exact absurd i2.symm h3
  | succ f =>
    have hge := findR_ge (p := p) (by omega) (f := f + 1) (r := r) (by rw [i2]; exact h3)
    rw [i2] at hge
    unfold Pl.findR at i2
    refine ⟨by omega, Br_of (fun hb => ?_) (fun hb => ?_)⟩
    · have hb' : Pl.isPrime r = false := by simpa using hb
      rw [hb', cond_false] at i2
      have hge2 := findR_ge (p := p) (by omega) (f := f) (r := r + p) (by rw [i2]; exact h3)
      rw [i2] at hge2
      rw [wrap_i64 (x := r + p) (by omega) (by omega)]
      exact hG _ ⟨by simp only; omega, f, i2⟩ (by simp only; omega)
    · have hb' : Pl.isPrime r = true := by simpa using hb
      rw [hb', cond_true] at i2
      subst i2
      rename_i r0
      rw [wrap_i64 (x := Pl.theR p - 1) (by omega) (by omega), tdiv_nn (a := Pl.theR p - 1) (by omega)]
      have q1 : 0 ≤ (Pl.theR p - 1) / p := Int.ediv_nonneg (by omega) (by omega)
      have q2 : (Pl.theR p - 1) / p ≤ Pl.theR p - 1 := Int.ediv_le_self _ (by omega)
      rw [wrap_i64 (x := (Pl.theR p - 1) / p) (by omega) (by omega)]
      refine itl_rule (fun x => 2 ≤ x.2.1 ∧ x.2.1 ≤ 1002 ∧ Pl.findH p (Pl.theR p) (1002 - x.2.1).toNat x.2.1 = Pl.theG p) (fun x => (1002 - x.2.1).toNat) ⟨by simp only; omega, by simp only; omega, by simp only; unfold Pl.theG; rfl⟩ ?_
      rintro ⟨b2, (k : Int), ⟨⟩⟩ G2 ⟨j1, j2, j3⟩ hG2
      simp only at j1 j2 j3 ⊢
      generalize hf : (1002 - k).toNat = f2 at j3
      cases f2 with
      | zero => exact absurd j3.symm h4
      | succ f2 =>
        unfold Pl.findH at j3
        refine ⟨by omega, ⟨by omega, by omega, by omega, q1, by omega⟩, Br_of (fun hc => ?_) (fun hc => ?_)⟩
        · have hne : Pl.pw (Pl.theR p) (k % Pl.theR p) ((Pl.theR p - 1) / p) ≠ 1 := by simpa using hc
          rw [decide_eq_true hne, cond_true] at j3
          rw [j3]
        · have hne : ¬ Pl.pw (Pl.theR p) (k % Pl.theR p) ((Pl.theR p - 1) / p) ≠ 1 := by simpa using hc
          rw [decide_eq_false hne, cond_false] at j3
          rw [wrap_i64 (x := k + 1) (by omega) (by omega)]
          refine hG2 _ ⟨by simp only; omega, by simp only; omega, ?_⟩ (by simp only; omega)
          simp only
          rw [show (1002 - (k + 1)).toNat = f2 by omega]
          exact j3

theorem primes_of_prime {q : Int} : ∀ {f : Nat} {p : Int}, Pl.primeL q f p = true → Pl.primesL f q p [] = [q]
  | 0, p, h => by simp [Pl.primeL] at h
  | f + 1, p, h => by
    unfold Pl.primeL at h
    unfold Pl.primesL
    cases hb : decide (p * p ≤ q) with
    | true =>
      rw [hb] at h
      simp only [cond_true] at h ⊢
      cases hc : decide (q % p = 0) with
      | true => rw [hc] at h; simp at h
      | false =>
        rw [hc] at h
        simp only [cond_false] at h ⊢
        exact primes_of_prime h
    | false =>
      rw [hb] at h
      simp only [cond_false] at h ⊢
      rw [h]
      rfl

theorem vc78 : ∀ x, C78.pre x → VC T78 H78 Try.f78 C78 x := by
  rintro ⟨(q : Int), ⟨⟩⟩ ⟨h1, h2, h3, h4, h5⟩
  simp only at h1 h2 h3 h4 h5
  show Br (decide (q < 2)) ((constD (Value.pointer none), 20, ()) = C78.post (q, ()))
      (Br (decide (q > 65536)) ((constD (Value.pointer none), 20, ()) = C78.post (q, ()))
        ((1 ≤ q ∧ q ≤ 2147483647) ∧
          Br (decide ((↑(Pl.primes q).length : Int) > 1)) ((constD (Value.pointer none), 20, ()) = C78.post (q, ()))
            (0 ≤ 0 ∧
              0 < (↑(Pl.primes q).length : Int) ∧
                ∃ (n : Nat),
                  itl
                    (fun (G : (D × Int × Int × Int × D × Int × PUnit) × Int × PUnit → Prop)
                        (x : (D × Int × Int × Int × D × Int × PUnit) × Int × PUnit) =>
                      Br (decide (x.snd.fst > 1))
                        (x.fst.snd.snd.fst ≠ 0 ∧
                          G
                            ((Ar.raw.enc x.fst.fst, x.fst.snd.fst, x.fst.snd.snd.fst,
                                IntKind.i64.wrap (x.fst.snd.snd.snd.fst + 1), Ar.raw.enc x.fst.snd.snd.snd.snd.fst,
                                x.fst.snd.snd.snd.snd.snd.fst, ()),
                              IntKind.i64.wrap (Int.tdiv x.snd.fst x.fst.snd.snd.fst), ()))
                        (Br (x.fst.snd.snd.snd.fst == 1)
                          ((∃ (p : Int),
                              D.rptr
                                    [D.iface 123 (D.agg [D.int IntKind.i64 x.fst.snd.snd.fst]),
                                      D.int IntKind.i64 x.fst.snd.fst, D.int IntKind.i64 x.fst.snd.snd.fst,
                                      D.int IntKind.i64 x.fst.snd.snd.snd.fst, D.slc true (Ty.int IntKind.i64) [0, 1],
                                      D.int IntKind.i64 x.fst.snd.snd.snd.snd.snd.fst] =
                                  fieldD p 0 ∧
                                D.iface 123 (D.agg [D.int IntKind.i64 x.fst.snd.snd.fst]) = arD p ∧
                                  3 ≤ p ∧ p ≤ 65536 ∧ Pl.gen p ≠ 0 ∧ Pl.gen p < p) ∧
                            (D.rptr
                                  [D.iface 123 (D.agg [D.int IntKind.i64 x.fst.snd.snd.fst]),
                                    D.int IntKind.i64 x.fst.snd.fst, D.int IntKind.i64 x.fst.snd.snd.fst,
                                    D.int IntKind.i64 x.fst.snd.snd.snd.fst, D.slc true (Ty.int IntKind.i64) [0, 1],
                                    D.int IntKind.i64
                                      (Pl.gen
                                        (Pl.qOf
                                          (D.rptr
                                            [D.iface 123 (D.agg [D.int IntKind.i64 x.fst.snd.snd.fst]),
                                              D.int IntKind.i64 x.fst.snd.fst, D.int IntKind.i64 x.fst.snd.snd.fst,
                                              D.int IntKind.i64 x.fst.snd.snd.snd.fst,
                                              D.slc true (Ty.int IntKind.i64) [0, 1],
                                              D.int IntKind.i64 x.fst.snd.snd.snd.snd.snd.fst])))],
                                0, ()) =
                              C78.post (q, ()))
                          False))
                    n
                    ((D.val Value.nilIface, q, rd (Ty.int IntKind.i64) (Pl.primes q) 0, 0, D.val (Value.slice none 0 0), 0,
                        ()),
                      q, ()))))
  have hpost : C78.post (q, ()) = (fieldD q (Pl.gen q), 0, ()) := rfl
  rw [hpost]
  have hpr : Pl.primes q = [q] := by
    unfold Pl.primes
    exact primes_of_prime (by unfold Pl.isPrime at h3; exact h3)
  rw [hpr]
  refine Br_of (fun hb => absurd (of_decide_eq_true hb) (by omega)) fun _ => Br_of (fun hb => absurd (of_decide_eq_true hb) (by omega)) fun _ => ⟨⟨by omega, by omega⟩, Br_of (fun hb => absurd hb (by simp)) fun _ => ⟨by simp, by simp, ?_⟩⟩
  refine itl_rule (fun x => ∃ d n : Int, x = ((D.val Value.nilIface, q, q, d, D.val (Value.slice none 0 0), 0, ()), n, ()) ∧ ((n = q ∧ d = 0) ∨ (n = 1 ∧ d = 1))) (fun x => x.2.1.toNat) ⟨0, q, rfl, .inl ⟨rfl, rfl⟩⟩ ?_
  rintro x G ⟨d, n, rfl, hx⟩ hG
  simp only
  refine Br_of (fun hb => ?_) (fun hb => ?_)
  · have hn := of_decide_eq_true hb
    rcases hx with ⟨rfl, rfl⟩ | ⟨rfl, rfl⟩
    · refine ⟨by omega, ?_⟩
      rw [tdiv_nn (by omega), Int.ediv_self (by omega)]
      exact hG _ ⟨1, 1, rfl, .inr ⟨rfl, rfl⟩⟩ (by show (IntKind.wrap .i64 1).toNat < n.toNat; rw [wrap_i64 (by omega) (by omega)]; omega)
    · omega
  · have hn := of_decide_eq_false hb
    rcases hx with ⟨rfl, rfl⟩ | ⟨rfl, rfl⟩
    · omega
    · refine Br_of (fun _ => ?_) (fun hc => by simp at hc)
      exact ⟨⟨q, rfl, rfl, h1, h2, h4, h5⟩, rfl⟩

end Tl
