/- The functions of TopLogs: what is to be shown of each, shown (3). -/
import Derived.Test.YtfhlgbgclkahnaaTlC
set_option linter.unusedVariables false
set_option linter.unusedSimpArgs false
set_option maxRecDepth 100000
namespace Tl
open Go Fw Go.Proofs

theorem vc117 : ∀ x, C117.pre x → VC T0 H117 Try.f117 C117 x := by
  rintro ⟨(n : Int), ⟨⟩⟩ ⟨h1, h2⟩
  simp only at h1 h2
  show ∃ (n_1 : Nat),
      itl
        (fun (G : Int × List Int × Int × PUnit → Prop) (x : Int × List Int × Int × PUnit) =>
          Br (decide (IntKind.i64.wrap (x.snd.snd.fst * x.snd.snd.fst) ≤ x.fst))
            (x.snd.snd.fst ≠ 0 ∧
              Br (Int.tmod x.fst x.snd.snd.fst == 0)
                (((↑(List.length x.snd.fst) : Int) + (↑[x.snd.snd.fst].length : Int)) * (↑8 : Int) ≤ 140737488355328 ∧
                  ∃ (n : Nat),
                    itl
                      (fun (G_1 : Int × List Int × PUnit → Prop) (x_1 : Int × List Int × PUnit) =>
                        x.snd.snd.fst ≠ 0 ∧
                          Br (Int.tmod x_1.fst x.snd.snd.fst == 0)
                            (x.snd.snd.fst ≠ 0 ∧ G_1 (IntKind.i64.wrap (Int.tdiv x_1.fst x.snd.snd.fst), x_1.snd.1, ()))
                            (G (x_1.fst, x_1.snd.1, IntKind.i64.wrap (x.snd.snd.fst + 1), ())))
                      n (x.fst, List.append x.snd.fst [x.snd.snd.fst], ()))
                (G (x.fst, x.snd.1, IntKind.i64.wrap (x.snd.snd.fst + 1), ())))
            (Br (decide (x.fst > 1))
              (((↑(List.length x.snd.fst) : Int) + (↑[x.fst].length : Int)) * (↑8 : Int) ≤ 140737488355328 ∧
                (List.append x.snd.fst [x.fst], ()) = C117.post (n, ()))
              ((x.snd.1, ()) = C117.post (n, ()))))
        n_1 (n, [], 2, ())
  have hpost : C117.post (n, ()) = (Pl.primes n, ()) := rfl
  rw [hpost]
  refine itl_rule (fun x => 1 ≤ x.1 ∧ x.1 ≤ n ∧ 2 ≤ x.2.2.1 ∧ x.2.2.1 ≤ 46342 ∧ (x.2.1.length : Int) ≤ x.2.2.1 ∧ Pl.primesL (50002 - x.2.2.1).toNat x.1 x.2.2.1 x.2.1 = Pl.primes n) (fun x => (50000 - x.2.2.1).toNat) ⟨h1, Int.le_refl _, by simp only; omega, by simp only; omega, by simp, rfl⟩ ?_
  rintro ⟨(m : Int), (out : List Int), (p : Int), ⟨⟩⟩ G ⟨i1, i2, i3, i4, i5, i6⟩ hG
  simp only at i1 i2 i3 i4 i5 i6 ⊢
  have hpp : 0 ≤ p * p ∧ p * p ≤ 2147580964 := by
    refine ⟨Int.mul_nonneg (by omega) (by omega), ?_⟩
    have : p * p ≤ 46342 * 46342 := Int.mul_le_mul i4 i4 (by omega) (by decide)
    omega
  rw [wrap_i64 (x := p * p) (by omega) (by omega)]
  have hf : (50002 - p).toNat = (50002 - (p + 1)).toNat + 1 := by omega
  rw [hf] at i6
  unfold Pl.primesL at i6
  have hlen : ∀ x : Int, ((out.length : Int) + ([x].length : Nat)) * (8 : Nat) ≤ 140737488355328 := by
    intro x
    simp only [List.length_cons, List.length_nil]
    omega
  refine Br_of (fun hb => ?_) (fun hb => ?_)
  · have hle := of_decide_eq_true hb
    have := sq_le hle (by omega) (by omega)
    rw [hb, cond_true] at i6
    rw [tmod_nn (a := m) (by omega), wrap_i64 (x := p + 1) (by omega) (by omega)]
    refine ⟨by omega, Br_of (fun hc => ?_) (fun hc => ?_)⟩
    · have he : m % p = 0 := by simpa using hc
      rw [decide_eq_true he, cond_true] at i6
      refine ⟨hlen p, ?_⟩
      refine itl_rule (fun x => 1 ≤ x.1 ∧ x.1 ≤ m ∧ x.2.1 = out ++ [p] ∧ ∃ f : Nat, x.1 < 2 ^ f ∧ Pl.divL p f x.1 = Pl.divL p 64 m) (fun x => x.1.toNat) ⟨i1, Int.le_refl _, rfl, 64, ?_, rfl⟩ ?_
      · have : (2 : Int) ^ 64 = 18446744073709551616 := by decide
        simp only
        omega
      rintro ⟨(k : Int), (o2 : List Int), ⟨⟩⟩ G2 ⟨j1, j2, j3, f, j4, j5⟩ hG2
      simp only at j1 j2 j3 j4 j5 ⊢
      subst j3
      rw [tmod_nn (a := k) (by omega), tdiv_nn (a := k) (by omega)]
      obtain ⟨f', rfl, hf'⟩ := pow_head (by omega) j4
      unfold Pl.divL at j5
      refine ⟨by omega, Br_of (fun hd => ?_) (fun hd => ?_)⟩
      · have hd' : k % p = 0 := by simpa using hd
        rw [decide_eq_true hd', cond_true] at j5
        have hkp : p * (k / p) = k := by have := Int.mul_ediv_add_emod k p; omega
        have q1 : 1 ≤ k / p := by
          apply Int.not_lt.1
          intro hlt
          have hz : k / p ≤ 0 := by omega
          have : p * (k / p) ≤ p * 0 := Int.mul_le_mul_of_nonneg_left hz (by omega)
          omega
        have q2 : k / p ≤ k / 2 := by
          have : 2 * (k / p) ≤ p * (k / p) := Int.mul_le_mul_of_nonneg_right i3 (by omega)
          omega
        rw [wrap_i64 (x := k / p) (by omega) (by omega)]
        refine ⟨by omega, hG2 _ ⟨q1, by simp only; omega, rfl, f', by simp only; omega, j5⟩ (by simp only; omega)⟩
      · have hd' : ¬ k % p = 0 := by simpa using hd
        rw [decide_eq_false hd', cond_false] at j5
        refine hG _ ⟨j1, by simp only; omega, by simp only; omega, by simp only; omega, by simp; omega, ?_⟩ (by simp only; omega)
        simp only
        rw [j5]
        exact i6
    · have he : ¬ m % p = 0 := by simpa using hc
      rw [decide_eq_false he, cond_false] at i6
      exact hG _ ⟨i1, i2, by simp only; omega, by simp only; omega, by simp only; omega, i6⟩ (by simp only; omega)
  · rw [hb, cond_false] at i6
    refine Br_of (fun hc => ?_) (fun hc => ?_)
    · rw [hc, cond_true] at i6
      exact ⟨hlen m, by rw [← i6]; rfl⟩
    · rw [hc, cond_false] at i6
      rw [← i6]

theorem primesL_pos : ∀ (f : Nat) (n p : Int) (out : List Int), 2 ≤ p → (∀ x ∈ out, 1 ≤ x) → ∀ x ∈ Pl.primesL f n p out, 1 ≤ x
  | 0, n, p, out, hp, h => by simpa [Pl.primesL] using h
  | f + 1, n, p, out, hp, h => by
    unfold Pl.primesL
    cases decide (p * p ≤ n) with
    | true =>
      simp only [cond_true]
      cases decide (n % p = 0) with
      | true =>
        simp only [cond_true]
        refine primesL_pos f _ _ _ (by omega) fun x hx => ?_
        rcases List.mem_append.1 hx with hx | hx
        · exact h x hx
        · simp at hx; omega
      | false => exact primesL_pos f _ _ _ (by omega) h
    | false =>
      simp only [cond_false]
      by_cases hn : n > 1
      · rw [decide_eq_true hn, cond_true]
        intro x hx
        rcases List.mem_append.1 hx with hx | hx
        · exact h x hx
        · simp at hx; omega
      · rw [decide_eq_false hn, cond_false]
        exact h
theorem primesL_len : ∀ (f : Nat) (n p : Int) (out : List Int), (Pl.primesL f n p out).length ≤ out.length + f + 1
  | 0, n, p, out => by simp [Pl.primesL]
  | f + 1, n, p, out => by
    unfold Pl.primesL
    cases decide (p * p ≤ n) with
    | true =>
      simp only [cond_true]
      cases decide (n % p = 0) with
      | true =>
        have := primesL_len f (Pl.divL p 64 n) (p + 1) (out ++ [p])
        simp only [cond_true]
        simp at this
        omega
      | false =>
        have := primesL_len f n (p + 1) out
        simp only [cond_false]
        omega
    | false =>
      simp only [cond_false]
      cases decide (n > 1) <;> simp <;> omega

theorem vc146 : ∀ x, C146.pre x → VC T146 H0 Try.f146 C146 x := by
  rintro ⟨(x : Int), c, d, e, ⟨⟩⟩ ⟨p, g, h1, h2, h3, h4, h5, h6, h7, h8⟩
  simp only at h1 h2 h3 h4 h5 h6 h7 h8
  subst h1 h2 h3
  show x ≠ 0 ∧
      (Pl.recvOK (arD p) ∧
          0 ≤ g ∧
            g < Pl.modOf (arD p) ∧
              0 ≤ IntKind.i64.wrap ((IntKind.i64.wrap (p - 1)).tdiv x) ∧
                IntKind.i64.wrap ((IntKind.i64.wrap (p - 1)).tdiv x) ≤ 9223372036854775807) ∧
        (Pl.pw (Pl.modOf (arD p)) g (IntKind.i64.wrap ((IntKind.i64.wrap (p - 1)).tdiv x)) == 1, ()) =
          C146.post (x, D.rptr [arD p], D.rptr [n64 g], D.rptr [fieldD p 0], ())
  have hm : Pl.modOf (arD p) = p := rfl
  rw [hm]
  have hpost : C146.post (x, D.rptr [arD p], D.rptr [n64 g], D.rptr [fieldD p 0], ()) = (decide (Pl.pw p g ((p - 1) / x) = 1), ()) := rfl
  rw [hpost, wrap_i64 (x := p - 1) (by omega) (by omega), tdiv_nn (a := p - 1) (by omega)]
  have q1 : 0 ≤ (p - 1) / x := Int.ediv_nonneg (by omega) (by omega)
  have q2 : (p - 1) / x ≤ p - 1 := Int.ediv_le_self _ (by omega)
  rw [wrap_i64 (x := (p - 1) / x) (by omega) (by omega)]
  refine ⟨by omega, ⟨⟨p, h4, h5, .inl rfl⟩, h6, h7, q1, by omega⟩, ?_⟩
  congr 1

theorem genL_ge {p : Int} {l : List Int} : ∀ {f : Nat} {g : Int}, Pl.genL p l f g ≠ 0 → g ≤ Pl.genL p l f g
  | 0, g, h => absurd rfl h
  | f + 1, g, h => by
    unfold Pl.genL at h ⊢
    cases hb : l.any (fun q => decide (Pl.pw p g ((p - 1) / q) = 1)) with
    | true =>
      rw [hb] at h
      simp only [cond_true] at h ⊢
      have := genL_ge h
      omega
    | false => simp

theorem vc120 : ∀ x, C120.pre x → VC T120 H120 Try.f120 C120 x := by
  rintro ⟨c, d, ⟨⟩⟩ ⟨p, h1, h2, h3, h4, h5, h6⟩
  simp only at h1 h2 h3 h4 h5 h6
  subst h1 h2
  show (1 ≤ IntKind.i64.wrap (p - 1) ∧ IntKind.i64.wrap (p - 1) ≤ 2147483647) ∧
      ∃ (n : Nat),
        itl
          (fun (G : (D × PUnit) × (D × PUnit) × (Int × PUnit) × PUnit → Prop)
              (x : (D × PUnit) × (D × PUnit) × (Int × PUnit) × PUnit) =>
            ((Pl.primes (IntKind.i64.wrap (p - 1))).length ≤ 9223372036854775807 ∧
                ∀ (y : Int),
                  y ∈ Pl.primes (IntKind.i64.wrap (p - 1)) →
                    Pl.tellsOK
                      (D.clo 146
                        [D.rptr [Ar.raw.enc x.snd.fst.fst], D.rptr [D.int IntKind.i64 x.snd.snd.fst.fst],
                          D.rptr [Ar.raw.enc x.fst.fst]])
                      y) ∧
              Br
                (!(Pl.primes (IntKind.i64.wrap (p - 1))).any
                    (Pl.tells
                      (D.clo 146
                        [D.rptr [Ar.raw.enc x.snd.fst.fst], D.rptr [D.int IntKind.i64 x.snd.snd.fst.fst],
                          D.rptr [Ar.raw.enc x.fst.fst]])))
                ((x.snd.snd.fst.fst, ()) = C120.post (fieldD p 0, arD p, ()))
                (G
                  ((Ar.raw.enc x.fst.fst, ()), (Ar.raw.enc x.snd.fst.fst, ()),
                    (IntKind.i64.wrap (x.snd.snd.fst.fst + 1), ()), ())))
          n ((D.rptr (fieldC p 0), ()), (D.iface 123 (D.agg [n64 p]), ()), (1, ()), ())
  have hpost : C120.post (fieldD p 0, arD p, ()) = (Pl.gen p, ()) := rfl
  rw [hpost, wrap_i64 (x := p - 1) (by omega) (by omega)]
  refine ⟨⟨by omega, by omega⟩, ?_⟩
  refine itl_rule (fun x => x.1.1 = fieldD p 0 ∧ x.2.1.1 = arD p ∧ 1 ≤ x.2.2.1.1 ∧ ∃ f, Pl.genL p (Pl.primes (p - 1)) f x.2.2.1.1 = Pl.gen p) (fun x => (Pl.gen p - x.2.2.1.1).toNat) ⟨rfl, rfl, by simp only; omega, 1000, by simp only; unfold Pl.gen; rfl⟩ ?_
  rintro ⟨⟨a, ⟨⟩⟩, ⟨b, ⟨⟩⟩, ⟨(g : Int), ⟨⟩⟩, ⟨⟩⟩ G ⟨i1, i2, i3, f, i4⟩ hG
  simp only at i1 i2 i3 i4 ⊢
  subst i1 i2
  cases f with
  | zero => exact absurd i4.symm h5
  | succ f =>
    have hge := genL_ge (p := p) (l := Pl.primes (p - 1)) (f := f + 1) (g := g) (by rw [i4]; exact h5)
    rw [i4] at hge
    have hany : (Pl.primes (p - 1)).any (Pl.tells (D.clo 146 [D.rptr [Ar.raw.enc (arD p)], D.rptr [D.int IntKind.i64 g], D.rptr [Ar.raw.enc (fieldD p 0)]])) = (Pl.primes (p - 1)).any (fun q => decide (Pl.pw p g ((p - 1) / q) = 1)) := congrArg (List.any (Pl.primes (p - 1))) (funext fun q => rfl)
    rw [hany]
    have hpos : ∀ y ∈ Pl.primes (p - 1), 1 ≤ y := by
      unfold Pl.primes
      exact primesL_pos 50000 (p - 1) 2 [] (by decide) (by simp)
    unfold Pl.genL at i4
    refine ⟨⟨?_, fun y hy => .inr (.inr ⟨p, g, rfl, by omega, h4, by omega, by omega, hpos y hy⟩)⟩, Br_of (fun hb => ?_) (fun hb => ?_)⟩
    · have := primesL_len 50000 (p - 1) 2 []
      unfold Pl.primes
      simp at this
      omega
    · have hb' : (Pl.primes (p - 1)).any (fun q => decide (Pl.pw p g ((p - 1) / q) = 1)) = false := by simpa using hb
      rw [hb', cond_false] at i4
      rw [← i4]
    · have hb' : (Pl.primes (p - 1)).any (fun q => decide (Pl.pw p g ((p - 1) / q) = 1)) = true := by simpa using hb
      rw [hb', cond_true] at i4
      have hge2 := genL_ge (p := p) (l := Pl.primes (p - 1)) (f := f) (g := g + 1) (by rw [i4]; exact h5)
      rw [i4] at hge2
      rw [wrap_i64 (by omega) (by omega)]
      exact hG _ ⟨rfl, rfl, by simp only; omega, f, i4⟩ (by simp only; omega)

end Tl
