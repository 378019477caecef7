/- The functions of TopLogs: what is to be shown of each, shown. -/
import Derived.Test.YtfhlgbgclkahnaaTlA
set_option linter.unusedVariables false
set_option linter.unusedSimpArgs false
set_option maxRecDepth 100000
namespace Tl
open Go Fw Go.Proofs

theorem wrap_u64 (x : Int) : IntKind.wrap .u64 x = x % 18446744073709551616 := by
  unfold IntKind.wrap
  simp [IntKind.bits, IntKind.signed]
theorem tmod_nn {a b : Int} (h : 0 ≤ a) : a.tmod b = a % b := Int.tmod_eq_emod_of_nonneg h
theorem tdiv_nn {a b : Int} (h : 0 ≤ a) : a.tdiv b = a / b := Int.tdiv_eq_ediv_of_nonneg h
theorem sq_le {p n : Int} (h : p * p ≤ n) (h2 : n ≤ 2147483647) (h0 : 0 ≤ p) : p ≤ 46340 := by
  apply Int.not_lt.1
  intro hlt
  have : 46341 * 46341 ≤ p * p := Int.mul_le_mul (by omega) (by omega) (by decide) h0
  omega
theorem mul_lt {a b m : Int} (h0 : 0 ≤ a) (h1 : a < m) (h2 : 0 ≤ b) (h3 : b < m) (hm : m ≤ 2147483647) : 0 ≤ a * b ∧ a * b ≤ 4611686014132420609 := by
  refine ⟨Int.mul_nonneg h0 h2, ?_⟩
  have : a * b ≤ 2147483647 * 2147483647 := Int.mul_le_mul (by omega) (by omega) h2 (by decide)
  omega

theorem vc85 : ∀ x, C85.pre x → VC T0 H0 Try.f85 C85 x := by
  rintro ⟨(n : Int), (m : Int), ⟨⟩⟩ ⟨h1, h2⟩
  show IntKind.u64.wrap (IntKind.i64.wrap (m + 1)) ≠ 0 ∧
      (IntKind.i64.wrap ((IntKind.u64.wrap n).tmod (IntKind.u64.wrap (IntKind.i64.wrap (m + 1)))), ()) = C85.post (n, m, ())
  simp only at h1 h2
  rw [wrap_i64 (x := m + 1) (by omega) (by omega), wrap_u64, wrap_u64]
  have e : (m + 1) % 18446744073709551616 = m + 1 := Int.emod_eq_of_lt (by omega) (by omega)
  rw [e, tmod_nn (Int.emod_nonneg _ (by decide))]
  refine ⟨by omega, ?_⟩
  have h3 := Int.emod_lt_of_pos (n % 18446744073709551616) (b := m + 1) (by omega)
  have h4 := Int.emod_nonneg (n % 18446744073709551616) (b := m + 1) (by omega)
  rw [wrap_i64 (by omega) (by omega)]
  rfl

theorem small_range {n m : Int} (h : 0 ≤ m) : 0 ≤ Pl.small n m ∧ Pl.small n m ≤ m := by
  have h3 := Int.emod_lt_of_pos (n % 18446744073709551616) (b := m + 1) (by omega)
  have h4 := Int.emod_nonneg (n % 18446744073709551616) (b := m + 1) (by omega)
  unfold Pl.small
  omega

theorem vc84 : ∀ x, C84.pre x → VC T84 H0 Try.f84 C84 x := by
  rintro ⟨(n : Int), ⟨⟩⟩ -
  show (0 ≤ 7 ∧ 7 ≤ 4611686018427387904) ∧
      Br (decide (Pl.small n 7 = (↑0 : Int))) ((7, ()) = C84.post (n, ()))
        (Br (decide (Pl.small n 7 = (↑1 : Int))) ((11, ()) = C84.post (n, ()))
          (Br (decide (Pl.small n 7 = (↑2 : Int))) ((13, ()) = C84.post (n, ()))
            (Br (decide (Pl.small n 7 = (↑3 : Int))) ((17, ()) = C84.post (n, ()))
              (Br (decide (Pl.small n 7 = (↑4 : Int))) ((31, ()) = C84.post (n, ()))
                (Br (decide (Pl.small n 7 = (↑5 : Int))) ((97, ()) = C84.post (n, ()))
                  (Br (decide (Pl.small n 7 = (↑6 : Int))) ((251, ()) = C84.post (n, ()))
                    (Br (decide (Pl.small n 7 = (↑7 : Int))) ((1009, ()) = C84.post (n, ())) False)))))))
  refine ⟨by decide, ?_⟩
  have h := small_range (n := n) (m := 7) (by decide)
  have hp : C84.post (n, ()) = ([7, 11, 13, 17, 31, 97, 251, 1009].getD (Pl.small n 7).toNat 0, ()) := rfl
  rw [hp]
  generalize Pl.small n 7 = i at h
  refine Br_of (fun hb => by have := of_decide_eq_true hb; subst this; rfl) fun hb => Br_of (fun hb => by have := of_decide_eq_true hb; subst this; rfl) fun hb1 => Br_of (fun hb => by have := of_decide_eq_true hb; subst this; rfl) fun hb2 => Br_of (fun hb => by have := of_decide_eq_true hb; subst this; rfl) fun hb3 => Br_of (fun hb => by have := of_decide_eq_true hb; subst this; rfl) fun hb4 => Br_of (fun hb => by have := of_decide_eq_true hb; subst this; rfl) fun hb5 => Br_of (fun hb => by have := of_decide_eq_true hb; subst this; rfl) fun hb6 => Br_of (fun hb => by have := of_decide_eq_true hb; subst this; rfl) fun hb7 => ?_
  have := of_decide_eq_false hb
  have := of_decide_eq_false hb1
  have := of_decide_eq_false hb2
  have := of_decide_eq_false hb3
  have := of_decide_eq_false hb4
  have := of_decide_eq_false hb5
  have := of_decide_eq_false hb6
  have := of_decide_eq_false hb7
  omega

theorem vc155 : ∀ x, C155.pre x → VC T0 H0 Try.f155 C155 x := by
  rintro ⟨(m : Int), (a : Int), (b : Int), ⟨⟩⟩ ⟨h1, h2, h3, h4, h5, h6⟩
  show m ≠ 0 ∧ ((IntKind.i64.wrap (a * b)).tmod m, ()) = C155.post (m, a, b, ())
  simp only at h1 h2 h3 h4 h5 h6
  have := mul_lt h3 h4 h5 h6 h2
  rw [wrap_i64 (by omega) (by omega), tmod_nn this.1]
  exact ⟨by omega, rfl⟩

theorem vc157 : ∀ x, C157.pre x → VC T157 H0 Try.f157 C157 x := by
  rintro ⟨(a : Int), (b : Int), c, d, ⟨⟩⟩ ⟨m, h1, h2, h3, h4, h5, h6, h7, h8⟩
  simp only at h1 h2 h3 h4 h5 h6 h7 h8
  subst h1 h2
  show (1 ≤ m ∧ m ≤ 2147483647 ∧ 0 ≤ a ∧ a < m ∧ 0 ≤ b ∧ b < m) ∧
      (a * b % m, ()) = C157.post (a, b, D.rptr [D.clo 155 []], D.rptr [n64 m], ())
  exact ⟨⟨h3, h4, h5, h6, h7, h8⟩, rfl⟩

theorem vc158 : ∀ x, C158.pre x → VC T0 H0 Try.f158 C158 x := by
  rintro ⟨⟨(r : Int), (p : Int), (g : Int), ⟨⟩⟩, ⟨⟩⟩ -
  show (r, ()) = C158.post ((r, p, g, ()), ())
  rfl

theorem vc154 : ∀ x, C154.pre x → VC T0 H0 Try.f154 C154 x := by
  rintro ⟨(x : Int), c, d, ⟨⟩⟩ ⟨lo, hi, h1, h2⟩
  simp only at h1 h2
  subst h1 h2
  show Br (decide (x < lo)) ((true, ()) = C154.post (x, D.rptr [n64 lo], D.rptr [n64 hi], ()))
      ((decide (x > hi), ()) = C154.post (x, D.rptr [n64 lo], D.rptr [n64 hi], ()))
  refine Br_of (fun hb => ?_) (fun hb => ?_)
  · show _ = (decide (x < lo) || decide (x > hi), ())
    rw [hb]; rfl
  · show _ = (decide (x < lo) || decide (x > hi), ())
    rw [hb]; rfl

theorem vc184 : ∀ x, C184.pre x → VC T0 H0 Try.f184 C184 x := by
  rintro ⟨⟨(p : Int), ⟨⟩⟩, (a : Int), (b : Int), ⟨⟩⟩ ⟨h1, h2, h3, h4, h5, h6⟩
  simp only at h1 h2 h3 h4 h5 h6
  show p ≠ 0 ∧ ((IntKind.i64.wrap (a * b)).tmod p, ()) = C184.post ((p, ()), a, b, ())
  have := mul_lt h3 h4 h5 h6 (by omega)
  rw [wrap_i64 (by omega) (by omega), tmod_nn this.1]
  exact ⟨by omega, rfl⟩

theorem vc127 : ∀ x, C127.pre x → VC T0 H127 Try.f127 C127 x := by
  rintro ⟨(n : Int), ⟨⟩⟩ h
  have h : n ≤ 2147483647 := h
  show ∃ (n_1 : Nat),
      itl
        (fun (G : Int × PUnit → Prop) (x : Int × PUnit) =>
          Br (decide (IntKind.i64.wrap (x.fst * x.fst) ≤ n))
            (x.fst ≠ 0 ∧ Br (n.tmod x.fst == 0) ((false, ()) = C127.post (n, ())) (G (IntKind.i64.wrap (x.fst + 1), ())))
            ((decide (n > 1), ()) = C127.post (n, ())))
        n_1 (2, ())
  refine itl_rule (fun x => 2 ≤ x.1 ∧ x.1 ≤ 46342 ∧ Pl.primeL n (50002 - x.1).toNat x.1 = Pl.isPrime n) (fun x => (50000 - x.1).toNat) ⟨by decide, by decide, rfl⟩ ?_
  rintro ⟨p, ⟨⟩⟩ G ⟨h1, h2, h3⟩ hG
  simp only at h1 h2 h3 ⊢
  have hpp : 0 ≤ p * p ∧ p * p ≤ 2147580964 := by
    refine ⟨Int.mul_nonneg (by omega) (by omega), ?_⟩
    have : p * p ≤ 46342 * 46342 := Int.mul_le_mul h2 h2 (by omega) (by decide)
    omega
  rw [wrap_i64 (x := p * p) (by omega) (by omega)]
  have hf : (50002 - p).toNat = (50002 - (p + 1)).toNat + 1 := by omega
  rw [hf] at h3
  unfold Pl.primeL at h3
  have hpost : C127.post (n, ()) = (Pl.isPrime n, ()) := rfl
  rw [hpost, ← h3]
  refine Br_of (fun hb => ?_) (fun hb => ?_)
  · have hle := of_decide_eq_true hb
    have := sq_le hle h (by omega)
    rw [hb] at h3 ⊢
    simp only [cond_true] at h3 ⊢
    have hn : 0 ≤ n := by omega
    rw [tmod_nn hn]
    refine ⟨by omega, Br_of (fun hc => ?_) (fun hc => ?_)⟩
    · have : n % p = 0 := by simpa using hc
      simp [this]
    · have hne : ¬ n % p = 0 := by simpa using hc
      rw [wrap_i64 (by omega) (by omega)]
      refine hG _ ⟨by simp only; omega, by simp only; omega, ?_⟩ (by simp only; omega)
      simp only
      rw [← h3]
      simp [hne]
  · rw [hb]; rfl

theorem powL_zero {m : Int} : ∀ {f : Nat} {out a : Int}, Pl.powL m f out a 0 = out
  | 0, _, _ => rfl
  | f + 1, _, _ => by simp [Pl.powL]

theorem pow_head {f : Nat} {n : Int} (h : 0 < n) (hf : n < 2 ^ f) : ∃ k, f = k + 1 ∧ n / 2 < 2 ^ k := by
  cases f with
  | zero => simp at hf; omega
  | succ k =>
    refine ⟨k, rfl, ?_⟩
    rw [Int.pow_succ] at hf
    omega

/-- What goes round in a power. -/
def PowI (m : Int) (r : Int) (x : Int × Int × Int × PUnit) : Prop :=
  0 ≤ x.1 ∧ x.1 < m ∧ 0 ≤ x.2.1 ∧ x.2.1 ≤ 9223372036854775807 ∧ 0 ≤ x.2.2.1 ∧ x.2.2.1 < m ∧ ∃ f : Nat, x.2.1 < 2 ^ f ∧ Pl.powL m f x.2.2.1 x.1 x.2.1 = r
theorem PowI.start {m a n : Int} (hm : 2 ≤ m) (h0 : 0 ≤ a) (h1 : a < m) (h2 : 0 ≤ n) (h3 : n ≤ 9223372036854775807) : PowI m (Pl.pw m a n) (a, n, 1, ()) := by
  refine ⟨h0, h1, h2, h3, by simp only; omega, by simp only; omega, 64, ?_, rfl⟩
  have : (2 : Int) ^ 64 = 18446744073709551616 := by decide
  simp only
  omega
theorem PowI.end_ {m r a n o : Int} (h : PowI m r (a, n, o, ())) (hn : ¬ n > 0) : o = r := by
  obtain ⟨_, _, h2, _, _, _, f, _, h⟩ := h
  simp only at h h2
  have : n = 0 := by omega
  subst this
  rw [powL_zero] at h
  exact h
theorem PowI.step {m r a n o : Int} (hm : 2 ≤ m) (h : PowI m r (a, n, o, ())) (hn : n > 0) : PowI m r (a * a % m, n / 2, bif decide (n % 2 = 1) then o * a % m else o, ()) ∧ (n / 2).toNat < n.toNat := by
  obtain ⟨h0, h1, h2, h3, h4, h5, f, hf, h⟩ := h
  simp only at h0 h1 h2 h3 h4 h5 hf h
  obtain ⟨k, rfl, hk⟩ := pow_head hn hf
  unfold Pl.powL at h
  rw [decide_eq_true hn, cond_true] at h
  refine ⟨⟨Int.emod_nonneg _ (by omega), Int.emod_lt_of_pos _ (by omega), by simp only; omega, by simp only; omega, ?_, ?_, k, hk, h⟩, by omega⟩
  · simp only
    cases decide (n % 2 = 1)
    · exact h4
    · exact Int.emod_nonneg _ (by omega)
  · simp only
    cases decide (n % 2 = 1)
    · exact h5
    · exact Int.emod_lt_of_pos _ (by omega)

theorem vc156 : ∀ x, C156.pre x → VC T156 H156 Try.f156 C156 x := by
  rintro ⟨f, (o : Int), (a : Int), (n : Int), ⟨⟩⟩ ⟨m, h1, h2, h3, h4, h5, h6, h7, h8⟩
  simp only at h1 h2 h3 h4 h5 h6 h7 h8
  show ∃ (n_1 : Nat),
      itl
        (fun (G : Int × Int × Int × PUnit → Prop) (x : Int × Int × Int × PUnit) =>
          Br (decide (x.snd.fst > 0))
            (2 ≠ 0 ∧
              Br (Int.tmod x.snd.fst 2 == 1)
                ((∃ (m : Int),
                    f = mulClo m ∧ 1 ≤ m ∧ m ≤ 2147483647 ∧ 0 ≤ x.snd.snd.fst ∧ x.snd.snd.fst < m ∧ 0 ≤ x.fst ∧ x.fst < m) ∧
                  (∃ (m : Int), f = mulClo m ∧ 1 ≤ m ∧ m ≤ 2147483647 ∧ 0 ≤ x.fst ∧ x.fst < m ∧ 0 ≤ x.fst ∧ x.fst < m) ∧
                    2 ≠ 0 ∧
                      G
                        (x.fst * x.fst % Pl.mOf f, IntKind.i64.wrap (Int.tdiv x.snd.fst 2),
                          x.snd.snd.fst * x.fst % Pl.mOf f, ()))
                ((∃ (m : Int), f = mulClo m ∧ 1 ≤ m ∧ m ≤ 2147483647 ∧ 0 ≤ x.fst ∧ x.fst < m ∧ 0 ≤ x.fst ∧ x.fst < m) ∧
                  2 ≠ 0 ∧ G (x.fst * x.fst % Pl.mOf f, IntKind.i64.wrap (Int.tdiv x.snd.fst 2), x.snd.snd.fst, ())))
            ((x.snd.snd.fst, ()) = C156.post (f, o, a, n, ())))
        n_1 (a, n, o, ())
  have hm : Pl.mOf f = m := by rw [h1]; rfl
  have hpost : C156.post (f, o, a, n, ()) = (Pl.pw m a n, ()) := by
    show (Pl.pw (Pl.mOf f) a n, ()) = _
    rw [hm]
  simp only [hm, hpost]
  refine itl_rule (PowI m (Pl.pw m a n)) (fun x => x.2.1.toNat) (by rw [h4]; exact PowI.start h2 h5 h6 h7 h8) ?_
  rintro ⟨b, k, c, ⟨⟩⟩ G hI hG
  have hI' := hI
  obtain ⟨i0, i1, i2, i3, i4, i5, _⟩ := hI'
  simp only at i0 i1 i2 i3 i4 i5 ⊢
  refine Br_of (fun hb => ?_) (fun hb => ?_)
  · have hk := of_decide_eq_true hb
    obtain ⟨s1, s2⟩ := hI.step h2 hk
    rw [tmod_nn i2, tdiv_nn i2, wrap_i64 (x := k / 2) (by omega) (by omega)]
    refine ⟨by decide, Br_of (fun hc => ?_) (fun hc => ?_)⟩
    · have he : k % 2 = 1 := by simpa using hc
      rw [decide_eq_true he, cond_true] at s1
      exact ⟨⟨m, h1, by omega, h3, i4, i5, i0, i1⟩, ⟨m, h1, by omega, h3, i0, i1, i0, i1⟩, by decide, hG _ s1 s2⟩
    · have he : ¬ k % 2 = 1 := by simpa using hc
      rw [decide_eq_false he, cond_false] at s1
      exact ⟨⟨m, h1, by omega, h3, i0, i1, i0, i1⟩, by decide, hG _ s1 s2⟩
  · rw [hI.end_ (of_decide_eq_false hb)]

theorem vc128 : ∀ x, C128.pre x → VC T128 H0 Try.f128 C128 x := by
  rintro ⟨(m : Int), (a : Int), (n : Int), ⟨⟩⟩ ⟨h1, h2, h3, h4, h5⟩
  simp only at h1 h2 h3 h4 h5
  show m ≠ 0 ∧
      (∃ (m_1 : Int),
          D.clo 157 [D.rptr [D.clo 155 []], D.rptr [D.int IntKind.i64 m]] = mulClo m_1 ∧
            2 ≤ m_1 ∧ m_1 ≤ 2147483647 ∧ 1 = 1 ∧ 0 ≤ a.tmod m ∧ a.tmod m < m_1 ∧ 0 ≤ n ∧ n ≤ 9223372036854775807) ∧
        (Pl.pw (Pl.mOf (D.clo 157 [D.rptr [D.clo 155 []], D.rptr [D.int IntKind.i64 m]])) (a.tmod m) n, ()) =
          C128.post (m, a, n, ())
  rw [tmod_nn h3]
  exact ⟨by omega, ⟨m, rfl, h1, h2, rfl, Int.emod_nonneg _ (by omega), Int.emod_lt_of_pos _ (by omega), h4, h5⟩, rfl⟩

theorem vc100 : ∀ x, C100.pre x → VC T100 H100 Try.f100 C100 x := by
  rintro ⟨r, (a : Int), (n : Int), ⟨⟩⟩ ⟨h0, h5, h6, h7, h8⟩
  simp only at h0 h5 h6 h7 h8
  show ∃ (n_1 : Nat),
      itl
        (fun (G : Int × Int × Int × PUnit → Prop) (x : Int × Int × Int × PUnit) =>
          Br (decide (x.snd.fst > 0))
            (2 ≠ 0 ∧
              Br (Int.tmod x.snd.fst 2 == 1)
                ((Pl.recvOK r ∧ 0 ≤ x.snd.snd.fst ∧ x.snd.snd.fst < Pl.modOf r ∧ 0 ≤ x.fst ∧ x.fst < Pl.modOf r) ∧
                  (Pl.recvOK r ∧ 0 ≤ x.fst ∧ x.fst < Pl.modOf r ∧ 0 ≤ x.fst ∧ x.fst < Pl.modOf r) ∧
                    2 ≠ 0 ∧
                      G
                        (x.fst * x.fst % Pl.modOf r, IntKind.i64.wrap (Int.tdiv x.snd.fst 2),
                          x.snd.snd.fst * x.fst % Pl.modOf r, ()))
                ((Pl.recvOK r ∧ 0 ≤ x.fst ∧ x.fst < Pl.modOf r ∧ 0 ≤ x.fst ∧ x.fst < Pl.modOf r) ∧
                  2 ≠ 0 ∧ G (x.fst * x.fst % Pl.modOf r, IntKind.i64.wrap (Int.tdiv x.snd.fst 2), x.snd.snd.fst, ())))
            ((x.snd.snd.fst, ()) = C100.post (r, a, n, ())))
        n_1 (a, n, 1, ())
  have hm : 2 ≤ Pl.modOf r ∧ Pl.modOf r ≤ 65536 := by
    obtain ⟨p, k1, k2, rfl | ⟨g, rfl⟩⟩ := h0
    · exact ⟨k1, k2⟩
    · exact ⟨k1, k2⟩
  have hpost : C100.post (r, a, n, ()) = (Pl.pw (Pl.modOf r) a n, ()) := rfl
  rw [hpost]
  generalize Pl.modOf r = m at hm h6
  obtain ⟨h2, h3⟩ := hm
  refine itl_rule (PowI m (Pl.pw m a n)) (fun x => x.2.1.toNat) (PowI.start h2 h5 h6 h7 h8) ?_
  rintro ⟨b, k, c, ⟨⟩⟩ G hI hG
  have hI' := hI
  obtain ⟨i0, i1, i2, i3, i4, i5, _⟩ := hI'
  simp only at i0 i1 i2 i3 i4 i5 ⊢
  refine Br_of (fun hb => ?_) (fun hb => ?_)
  · have hk := of_decide_eq_true hb
    obtain ⟨s1, s2⟩ := hI.step h2 hk
    rw [tmod_nn i2, tdiv_nn i2, wrap_i64 (x := k / 2) (by omega) (by omega)]
    refine ⟨by decide, Br_of (fun hc => ?_) (fun hc => ?_)⟩
    · have he : k % 2 = 1 := by simpa using hc
      rw [decide_eq_true he, cond_true] at s1
      exact ⟨⟨h0, i4, i5, i0, i1⟩, ⟨h0, i0, i1, i0, i1⟩, by decide, hG _ s1 s2⟩
    · have he : ¬ k % 2 = 1 := by simpa using hc
      rw [decide_eq_false he, cond_false] at s1
      exact ⟨⟨h0, i0, i1, i0, i1⟩, by decide, hG _ s1 s2⟩
  · rw [hI.end_ (of_decide_eq_false hb)]

theorem vc131 : ∀ x, C131.pre x → VC T131 H0 Try.f131 C131 x := by
  rintro ⟨⟨(r : Int), (p : Int), (g : Int), ⟨⟩⟩, (n : Int), ⟨⟩⟩ ⟨h1, h2, h3, h4, h5, h6⟩
  simp only at h1 h2 h3 h4 h5 h6
  show True ∧
      (2 ≤ r ∧ r ≤ 2147483647 ∧ 0 ≤ g ∧ 0 ≤ n ∧ n ≤ 9223372036854775807) ∧
        (Pl.pw r (g % r) n, ()) = C131.post ((r, p, g, ()), n, ())
  rw [Int.emod_eq_of_lt h3 h4]
  exact ⟨trivial, ⟨h1, h2, h3, h5, h6⟩, rfl⟩

theorem vc159 : ∀ x, C159.pre x → VC T159 H0 Try.f159 C159 x := by
  rintro ⟨(x : Int), c, ⟨⟩⟩ ⟨r, p, g, h1, h2, h3, h4, h5, h6, h7⟩
  simp only at h1 h2 h3 h4 h5 h6 h7
  subst h1
  show True ∧
      (2 ≤ r ∧ r ≤ 2147483647 ∧ 0 ≤ x ∧ 0 ≤ p ∧ p ≤ 9223372036854775807) ∧
        (Pl.pw r (x % r) p != 1, ()) = C159.post (x, D.rptr [n64 r, n64 p, n64 g], ())
  rw [Int.emod_eq_of_lt h6 h7]
  refine ⟨trivial, ⟨h2, h3, h6, h4, by omega⟩, ?_⟩
  show _ = (decide (Pl.pw r x p ≠ 1), ())
  congr 1
  simp only [bne]
  by_cases h : Pl.pw r x p = 1 <;> simp [h]

end Tl
