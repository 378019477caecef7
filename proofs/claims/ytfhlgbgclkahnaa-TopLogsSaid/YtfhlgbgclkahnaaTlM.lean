/- TopLogs itself. -/
import Derived.Test.YtfhlgbgclkahnaaTlL
set_option linter.unusedVariables false
set_option linter.unusedSimpArgs false
set_option maxRecDepth 100000
namespace Tl
open Go Fw Go.Proofs

theorem pg_all (p : Int) : ∃ R G g h m N, Pg (Pl.prime8 p) R G g h m N := by
  have h := small_range (n := p) (m := 7) (by decide)
  unfold Pl.prime8
  generalize Pl.small p 7 = i at h
  have : i = 0 ∨ i = 1 ∨ i = 2 ∨ i = 3 ∨ i = 4 ∨ i = 5 ∨ i = 6 ∨ i = 7 := by omega
  rcases this with rfl | rfl | rfl | rfl | rfl | rfl | rfl | rfl
  · exact ⟨_, _, _, _, _, _, good7⟩
  · exact ⟨_, _, _, _, _, _, good11⟩
  · exact ⟨_, _, _, _, _, _, good13⟩
  · exact ⟨_, _, _, _, _, _, good17⟩
  · exact ⟨_, _, _, _, _, _, good31⟩
  · exact ⟨_, _, _, _, _, _, good97⟩
  · exact ⟨_, _, _, _, _, _, good251⟩
  · exact ⟨_, _, _, _, _, _, good1009⟩

theorem vc18 : ∀ x, C18.pre x → VC T18 H0 Try.f18 C18 x := by
  rintro ⟨(p : Int), (n : Int), ⟨⟩⟩ -
  show True ∧
      Pl.okP (Pl.prime8 p) = true ∧
        Br ((0 : I.El) != (0 : Int)) ((false, ()) = C18.post (p, n, ()))
          (((3 : Int) ≤ Pl.theR (Pl.prime8 p) ∧
              Pl.theR (Pl.prime8 p) ≤ (65536 : Int) ∧
                Pl.isPrime (Pl.theR (Pl.prime8 p)) = true ∧
                  Pl.gen (Pl.theR (Pl.prime8 p)) ≠ (0 : Int) ∧ Pl.gen (Pl.theR (Pl.prime8 p)) < Pl.theR (Pl.prime8 p)) ∧
            Br ((0 : I.El) != (0 : Int)) ((false, ()) = C18.post (p, n, ()))
              (((0 : Int) ≤ IntKind.i64.wrap (Pl.prime8 p - (1 : Int)) ∧
                  IntKind.i64.wrap (Pl.prime8 p - (1 : Int)) ≤ (4611686018427387904 : Int)) ∧
                Pl.checkG (Pl.theR (Pl.prime8 p)) (Pl.prime8 p) (Pl.theG (Pl.prime8 p)) = (0 : Int) ∧
                  (∃ (p_1 : Int),
                      ∃ (g : Int),
                        D.rptr (fieldC (Pl.theR (Pl.prime8 p)) (Pl.gen (Pl.theR (Pl.prime8 p)))) = fieldD p_1 g ∧
                          (3 : Int) ≤ p_1 ∧ p_1 ≤ (65536 : Int)) ∧
                    Br
                      ((bif
                            Pl.inB (0 : Int) (Pl.prime8 p - (1 : Int))
                              (Pl.small n (IntKind.i64.wrap (Pl.prime8 p - (1 : Int)))) then
                          (0 : I.El)
                        else (1 : I.El)) !=
                        (0 : Int))
                      ((false, ()) = C18.post (p, n, ()))
                      (Br
                        ((Pl.powF (Pl.qOf (D.rptr (fieldC (Pl.theR (Pl.prime8 p)) (Pl.gen (Pl.theR (Pl.prime8 p))))))
                              (Pl.theG (Pl.prime8 p)) (Pl.small n (IntKind.i64.wrap (Pl.prime8 p - (1 : Int))))).snd !=
                          (0 : Int))
                        ((false, ()) = C18.post (p, n, ()))
                        (Br
                          ((bif
                                Pl.inB (0 : Int) (Pl.prime8 p - (1 : Int))
                                  (Pl.small n (IntKind.i64.wrap (Pl.prime8 p - (1 : Int)))) then
                              Pl.pw (Pl.theR (Pl.prime8 p)) (Pl.theG (Pl.prime8 p))
                                (Pl.small n (IntKind.i64.wrap (Pl.prime8 p - (1 : Int))))
                            else (0 : I.El)) !=
                            (Pl.powF (Pl.qOf (D.rptr (fieldC (Pl.theR (Pl.prime8 p)) (Pl.gen (Pl.theR (Pl.prime8 p))))))
                                (Pl.theG (Pl.prime8 p)) (Pl.small n (IntKind.i64.wrap (Pl.prime8 p - (1 : Int))))).fst)
                          ((false, ()) = C18.post (p, n, ()))
                          (((0 : Int) ≤ IntKind.i64.wrap (Pl.theR (Pl.prime8 p) - (2 : Int)) ∧
                              IntKind.i64.wrap (Pl.theR (Pl.prime8 p) - (2 : Int)) ≤ (4611686018427387904 : Int)) ∧
                            (∃ (p_1 : Int),
                                ∃ (g : Int),
                                  D.rptr (fieldC (Pl.theR (Pl.prime8 p)) (Pl.gen (Pl.theR (Pl.prime8 p)))) = fieldD p_1 g ∧
                                    (2 : Int) ≤ p_1 ∧
                                      p_1 ≤ (65536 : Int) ∧
                                        (0 : Int) ≤ g ∧
                                          g < p_1 ∧
                                            (IntKind.i64.wrap
                                                    ((1 : Int) +
                                                      Pl.small n (IntKind.i64.wrap (Pl.theR (Pl.prime8 p) - (2 : Int)))) %
                                                  p_1 ≠
                                                (0 : Int) →
                                              Pl.logOK p_1 g
                                                  (IntKind.i64.wrap
                                                      ((1 : Int) +
                                                        Pl.small n (IntKind.i64.wrap (Pl.theR (Pl.prime8 p) - (2 : Int)))) %
                                                    p_1)
                                                  (65537 : Nat) (1 : Int) =
                                                true)) ∧
                              Br
                                ((bif
                                      decide
                                        (IntKind.i64.wrap
                                              ((1 : Int) +
                                                Pl.small n (IntKind.i64.wrap (Pl.theR (Pl.prime8 p) - (2 : Int)))) %
                                            Pl.qOf
                                              (D.rptr (fieldC (Pl.theR (Pl.prime8 p)) (Pl.gen (Pl.theR (Pl.prime8 p))))) =
                                          (0 : Int)) then
                                    (6 : I.El)
                                  else (0 : I.El)) ==
                                  (0 : Int))
                                (Pl.checkG (Pl.theR (Pl.prime8 p)) (Pl.prime8 p) (Pl.theG (Pl.prime8 p)) = (0 : Int) ∧
                                  Pl.prime8 p ≠ (0 : Int) ∧
                                    IntKind.i64.wrap
                                          ((IntKind.i64.wrap (Pl.theR (Pl.prime8 p) - (1 : Int))).tdiv (Pl.prime8 p)) ≠
                                        (0 : Int) ∧
                                      Br
                                        (Pl.isElt (Pl.theR (Pl.prime8 p)) (Pl.prime8 p)
                                            (IntKind.i64.wrap
                                              ((1 : Int) +
                                                Pl.small n (IntKind.i64.wrap (Pl.theR (Pl.prime8 p) - (2 : Int))))) ==
                                          (Int.tmod
                                              (bif
                                                  decide
                                                    (IntKind.i64.wrap
                                                          ((1 : Int) +
                                                            Pl.small n
                                                              (IntKind.i64.wrap (Pl.theR (Pl.prime8 p) - (2 : Int)))) %
                                                        Pl.qOf
                                                          (D.rptr
                                                            (fieldC (Pl.theR (Pl.prime8 p))
                                                              (Pl.gen (Pl.theR (Pl.prime8 p))))) =
                                                      (0 : Int)) then
                                                (0 : I.El)
                                              else
                                                Pl.logI
                                                  (Pl.qOf
                                                    (D.rptr
                                                      (fieldC (Pl.theR (Pl.prime8 p)) (Pl.gen (Pl.theR (Pl.prime8 p))))))
                                                  (Pl.gOf
                                                    (D.rptr
                                                      (fieldC (Pl.theR (Pl.prime8 p)) (Pl.gen (Pl.theR (Pl.prime8 p))))))
                                                  (IntKind.i64.wrap
                                                      ((1 : Int) +
                                                        Pl.small n (IntKind.i64.wrap (Pl.theR (Pl.prime8 p) - (2 : Int)))) %
                                                    Pl.qOf
                                                      (D.rptr
                                                        (fieldC (Pl.theR (Pl.prime8 p)) (Pl.gen (Pl.theR (Pl.prime8 p)))))))
                                              (IntKind.i64.wrap
                                                ((IntKind.i64.wrap (Pl.theR (Pl.prime8 p) - (1 : Int))).tdiv
                                                  (Pl.prime8 p))) ==
                                            (0 : Int)))
                                        (True ∧ (true, ()) = C18.post (p, n, ())) ((false, ()) = C18.post (p, n, ())))
                                ((false, ()) = C18.post (p, n, ())))))))
  obtain ⟨R, G, g, h, m, N, K⟩ := pg_all p
  generalize Pl.prime8 p = P at K ⊢
  obtain ⟨b1, b2, b3, b4, b5, b6, b7, b8, b9⟩ := K.b
  have hpost : C18.post (p, n, ()) = (true, ()) := rfl
  simp only [K.fr, K.fg, K.fgen, hpost]
  have hq : Pl.qOf (D.rptr (fieldC R g)) = R := rfl
  have hg : Pl.gOf (D.rptr (fieldC R g)) = g := rfl
  have hN := K.fn
  simp only [hq, hg]
  have w1 : IntKind.i64.wrap (P - 1) = P - 1 := wrap_i64 (by omega) (by omega)
  have w2 : IntKind.i64.wrap (R - 2) = R - 2 := wrap_i64 (by omega) (by omega)
  have w3 : IntKind.i64.wrap (R - 1) = R - 1 := wrap_i64 (by omega) (by omega)
  simp only [w1, w2, w3]
  have k1 := small_range (n := n) (m := P - 1) (by omega)
  have k2 := small_range (n := n) (m := R - 2) (by omega)
  generalize Pl.small n (P - 1) = k at k1 ⊢
  generalize Pl.small n (R - 2) = z at k2 ⊢
  have w4 : IntKind.i64.wrap (1 + z) = 1 + z := wrap_i64 (by omega) (by omega)
  have w5 : (1 + z) % R = 1 + z := Int.emod_eq_of_lt (by omega) (by omega)
  have w6 : (R - 1).tdiv P = m := by rw [tdiv_nn (by omega)]; exact K.fm
  have w8 : m ≤ R := by rw [← K.fm]; exact Int.le_trans (Int.ediv_le_self _ (by omega)) (by omega)
  have w7 : IntKind.i64.wrap m = m := wrap_i64 (by omega) (by omega)
  simp only [w4]
  simp only [w5]
  simp only [w6]
  rw [w7]
  have hz : ¬ (1 + z = 0) := by omega
  rw [decide_eq_false hz]
  have hin : Pl.inB 0 (P - 1) k = true := inB_iff.2 ⟨k1.1, k1.2⟩
  rw [hin]
  have hG : G % R = G := Int.emod_eq_of_lt (by omega) b9
  have hpow : Pl.powF R G k = (Pl.pw R G k, 0) := by
    unfold Pl.powF
    by_cases hk : k = 0
    · subst hk
      rw [decide_eq_true rfl, cond_true]
      unfold Pl.pw
      rw [powL_zero]
    · rw [decide_eq_false hk, hG, decide_eq_false (by omega : ¬ G = 0), Int.emod_eq_of_lt (a := k) (by omega) (by omega)]
      rfl
  rw [hpow]
  obtain ⟨l1, l2⟩ := log_law hN K.fchk K.finv (by omega) (by omega) (1 + z) (by omega) (by omega)
  have hlog0 : 0 ≤ Pl.logI R g (1 + z) := by
    obtain ⟨l, hl, e⟩ := seq_all hN K.fchk K.finv (by omega) (1 + z) (by omega) (by omega)
    have k := log_go hN K.fchk K.finv (by omega) l 0 65537 (by omega) (by omega)
    rw [Nat.zero_add, e] at k
    have : Pl.logI R g (1 + z) = (l : Int) := k.2
    omega
  rw [cond_false, cond_false, cond_true, cond_true, tmod_nn hlog0, l2]
  refine ⟨trivial, K.ok, Br_of (fun hb => by simp at hb) fun _ => ⟨⟨b1, b2, K.prime, by omega, b4⟩, Br_of (fun hb => by simp at hb) fun _ => ⟨⟨by omega, by omega⟩, K.check, ⟨R, g, rfl, b1, b2⟩, ?_⟩⟩⟩
  refine Br_of (fun hb => by simp at hb) fun _ => Br_of (fun hb => by simp at hb) fun _ => Br_of (fun hb => by simp at hb) fun _ => ⟨⟨by omega, by omega⟩, ⟨R, g, rfl, by omega, b2, by omega, b4, fun _ => by rw [w5]; exact l1⟩, ?_⟩
  refine Br_of (fun _ => ⟨K.check, by omega, by omega, ?_⟩) (fun hb => by simp at hb)
  refine Br_of (fun _ => ⟨trivial, trivial⟩) (fun hb => ?_)
  exfalso
  revert hb
  by_cases h0 : Pl.logI R g (1 + z) % m = 0 <;> simp [h0]

theorem snd18 : Sound Try.prog 18 C18 := fn_sound (T := T18) (fn := Try.f18) (tok ⟨snd84, snd83, snd78, snd85, snd86, snd38, snd39, snd87, snd88, trivial⟩) (by kernel_rfl) (by kernel_rfl) H0 vc18 (by kernel_rfl)

end Tl
