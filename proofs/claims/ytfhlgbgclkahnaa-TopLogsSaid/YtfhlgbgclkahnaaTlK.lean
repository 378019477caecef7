/- TopLogs: the plain law (2): what powers of a generator are. -/
import Derived.Test.YtfhlgbgclkahnaaTlJ
set_option linter.unusedVariables false
set_option linter.unusedSimpArgs false
set_option linter.unusedSectionVars false
set_option maxRecDepth 100000
namespace Tl
open Go Fw Go.Proofs

def seqP (R g : Int) : Nat → Int
  | 0 => 1
  | l + 1 => seqP R g l * g % R
/-- Goes over all powers. -/
def chk (R P m g : Int) : Nat → Int → Int → Bool
  | 0, x, l => true
  | f + 1, x, l => (decide (Pl.pw R x P = 1) == decide (l % m = 0)) && (decide (l = 0) || decide (x ≠ 1)) && (decide (1 ≤ x) && decide (x < R)) && chk R P m g f (x * g % R) (l + 1)

theorem chk_spec {R P m g : Int} : ∀ (f i : Nat), chk R P m g f (seqP R g i) i = true → ∀ l, i ≤ l → l < i + f →
    (decide (Pl.pw R (seqP R g l) P = 1) = decide ((l : Int) % m = 0)) ∧ (0 < l → seqP R g l ≠ 1) ∧ 1 ≤ seqP R g l ∧ seqP R g l < R
  | 0, i, h, l, h1, h2 => by omega
  | f + 1, i, h, l, h1, h2 => by
    unfold chk at h
    simp only [Bool.and_eq_true] at h
    obtain ⟨⟨⟨c1, c2⟩, c3, c4⟩, c5⟩ := h
    rcases Nat.lt_or_ge i l with hlt | hge
    · exact chk_spec f (i + 1) (by have := c5; simpa [seqP] using this) l hlt (by omega)
    · have : l = i := by omega
      subst this
      refine ⟨by simpa using c1, fun hp => ?_, of_decide_eq_true c3, of_decide_eq_true c4⟩
      rcases Bool.or_eq_true _ _ |>.mp c2 with c | c
      · have := of_decide_eq_true c; omega
      · exact of_decide_eq_true c

section
variable {R P m g h : Int} {N : Nat} (hN : (N : Int) = R - 1) (hc : chk R P m g N 1 0 = true) (hh : g * h % R = 1) (hR : 2 ≤ R)
include hN hc hh hR

theorem seq_ok (l : Nat) (hl : l < N) : (decide (Pl.pw R (seqP R g l) P = 1) = decide ((l : Int) % m = 0)) ∧ (0 < l → seqP R g l ≠ 1) ∧ 1 ≤ seqP R g l ∧ seqP R g l < R :=
  chk_spec N 0 (by simpa [seqP] using hc) l (by omega) (by omega)
theorem seq_back (l : Nat) (hl : l < N) : seqP R g l = seqP R g (l + 1) * h % R := by
  obtain ⟨_, _, h1, h2⟩ := seq_ok hN hc hh hR l hl
  show _ = seqP R g l * g % R * h % R
  rw [Int.mul_emod (seqP R g l * g % R), Int.emod_emod_of_dvd _ (Int.dvd_refl R), ← Int.mul_emod, Int.mul_assoc, Int.mul_emod, hh, Int.mul_one, Int.emod_emod_of_dvd _ (Int.dvd_refl R)]
  exact (Int.emod_eq_of_lt (by omega) h2).symm
theorem seq_inj : ∀ (i j : Nat), i < N → j < N → i ≤ j → seqP R g i = seqP R g j → i = j
  | 0, j, _, hj, _, e => by
    apply Classical.byContradiction
    intro hne
    exact (seq_ok hN hc hh hR j hj).2.1 (by omega) e.symm
  | i + 1, 0, _, _, hle, _ => by omega
  | i + 1, j + 1, hi, hj, hle, e => by
    have h1 := seq_back hN hc hh hR i (by omega)
    have h2 := seq_back hN hc hh hR j (by omega)
    have := seq_inj i j (by omega) (by omega) (by omega) (by rw [h1, h2, e])
    omega
theorem seq_inj' (i j : Nat) (hi : i < N) (hj : j < N) (e : seqP R g i = seqP R g j) : i = j := by
  rcases Nat.le_total i j with hle | hle
  · exact seq_inj hN hc hh hR i j hi hj hle e
  · exact (seq_inj hN hc hh hR j i hj hi hle e.symm).symm
theorem seq_all (z : Int) (h1 : 1 ≤ z) (h2 : z < R) : ∃ l, l < N ∧ seqP R g l = z := by
  obtain ⟨l, hl, e⟩ := php2 N (fun l => (seqP R g l - 1).toNat) (fun i j hi hj e => seq_inj' hN hc hh hR i j hi hj (by
    have a := seq_ok hN hc hh hR i hi
    have b := seq_ok hN hc hh hR j hj
    omega)) (fun i hi => by
    have a := seq_ok hN hc hh hR i hi
    omega) (z - 1).toNat (by omega)
  refine ⟨l, hl, ?_⟩
  have a := seq_ok hN hc hh hR l hl
  omega

theorem log_go : ∀ (d i f : Nat), i + d < N → d < f → Pl.logOK R g (seqP R g (i + d)) f (seqP R g i) = true ∧ Pl.logL R g (seqP R g (i + d)) f (seqP R g i) i = ((i + d : Nat) : Int)
  | 0, i, f + 1, _, _ => by simp [Pl.logOK, Pl.logL]
  | d + 1, i, f + 1, h1, h2 => by
    have hne : ¬ seqP R g i = seqP R g (i + (d + 1)) := fun e => by
      have := seq_inj' hN hc hh hR _ _ (by omega) h1 e
      omega
    have ih := log_go d (i + 1) f (by omega) (by omega)
    rw [show i + 1 + d = i + (d + 1) by omega] at ih
    unfold Pl.logOK Pl.logL
    rw [decide_eq_false hne, cond_false, cond_false]
    exact ⟨ih.1, by have := ih.2; simpa [seqP] using this⟩
  | _, _, 0, _, h => by omega

/-- What is told of every element. -/
theorem log_law (hN2 : N < 65537) (z : Int) (h1 : 1 ≤ z) (h2 : z < R) : Pl.logOK R g z 65537 1 = true ∧ Pl.isElt R P z = decide (Pl.logI R g z % m = 0) := by
  obtain ⟨l, hl, e⟩ := seq_all hN hc hh hR z h1 h2
  have k := log_go hN hc hh hR l 0 65537 (by omega) (by omega)
  rw [Nat.zero_add, e] at k
  refine ⟨k.1, ?_⟩
  have hlog : Pl.logI R g z = (l : Int) := k.2
  have a := (seq_ok hN hc hh hR l hl).1
  rw [e] at a
  unfold Pl.isElt
  rw [a, hlog, inB_iff.2 ⟨h1, by omega⟩, Bool.true_and]
end

end Tl
