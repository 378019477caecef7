import Derived.Shelf.Lays7
import Derived.Shelf.LaysM
import Derived.Shelf.Small.Bits
import Derived.Shelf.Spec.BitsCarry
import Derived.Shelf.Bits.Mul64
import Derived.Shelf.Strings.Repeat
import Derived.Shelf.Strings.Prefix
import Derived.Shelf.Strings.Cut
import Derived.Shelf.Strconv.Itoa1
import Derived.Shelf.Strconv.Itoa2
import Derived.Lib.Walk
import Derived.Lib.ItoaMem
import Derived.BigCall
import Derived.BigGuard
import Derived.Lib.Strings
import Derived.Tactics
import Derived.Tactics2
import Derived.WalkKit
import Derived.Laws.Pointers
import Derived.Defers
import Derived.Recover
import Derived.Lib.Hide
import Derived.Test.YtfggmdgegfadkaaDoorM2
section
/- Natural numbers: sums, differences, halves, sizes. -/
set_option linter.unusedVariables false
set_option linter.unusedSimpArgs false
set_option maxRecDepth 100000
namespace Ta
open Go Fw Go.Proofs Pl

/-- Digits from a place on that are 0: what the digits are worth comes of those ahead. -/
def ZeroFrom (l : List Int) (k : Nat) : Prop := ∀ j, k ≤ j → l.getD j 0 = 0
theorem zero_replicate (n k : Nat) : ZeroFrom (List.replicate n 0) k := fun j _ => by
  rcases Nat.lt_or_ge j n with h | h
  · rw [getD_get (by simpa using h)]; simp
  · rw [getD_out (by simpa using h)]
theorem getD_set {l : List Int} {i j : Nat} {d : Int} : (l.set i d).getD j 0 = if i = j ∧ i < l.length then d else l.getD j 0 := by
  simp only [List.getD_eq_getElem?_getD, List.getElem?_set]
  by_cases h : i = j
  · subst h
    by_cases h2 : i < l.length
    · simp [h2]
    · simp [h2]
  · simp [h]
theorem zero_set {l : List Int} {k : Nat} {d : Int} (h : ZeroFrom l k) : ZeroFrom (l.set k d) (k + 1) := fun j hj => by
  rw [getD_set, if_neg (by omega)]
  exact h j (by omega)
theorem vl_set0 {B : Nat} {l : List Int} {k : Nat} {d : Int} (hk : k < l.length) (h : l.getD k 0 = 0) : vl B (l.set k d) = vl B l + B ^ k * d.toNat := by
  have := vl_set (B := B) (d := d) hk
  rw [getD_get hk] at h
  rw [h] at this
  simpa using this

theorem vc120 : ∀ x, C120.pre x → VC T120 H120 Tryd.f54 C120 x := by
  rintro ⟨(x : List Int), (y : List Int), ⟨⟩⟩ ⟨⟨hx, lx⟩, hy, ly⟩
  show (0 : Int) ≤ IntKind.i64.wrap ((if (↑y.length : Int) > (↑x.length : Int) then (↑y.length : Int) else (↑x.length : Int)) + (1 : Int)) ∧ IntKind.i64.wrap ((if (↑y.length : Int) > (↑x.length : Int) then (↑y.length : Int) else (↑x.length : Int)) + (1 : Int)) = IntKind.i64.wrap ((if (↑y.length : Int) > (↑x.length : Int) then (↑y.length : Int) else (↑x.length : Int)) + (1 : Int)) ∧ IntKind.i64.wrap ((if (↑y.length : Int) > (↑x.length : Int) then (↑y.length : Int) else (↑x.length : Int)) + (1 : Int)) * (8 : Int) ≤ (140737488355328 : Int) ∧ ∃ (n : Nat), itl (fun (G : List Int × Int × Int × PUnit → Prop) (x_1 : List Int × Int × Int × PUnit) => Br (decide (x_1.snd.snd.fst < if (↑y.length : Int) > (↑x.length : Int) then (↑y.length : Int) else (↑x.length : Int))) ((0 : Int) ≤ x_1.snd.snd.fst ∧ (0 : Int) ≤ x_1.snd.snd.fst ∧ (((0 : Int) ≤ Pl.wd x x_1.snd.snd.fst ∧ Pl.wd x x_1.snd.snd.fst < (18446744073709551616 : Int)) ∧ ((0 : Int) ≤ Pl.wd y x_1.snd.snd.fst ∧ Pl.wd y x_1.snd.snd.fst < (18446744073709551616 : Int)) ∧ (0 : Int) ≤ x_1.snd.fst ∧ x_1.snd.fst ≤ (1 : Int)) ∧ (0 : Int) ≤ x_1.snd.snd.fst ∧ x_1.snd.snd.fst < (↑(List.length x_1.fst) : Int) ∧ (0 : Int) ≤ x_1.snd.snd.fst ∧ x_1.snd.snd.fst < (↑(List.length x_1.fst) : Int) ∧ G (List.set x_1.fst (Int.toNat x_1.snd.snd.fst) ((Pl.wd x x_1.snd.snd.fst + Pl.wd y x_1.snd.snd.fst + x_1.snd.fst) % (18446744073709551616 : U.El)), (Pl.wd x x_1.snd.snd.fst + Pl.wd y x_1.snd.snd.fst + x_1.snd.fst) / (18446744073709551616 : U.El), IntKind.i64.wrap (x_1.snd.snd.fst + (1 : Int)), ())) (((0 : Int) ≤ if (↑y.length : Int) > (↑x.length : Int) then (↑y.length : Int) else (↑x.length : Int)) ∧ (if (↑y.length : Int) > (↑x.length : Int) then (↑y.length : Int) else (↑x.length : Int)) < (↑(List.length x_1.fst) : Int) ∧ ((0 : Int) ≤ if (↑y.length : Int) > (↑x.length : Int) then (↑y.length : Int) else (↑x.length : Int)) ∧ (if (↑y.length : Int) > (↑x.length : Int) then (↑y.length : Int) else (↑x.length : Int)) < (↑(List.length x_1.fst) : Int) ∧ Pl.rg2 (List.set x_1.fst (if (↑y.length : Int) > (↑x.length : Int) then (↑y.length : Int) else (↑x.length : Int)).toNat x_1.snd.fst) ∧ (Pl.trm (List.set x_1.fst (if (↑y.length : Int) > (↑x.length : Int) then (↑y.length : Int) else (↑x.length : Int)).toNat x_1.snd.fst), ()) = C120.post (x, y, ()))) n (List.replicate (IntKind.i64.wrap ((if (↑y.length : Int) > (↑x.length : Int) then (↑y.length : Int) else (↑x.length : Int)) + (1 : Int))).toNat (0 : Int), (0 : Int), (0 : Int), ())
  have e : C120.post (x, y, ()) = (dg W (vl W x + vl W y), ()) := rfl
  rw [e]
  simp only [LEN] at lx ly hx hy
  obtain ⟨m, hm, hmx, hmy⟩ : ∃ m : Nat, (if (y.length : Int) > (x.length : Int) then (y.length : Int) else (x.length : Int)) = (m : Int) ∧ x.length ≤ m ∧ y.length ≤ m ∧ m ≤ 1000000000 := by
    split
    · exact ⟨y.length, rfl, by omega, by omega, by omega⟩
    · exact ⟨x.length, rfl, by omega, by omega, by omega⟩
  rw [hm, wrap_i64 (x := (m : Int) + 1) (by omega) (by omega)]
  refine ⟨by omega, rfl, by omega, ?_⟩
  have em : ((m : Int) + 1).toNat = m + 1 := by omega
  rw [em]
  refine itl_rule (fun s => ∃ (k : Nat) (c : Nat), s.2.2.1 = (k : Int) ∧ s.2.1 = (c : Int) ∧ c ≤ 1 ∧ k ≤ m ∧ s.1.length = m + 1 ∧ rng W s.1 ∧ ZeroFrom s.1 k ∧ vl W s.1 + W ^ k * c = vl W (x.take k) + vl W (y.take k))
    (fun s => m - s.2.2.1.toNat) ⟨0, 0, rfl, rfl, by omega, by omega, by simp, rng_replicate (by decide), zero_replicate _ _, by simp [vl_replicate, vl]⟩ ?_
  rintro ⟨out, cc, i, ⟨⟩⟩ G ⟨k, c, hi, hc, h1, h2, h3, h4, h5, h6⟩ hG
  simp only at hi hc h3 h4 h5 h6
  subst hi hc
  simp only
  have wx := rngW hx k
  have wy := rngW hy k
  have ex : wd x (k : Int) = x.getD k 0 := rfl
  have ey : wd y (k : Int) = y.getD k 0 := rfl
  refine Br_of (fun hb => ?_) (fun hb => ?_)
  · have hk : k < m := by have := of_decide_eq_true hb; omega
    rw [ex, ey]
    refine ⟨by omega, by omega, ⟨wx, wy, by omega, by omega⟩, by omega, by omega, by omega, by omega, ?_⟩
    rw [wrap_i64 (by omega) (by omega)]
    generalize hX : x.getD k 0 = X at wx ⊢
    generalize hY : y.getD k 0 = Y at wy ⊢
    refine hG _ ⟨k + 1, ((X + Y + c) / 18446744073709551616).toNat, by simp only; omega, by simp only; omega, by omega, by omega, by simpa using h3, rng_set h4 (by rw [W_eq]; omega), ?_, ?_⟩ (by simp only; omega)
    · simp only [Int.toNat_natCast]; exact zero_set h5
    · simp only [Int.toNat_natCast]
      rw [vl_set0 (by omega) (h5 k (Nat.le_refl _)), vl_take_getD (B := W) (l := x) k, vl_take_getD (B := W) (l := y) k, hX, hY]
      have e1 : ((X + Y + (c : Int)) % 18446744073709551616).toNat + W * ((X + Y + c) / 18446744073709551616).toNat = X.toNat + Y.toNat + c := by rw [W_eq]; omega
      have e2 := congrArg (fun z => W ^ k * z) e1
      simp only [Nat.mul_add] at e2
      rw [← Nat.mul_assoc, ← Nat.pow_succ, Nat.succ_eq_add_one] at e2
      omega
  · have hk : k = m := by have := of_decide_eq_false hb; omega
    subst hk
    simp only [Int.toNat_natCast]
    refine ⟨by omega, by omega, by omega, by omega, ⟨rng_set h4 (by rw [W_eq]; omega), by unfold LEN2; simp; omega⟩, ?_⟩
    show (dg W (vl W (out.set k (c : Int))), ()) = _
    rw [vl_set0 (by omega) (h5 k (Nat.le_refl _)), Int.toNat_natCast, h6, List.take_of_length_le hmx, List.take_of_length_le hmy.1]

theorem vc121 : ∀ x, C121.pre x → VC T121 H121 Tryd.f63 C121 x := by
  rintro ⟨(x : List Int), (y : List Int), ⟨⟩⟩ ⟨⟨cx, lx⟩, ⟨cy, ly⟩, hle⟩
  show (0 : Int) ≤ (↑x.length : Int) ∧ (↑x.length : Int) = (↑x.length : Int) ∧ (↑x.length : Int) * (8 : Int) ≤ (140737488355328 : Int) ∧ ∃ (n : Nat), itl (fun (G : List Int × Int × Int × PUnit → Prop) (x_1 : List Int × Int × Int × PUnit) => Br (decide (x_1.snd.snd.fst < (↑(List.replicate (↑x.length : Int).toNat (0 : Int)).length : Int))) ((0 : Int) ≤ x_1.snd.snd.fst ∧ x_1.snd.snd.fst < (↑x.length : Int) ∧ (0 : Int) ≤ x_1.snd.snd.fst ∧ (((0 : Int) ≤ rd u64 x x_1.snd.snd.fst ∧ rd u64 x x_1.snd.snd.fst < (18446744073709551616 : Int)) ∧ ((0 : Int) ≤ Pl.wd y x_1.snd.snd.fst ∧ Pl.wd y x_1.snd.snd.fst < (18446744073709551616 : Int)) ∧ (0 : Int) ≤ x_1.snd.fst ∧ x_1.snd.fst ≤ (1 : Int)) ∧ (0 : Int) ≤ x_1.snd.snd.fst ∧ x_1.snd.snd.fst < (↑(List.length x_1.fst) : Int) ∧ (0 : Int) ≤ x_1.snd.snd.fst ∧ x_1.snd.snd.fst < (↑(List.length x_1.fst) : Int) ∧ G (List.set x_1.fst (Int.toNat x_1.snd.snd.fst) ((rd u64 x x_1.snd.snd.fst - Pl.wd y x_1.snd.snd.fst - x_1.snd.fst) % (18446744073709551616 : U.El)), -((rd u64 x x_1.snd.snd.fst - Pl.wd y x_1.snd.snd.fst - x_1.snd.fst) / (18446744073709551616 : U.El)), IntKind.i64.wrap (x_1.snd.snd.fst + (1 : Int)), ())) (Pl.rg2 x_1.1 ∧ (Pl.trm x_1.1, ()) = C121.post (x, y, ()))) n (List.replicate (↑x.length : Int).toNat (0 : Int), (0 : Int), (0 : Int), ())
  have e : C121.post (x, y, ()) = (dg W (vl W x - vl W y), ()) := rfl
  rw [e]
  have hle' : vl W y ≤ vl W x := hle
  simp only [LEN] at lx ly cx cy
  have hx := cx.1
  have hy := cy.1
  have hlen : y.length ≤ x.length := by
    rcases Nat.lt_or_ge x.length y.length with h | h
    · have := vl_cmp_len W2 hx cy h; omega
    · exact h
  refine ⟨by omega, rfl, by omega, ?_⟩
  simp only [Int.toNat_natCast, List.length_replicate]
  refine itl_rule (fun s => ∃ (k : Nat) (c : Nat), s.2.2.1 = (k : Int) ∧ s.2.1 = (c : Int) ∧ c ≤ 1 ∧ k ≤ x.length ∧ s.1.length = x.length ∧ rng W s.1 ∧ ZeroFrom s.1 k ∧ vl W s.1 + vl W (y.take k) = vl W (x.take k) + W ^ k * c)
    (fun s => x.length - s.2.2.1.toNat) ⟨0, 0, rfl, rfl, by omega, by omega, by simp, rng_replicate (by decide), zero_replicate _ _, by simp [vl_replicate, vl]⟩ ?_
  rintro ⟨out, cc, i, ⟨⟩⟩ G ⟨k, c, hi, hc, h1, h2, h3, h4, h5, h6⟩ hG
  simp only at hi hc h3 h4 h5 h6
  subst hi hc
  simp only
  have wx := rngW hx k
  have wy := rngW hy k
  have ey : wd y (k : Int) = y.getD k 0 := rfl
  refine Br_of (fun hb => ?_) (fun hb => ?_)
  · have hk : k < x.length := by have := of_decide_eq_true hb; omega
    rw [ey, rdW (by omega) (by omega)]
    simp only [Int.toNat_natCast]
    refine ⟨by omega, by omega, by omega, ⟨wx, wy, by omega, by omega⟩, by omega, by omega, by omega, by omega, ?_⟩
    rw [wrap_i64 (by omega) (by omega)]
    generalize hX : x.getD k 0 = X at wx ⊢
    generalize hY : y.getD k 0 = Y at wy ⊢
    refine hG _ ⟨k + 1, (-((X - Y - c) / 18446744073709551616)).toNat, by simp only; omega, by simp only; omega, by omega, by omega, by simpa using h3, rng_set h4 (by rw [W_eq]; omega), zero_set h5, ?_⟩ (by simp only; omega)
    simp only
    rw [vl_set0 (by omega) (h5 k (Nat.le_refl _)), vl_take_getD (B := W) (l := x) k, vl_take_getD (B := W) (l := y) k, hX, hY]
    have e1 : ((X - Y - (c : Int)) % 18446744073709551616).toNat + (Y.toNat + c) = X.toNat + W * (-((X - Y - c) / 18446744073709551616)).toNat := by rw [W_eq]; omega
    have e2 := congrArg (fun z => W ^ k * z) e1
    simp only [Nat.mul_add] at e2
    rw [← Nat.mul_assoc, ← Nat.pow_succ, Nat.succ_eq_add_one] at e2
    omega
  · have hk : k = x.length := by have := of_decide_eq_false hb; omega
    subst hk
    rw [List.take_of_length_le (Nat.le_refl _), List.take_of_length_le hlen] at h6
    have h7 := vl_lt h4
    rw [h3] at h7
    have hc0 : c = 0 := by
      rcases Nat.eq_zero_or_pos c with h | h
      · exact h
      · have : c = 1 := by omega
        subst this
        have h8 := vl_lt hx
        omega
    subst hc0
    refine ⟨⟨h4, by unfold LEN2; omega⟩, ?_⟩
    show (dg W (vl W out), ()) = _
    have : vl W out = vl W x - vl W y := by omega
    rw [this]

theorem bsz_pos {n : Nat} (h : n ≠ 0) : bsz n = n.log2 + 1 := by unfold bsz; rw [if_neg h]
theorem bsz_le {n k : Nat} : bsz n ≤ k ↔ n < 2 ^ k := by
  by_cases h : n = 0
  · subst h; simp [bsz]; exact Nat.two_pow_pos k
  · rw [bsz_pos h, ← Nat.log2_lt h]; omega
theorem bsz_eq {n k : Nat} (h1 : 2 ^ k ≤ n) (h2 : n < 2 ^ (k + 1)) : bsz n = k + 1 := by
  have := bsz_le.2 h2
  have : ¬ bsz n ≤ k := fun h => by have := bsz_le.1 h; omega
  omega

theorem vc77 : ∀ x, C77.pre x → VC T77 H0 Tryd.f42 C77 x := by
  rintro ⟨(x : List Int), ⟨⟩⟩ ⟨cx, lx⟩
  show Br ((↑x.length : Int) == (0 : Int)) (((0 : Int), ()) = C77.post (x, ())) ((0 : Int) ≤ IntKind.i64.wrap ((↑x.length : Int) - (1 : Int)) ∧ IntKind.i64.wrap ((↑x.length : Int) - (1 : Int)) < (↑x.length : Int) ∧ ((0 : Int) ≤ rd u64 x (IntKind.i64.wrap ((↑x.length : Int) - (1 : Int))) ∧ rd u64 x (IntKind.i64.wrap ((↑x.length : Int) - (1 : Int))) < (18446744073709551616 : Int)) ∧ (IntKind.i64.wrap (IntKind.i64.wrap ((64 : Int) * (↑x.length : Int)) - Pl.lz (rd u64 x (IntKind.i64.wrap ((↑x.length : Int) - (1 : Int))))), ()) = C77.post (x, ()))
  have e : C77.post (x, ()) = ((bsz (vl W x) : Int), ()) := rfl
  rw [e]
  simp only [LEN] at lx cx
  refine Br_of (fun hb => ?_) (fun hb => ?_)
  · have : x = [] := by simpa using hb
    subst this
    rfl
  · have hne : x ≠ [] := by intro h; subst h; simp at hb
    have hp : 0 < x.length := List.length_pos_iff.2 hne
    rw [wrap_i64 (x := (x.length : Int) - 1) (by omega) (by omega)]
    obtain ⟨m, hm⟩ : ∃ m, x.length = m + 1 := ⟨x.length - 1, by omega⟩
    have em : (x.length : Int) - 1 = (m : Int) := by omega
    rw [em, rdW (by omega) (by omega)]
    simp only [Int.toNat_natCast]
    have wx := rngW cx.1 m
    have hm' : m < x.length := by omega
    have hlast : x.getD m 0 ≠ 0 := by
      refine cx.2 _ ?_
      rw [List.getLast?_eq_getElem?, hm, Nat.add_sub_cancel, getD_get hm', List.getElem?_eq_getElem hm']
    refine ⟨by omega, by omega, wx, ?_⟩
    have hv : vl W x = vl W (x.take m) + W ^ m * (x.getD m 0).toNat := by
      rw [← vl_take_getD, ← hm, List.take_length]
    have hlt := vl_take_lt (show 0 < W by decide) cx.1 m
    generalize x.getD m 0 = D at wx hlast hv ⊢
    obtain ⟨d, rfl⟩ := Int.eq_ofNat_of_zero_le wx.1
    rw [Int.toNat_natCast] at hv
    have hd0 : d ≠ 0 := by omega
    have hWm : W ^ m = 2 ^ (64 * m) := by rw [W_eq, show (18446744073709551616 : Nat) = 2 ^ 64 from rfl, ← Nat.pow_mul]
    have hb : bsz d ≤ 64 := bsz_le.2 (by omega)
    have h1 : 2 ^ d.log2 ≤ d := Nat.log2_self_le hd0
    have h2 : d < 2 ^ (d.log2 + 1) := by
      have := bsz_le.1 (Nat.le_refl (bsz d))
      rwa [bsz_pos hd0] at this
    have hsz : bsz (vl W x) = 64 * m + d.log2 + 1 := by
      apply bsz_eq
      · rw [hv, hWm, Nat.pow_add]
        have := Nat.mul_le_mul_left (2 ^ (64 * m)) h1
        omega
      · rw [hv, hWm, Nat.add_assoc, Nat.pow_add]
        rw [hWm] at hlt
        have := Nat.mul_le_mul_left (2 ^ (64 * m)) (Nat.succ_le_of_lt h2)
        rw [Nat.mul_succ] at this
        omega
    have elz : lz ((d : Nat) : Int) = 64 - (bsz d : Int) := rfl
    rw [elz, hsz, bsz_pos hd0] at *
    rw [wrap_i64 (x := 64 * (x.length : Int)) (by omega) (by omega), wrap_i64 (by omega) (by omega)]
    congr 1
    omega

end Ta
end
section
/- Natural numbers: products. -/
set_option linter.unusedVariables false
set_option linter.unusedSimpArgs false
set_option maxRecDepth 100000
namespace Ta
open Go Fw Go.Proofs Pl

theorem mul_bounds {d f : Int} (hd : 0 ≤ d ∧ d < 18446744073709551616) (hf : 0 ≤ f ∧ f < 18446744073709551616) : 0 ≤ d * f ∧ d * f ≤ 340282366920938463426481119284349108225 := by
  refine ⟨Int.mul_nonneg hd.1 hf.1, ?_⟩
  have : d * f ≤ 18446744073709551615 * 18446744073709551615 := Int.mul_le_mul (by omega) (by omega) hf.1 (by decide)
  omega

theorem mul_key {p o c : Int} (hp : 0 ≤ p ∧ p ≤ 340282366920938463426481119284349108225) (ho : 0 ≤ o ∧ o < 18446744073709551616) (hc : 0 ≤ c ∧ c < 18446744073709551616) :
    ((p % 18446744073709551616 + o) % 18446744073709551616 + c) % 18446744073709551616 + 18446744073709551616 * (((p / 18446744073709551616 + (p % 18446744073709551616 + o) / 18446744073709551616) % 18446744073709551616 +
          ((p % 18446744073709551616 + o) % 18446744073709551616 + c) / 18446744073709551616) % 18446744073709551616) = p + o + c := by
  have a1 := Int.emod_add_mul_ediv p 18446744073709551616
  have b1 := Int.emod_nonneg p (b := 18446744073709551616) (by decide)
  have b2 := Int.emod_lt_of_pos p (b := 18446744073709551616) (by decide)
  have b3 : 0 ≤ p / 18446744073709551616 := Int.ediv_nonneg hp.1 (by decide)
  generalize p / 18446744073709551616 = q1 at *
  generalize p % 18446744073709551616 = r1 at *
  have a2 := Int.emod_add_mul_ediv (r1 + o) 18446744073709551616
  have c1 := Int.emod_nonneg (r1 + o) (b := 18446744073709551616) (by decide)
  have c2 := Int.emod_lt_of_pos (r1 + o) (b := 18446744073709551616) (by decide)
  have c3 : 0 ≤ (r1 + o) / 18446744073709551616 := Int.ediv_nonneg (by omega) (by decide)
  generalize (r1 + o) / 18446744073709551616 = q2 at *
  generalize (r1 + o) % 18446744073709551616 = r2 at *
  have a3 := Int.emod_add_mul_ediv (r2 + c) 18446744073709551616
  have d1 := Int.emod_nonneg (r2 + c) (b := 18446744073709551616) (by decide)
  have d2 := Int.emod_lt_of_pos (r2 + c) (b := 18446744073709551616) (by decide)
  have d3 : 0 ≤ (r2 + c) / 18446744073709551616 := Int.ediv_nonneg (by omega) (by decide)
  generalize (r2 + c) / 18446744073709551616 = q3 at *
  generalize (r2 + c) % 18446744073709551616 = r3 at *
  rw [Int.emod_eq_of_lt (a := q1 + q2) (by omega) (by omega), Int.emod_eq_of_lt (by omega) (by omega)]
  omega

set_option maxHeartbeats 1000000 in
theorem vc112 : ∀ x, C112.pre x → VC T112 H112 Tryd.f53 C112 x := by
  rintro ⟨(x : List Int), (y : List Int), ⟨⟩⟩ ⟨⟨hx, lx⟩, hy, ly⟩
  show (0 : Int) ≤ IntKind.i64.wrap ((↑x.length : Int) + (↑y.length : Int)) ∧ IntKind.i64.wrap ((↑x.length : Int) + (↑y.length : Int)) = IntKind.i64.wrap ((↑x.length : Int) + (↑y.length : Int)) ∧ IntKind.i64.wrap ((↑x.length : Int) + (↑y.length : Int)) * (8 : Int) ≤ (140737488355328 : Int) ∧ ∃ (n : Nat), itl (fun (G : List Int × Int × PUnit → Prop) (x_1 : List Int × Int × PUnit) => Br (decide (x_1.snd.fst < (↑x.length : Int))) ((0 : Int) ≤ x_1.snd.fst ∧ x_1.snd.fst < (↑x.length : Int) ∧ ∃ (n : Nat), itl (fun (G_1 : List Int × Int × Int × PUnit → Prop) (x_2 : List Int × Int × Int × PUnit) => Br (decide (x_2.snd.snd.fst < (↑y.length : Int))) ((0 : Int) ≤ x_2.snd.snd.fst ∧ x_2.snd.snd.fst < (↑y.length : Int) ∧ (((0 : Int) ≤ rd u64 x x_1.snd.fst ∧ rd u64 x x_1.snd.fst < (18446744073709551616 : Int)) ∧ (0 : Int) ≤ rd u64 y x_2.snd.snd.fst ∧ rd u64 y x_2.snd.snd.fst < (18446744073709551616 : Int)) ∧ (0 : Int) ≤ IntKind.i64.wrap (x_1.snd.fst + x_2.snd.snd.fst) ∧ IntKind.i64.wrap (x_1.snd.fst + x_2.snd.snd.fst) < (↑(List.length x_2.fst) : Int) ∧ (0 : Int) ≤ IntKind.i64.wrap (x_1.snd.fst + x_2.snd.snd.fst) ∧ IntKind.i64.wrap (x_1.snd.fst + x_2.snd.snd.fst) < (↑(List.length x_2.fst) : Int) ∧ (((0 : Int) ≤ rd u64 x x_1.snd.fst * rd u64 y x_2.snd.snd.fst % (18446744073709551616 : U.El) ∧ rd u64 x x_1.snd.fst * rd u64 y x_2.snd.snd.fst % (18446744073709551616 : U.El) < (18446744073709551616 : Int)) ∧ ((0 : Int) ≤ rd u64 x_2.fst (IntKind.i64.wrap (x_1.snd.fst + x_2.snd.snd.fst)) ∧ rd u64 x_2.fst (IntKind.i64.wrap (x_1.snd.fst + x_2.snd.snd.fst)) < (18446744073709551616 : Int)) ∧ (0 : Int) ≤ (0 : Int) ∧ (0 : Int) ≤ (1 : Int)) ∧ (((0 : Int) ≤ (rd u64 x x_1.snd.fst * rd u64 y x_2.snd.snd.fst % (18446744073709551616 : U.El) + rd u64 x_2.fst (IntKind.i64.wrap (x_1.snd.fst + x_2.snd.snd.fst)) + (0 : Int)) % (18446744073709551616 : U.El) ∧ (rd u64 x x_1.snd.fst * rd u64 y x_2.snd.snd.fst % (18446744073709551616 : U.El) + rd u64 x_2.fst (IntKind.i64.wrap (x_1.snd.fst + x_2.snd.snd.fst)) + (0 : Int)) % (18446744073709551616 : U.El) < (18446744073709551616 : Int)) ∧ ((0 : Int) ≤ x_2.snd.fst ∧ x_2.snd.fst < (18446744073709551616 : Int)) ∧ (0 : Int) ≤ (0 : Int) ∧ (0 : Int) ≤ (1 : Int)) ∧ (0 : Int) ≤ IntKind.i64.wrap (x_1.snd.fst + x_2.snd.snd.fst) ∧ IntKind.i64.wrap (x_1.snd.fst + x_2.snd.snd.fst) < (↑(List.length x_2.fst) : Int) ∧ (0 : Int) ≤ IntKind.i64.wrap (x_1.snd.fst + x_2.snd.snd.fst) ∧ IntKind.i64.wrap (x_1.snd.fst + x_2.snd.snd.fst) < (↑(List.length x_2.fst) : Int) ∧ G_1 (List.set x_2.fst (IntKind.i64.wrap (x_1.snd.fst + x_2.snd.snd.fst)).toNat (((rd u64 x x_1.snd.fst * rd u64 y x_2.snd.snd.fst % (18446744073709551616 : U.El) + rd u64 x_2.fst (IntKind.i64.wrap (x_1.snd.fst + x_2.snd.snd.fst)) + (0 : Int)) % (18446744073709551616 : U.El) + x_2.snd.fst + (0 : Int)) % (18446744073709551616 : U.El)), IntKind.u64.wrap (IntKind.u64.wrap (rd u64 x x_1.snd.fst * rd u64 y x_2.snd.snd.fst / (18446744073709551616 : U.El) + (rd u64 x x_1.snd.fst * rd u64 y x_2.snd.snd.fst % (18446744073709551616 : U.El) + rd u64 x_2.fst (IntKind.i64.wrap (x_1.snd.fst + x_2.snd.snd.fst)) + (0 : Int)) / (18446744073709551616 : U.El)) + ((rd u64 x x_1.snd.fst * rd u64 y x_2.snd.snd.fst % (18446744073709551616 : U.El) + rd u64 x_2.fst (IntKind.i64.wrap (x_1.snd.fst + x_2.snd.snd.fst)) + (0 : Int)) % (18446744073709551616 : U.El) + x_2.snd.fst + (0 : Int)) / (18446744073709551616 : U.El)), IntKind.i64.wrap (x_2.snd.snd.fst + (1 : Int)), ())) ((0 : Int) ≤ IntKind.i64.wrap (x_1.snd.fst + (↑y.length : Int)) ∧ IntKind.i64.wrap (x_1.snd.fst + (↑y.length : Int)) < (↑(List.length x_2.fst) : Int) ∧ (0 : Int) ≤ IntKind.i64.wrap (x_1.snd.fst + (↑y.length : Int)) ∧ IntKind.i64.wrap (x_1.snd.fst + (↑y.length : Int)) < (↑(List.length x_2.fst) : Int) ∧ G (List.set x_2.fst (IntKind.i64.wrap (x_1.snd.fst + (↑y.length : Int))).toNat x_2.snd.fst, IntKind.i64.wrap (x_1.snd.fst + (1 : Int)), ()))) n (x_1.1, (0 : Int), (0 : Int), ())) (Pl.rg2 x_1.1 ∧ (Pl.trm x_1.1, ()) = C112.post (x, y, ()))) n (List.replicate (IntKind.i64.wrap ((↑x.length : Int) + (↑y.length : Int))).toNat (0 : Int), (0 : Int), ())
  have e : C112.post (x, y, ()) = (dg W (vl W x * vl W y), ()) := rfl
  rw [e]
  simp only [LEN] at lx ly hx hy
  rw [wrap_i64 (x := (x.length : Int) + (y.length : Int)) (by omega) (by omega)]
  refine ⟨by omega, rfl, by omega, ?_⟩
  have em : ((x.length : Int) + (y.length : Int)).toNat = x.length + y.length := by omega
  rw [em]
  refine itl_rule (fun s => ∃ k : Nat, s.2.1 = (k : Int) ∧ k ≤ x.length ∧ s.1.length = x.length + y.length ∧ rng W s.1 ∧ ZeroFrom s.1 (k + y.length) ∧ vl W s.1 = vl W (x.take k) * vl W y)
    (fun s => x.length - s.2.1.toNat) ⟨0, rfl, by omega, by simp, rng_replicate (by decide), zero_replicate _ _, by simp [vl_replicate, vl]⟩ ?_
  rintro ⟨out, i, ⟨⟩⟩ G ⟨k, hi, h1, h3, h4, h5, h6⟩ hG
  simp only at hi h3 h4 h5 h6
  subst hi
  simp only
  refine Br_of (fun hb => ?_) (fun hb => ?_)
  · have hk : k < x.length := by have := of_decide_eq_true hb; omega
    have wx := rngW hx k
    rw [rdW (by omega) (by omega)]
    simp only [Int.toNat_natCast]
    have hvx : vl W (x.take (k + 1)) = vl W (x.take k) + W ^ k * (x.getD k 0).toNat := vl_take_getD k
    generalize x.getD k 0 = d at wx hvx ⊢
    refine ⟨by omega, by omega, ?_⟩
    refine itl_rule (fun s => ∃ t : Nat, s.2.2.1 = (t : Int) ∧ t ≤ y.length ∧ s.1.length = x.length + y.length ∧ rng W s.1 ∧ ZeroFrom s.1 (k + y.length) ∧ (0 ≤ s.2.1 ∧ s.2.1 < 18446744073709551616) ∧
        vl W s.1 + W ^ (k + t) * s.2.1.toNat = vl W (x.take k) * vl W y + W ^ k * (d.toNat * vl W (y.take t)))
      (fun s => y.length - s.2.2.1.toNat) ⟨0, rfl, by omega, h3, h4, h5, ⟨Int.le_refl 0, by simp only; omega⟩, by simp [vl, h6]⟩ ?_
    rintro ⟨out', c, j, ⟨⟩⟩ G' ⟨t, hj, g1, g2, g3, g4, g5, g6⟩ hG'
    simp only at hj g2 g3 g4 g5 g6
    subst hj
    simp only
    refine Br_of (fun hb => ?_) (fun hb => ?_)
    · have ht : t < y.length := by have := of_decide_eq_true hb; omega
      have wy := rngW hy t
      have wo := rngW g3 (k + t)
      have ekt : (k : Int) + (t : Int) = ((k + t : Nat) : Int) := by omega
      rw [wrap_i64 (x := (k : Int) + (t : Int)) (by omega) (by omega), wrap_i64 (x := (t : Int) + 1) (by omega) (by omega), ekt, rdW (l := y) (by omega) (by omega), rdW (l := out') (by omega) (by omega)]
      simp only [Int.toNat_natCast]
      have hvy : vl W (y.take (t + 1)) = vl W (y.take t) + W ^ t * (y.getD t 0).toNat := vl_take_getD t
      have hset : ∀ z : Int, vl W (out'.set (k + t) z) + W ^ (k + t) * (out'.getD (k + t) 0).toNat = vl W out' + W ^ (k + t) * z.toNat := fun z => by
        rw [getD_get (by omega)]; exact vl_set (by omega)
      generalize y.getD t 0 = f at wy hvy ⊢
      generalize out'.getD (k + t) 0 = o at wo hset ⊢
      have hp := mul_bounds wx wy
      have hpn : (d * f).toNat = d.toNat * f.toNat := Int.toNat_mul wx.1 wy.1
      rw [Int.add_zero, Int.add_zero]
      generalize d * f = p at hp hpn ⊢
      rw [wrap_u64, wrap_u64]
      have lo1 : 0 ≤ p % 18446744073709551616 ∧ p % 18446744073709551616 < 18446744073709551616 := by omega
      have lo2 : 0 ≤ (p % 18446744073709551616 + o) % 18446744073709551616 ∧ (p % 18446744073709551616 + o) % 18446744073709551616 < 18446744073709551616 := by omega
      refine ⟨by omega, by omega, ⟨wx, wy⟩, by omega, by omega, by omega, by omega, ⟨lo1, wo, by decide, by decide⟩, ⟨lo2, g5, by decide, by decide⟩, by omega, by omega, by omega, by omega, ?_⟩
      have key : ((((p % 18446744073709551616 + o) % 18446744073709551616 + c) % 18446744073709551616).toNat : Nat) + W * (((p / 18446744073709551616 + (p % 18446744073709551616 + o) / 18446744073709551616) % 18446744073709551616 +
          ((p % 18446744073709551616 + o) % 18446744073709551616 + c) / 18446744073709551616) % 18446744073709551616).toNat = d.toNat * f.toNat + o.toNat + c.toNat := by
        have hk := mul_key hp wo g5
        rw [W_eq, ← hpn]
        have n1 : 0 ≤ ((p % 18446744073709551616 + o) % 18446744073709551616 + c) % 18446744073709551616 := Int.emod_nonneg _ (by decide)
        have n2 : 0 ≤ ((p / 18446744073709551616 + (p % 18446744073709551616 + o) / 18446744073709551616) % 18446744073709551616 +
          ((p % 18446744073709551616 + o) % 18446744073709551616 + c) / 18446744073709551616) % 18446744073709551616 := Int.emod_nonneg _ (by decide)
        generalize ((p % 18446744073709551616 + o) % 18446744073709551616 + c) % 18446744073709551616 = z1 at *
        generalize ((p / 18446744073709551616 + (p % 18446744073709551616 + o) / 18446744073709551616) % 18446744073709551616 +
          ((p % 18446744073709551616 + o) % 18446744073709551616 + c) / 18446744073709551616) % 18446744073709551616 = z2 at *
        clear hset hvy hvx g6 h6 lo1 lo2
        omega
      refine hG' _ ⟨t + 1, by simp only; omega, by omega, by simpa using g2, rng_set g3 (by rw [W_eq]; omega), ?_, ⟨?_, ?_⟩, ?_⟩ (by simp only; omega)
      · intro j hj
        simp only
        rw [getD_set, if_neg (by omega)]
        exact g4 j hj
      · exact Int.emod_nonneg _ (by decide)
      · exact Int.emod_lt_of_pos _ (by decide)
      · simp only
        generalize (((p % 18446744073709551616 + o) % 18446744073709551616 + c) % 18446744073709551616) = z1 at key ⊢
        generalize (((p / 18446744073709551616 + (p % 18446744073709551616 + o) / 18446744073709551616) % 18446744073709551616 +
          ((p % 18446744073709551616 + o) % 18446744073709551616 + c) / 18446744073709551616) % 18446744073709551616) = z2 at key ⊢
        have hs := hset z1
        have e2 := congrArg (fun z => W ^ (k + t) * z) key
        simp only [Nat.mul_add] at e2
        rw [← Nat.mul_assoc, ← Nat.pow_succ, Nat.succ_eq_add_one] at e2
        rw [hvy, Nat.mul_add, Nat.mul_add, show k + (t + 1) = k + t + 1 by omega]
        have e3 : W ^ k * (d.toNat * (W ^ t * f.toNat)) = W ^ (k + t) * (d.toNat * f.toNat) := by
          rw [Nat.pow_add, Nat.mul_assoc]
          congr 1
          rw [← Nat.mul_assoc, Nat.mul_comm d.toNat, Nat.mul_assoc]
        rw [e3]
        omega
    · have ht : t = y.length := by have := of_decide_eq_false hb; omega
      subst ht
      rw [wrap_i64 (x := (k : Int) + (y.length : Int)) (by omega) (by omega), wrap_i64 (x := (k : Int) + 1) (by omega) (by omega)]
      have ekt : (k : Int) + (y.length : Int) = ((k + y.length : Nat) : Int) := by omega
      rw [ekt]
      simp only [Int.toNat_natCast]
      refine ⟨by omega, by omega, by omega, by omega, ?_⟩
      refine hG _ ⟨k + 1, by simp only; omega, by omega, by simpa using g2, rng_set g3 (by rw [W_eq]; omega), ?_, ?_⟩ (by simp only; omega)
      · simp only
        intro j hj
        rw [getD_set, if_neg (by omega)]
        exact g4 j (by omega)
      · simp only
        rw [vl_set0 (by omega) (g4 _ (Nat.le_refl _)), g6, List.take_length, hvx, Nat.add_mul, Nat.mul_assoc]
  · have hk : k = x.length := by have := of_decide_eq_false hb; omega
    subst hk
    refine ⟨⟨h4, by unfold LEN2; omega⟩, ?_⟩
    show (dg W (vl W out), ()) = _
    rw [h6, List.take_length]

end Ta
end
section
/- Natural numbers: division by a word, shifts. -/
set_option linter.unusedVariables false
set_option linter.unusedSimpArgs false
set_option maxRecDepth 100000
namespace Ta
open Go Fw Go.Proofs Pl

theorem vc114 : ∀ x, C114.pre x → VC T114 H114 Tryd.f33 C114 x := by
  rintro ⟨(x : List Int), (d : Int), ⟨⟩⟩ ⟨⟨cx, lx⟩, hd0, hd1⟩
  show (0 : Int) ≤ (↑x.length : Int) ∧ (↑x.length : Int) = (↑x.length : Int) ∧ (↑x.length : Int) * (8 : Int) ≤ (140737488355328 : Int) ∧ ∃ (n : Nat), itl (fun (G : List Int × Int × Int × PUnit → Prop) (x_1 : List Int × Int × Int × PUnit) => Br (decide (x_1.snd.snd.fst ≥ (0 : Int))) ((0 : Int) ≤ x_1.snd.snd.fst ∧ x_1.snd.snd.fst < (↑x.length : Int) ∧ (((0 : Int) ≤ x_1.snd.fst ∧ x_1.snd.fst < d) ∧ ((0 : Int) ≤ rd u64 x x_1.snd.snd.fst ∧ rd u64 x x_1.snd.snd.fst < (18446744073709551616 : Int)) ∧ d < (18446744073709551616 : Int)) ∧ (0 : Int) ≤ x_1.snd.snd.fst ∧ x_1.snd.snd.fst < (↑(List.length x_1.fst) : Int) ∧ (0 : Int) ≤ x_1.snd.snd.fst ∧ x_1.snd.snd.fst < (↑(List.length x_1.fst) : Int) ∧ G (List.set x_1.fst (Int.toNat x_1.snd.snd.fst) ((x_1.snd.fst * (18446744073709551616 : U.El) + rd u64 x x_1.snd.snd.fst) / d), (x_1.snd.fst * (18446744073709551616 : U.El) + rd u64 x x_1.snd.snd.fst) % d, IntKind.i64.wrap (x_1.snd.snd.fst - (1 : Int)), ())) (Pl.rg2 x_1.1 ∧ (Pl.trm x_1.1, x_1.snd.fst, ()) = C114.post (x, d, ()))) n (List.replicate (↑x.length : Int).toNat (0 : Int), (0 : Int), IntKind.i64.wrap ((↑x.length : Int) - (1 : Int)), ())
  have e : C114.post (x, d, ()) = (dg W (vl W x / d.toNat), ((vl W x % d.toNat : Nat) : Int), ()) := rfl
  rw [e]
  simp only [LEN] at lx cx hd0 hd1
  have hx := cx.1
  obtain ⟨D, rfl⟩ := Int.eq_ofNat_of_zero_le (Int.le_of_lt hd0)
  have hD : 0 < D := by omega
  have hDW : D < W := by rw [W_eq]; omega
  simp only [Int.toNat_natCast]
  refine ⟨by omega, trivial, by omega, ?_⟩
  rw [wrap_i64 (x := (x.length : Int) - 1) (by omega) (by omega)]
  refine itl_rule (fun s => ∃ (k : Nat) (r : Nat), s.2.2.1 = (k : Int) - 1 ∧ s.2.1 = (r : Int) ∧ r < D ∧ k ≤ x.length ∧ s.1.length = x.length ∧ rng W s.1 ∧ (∀ j, j < k → s.1.getD j 0 = 0) ∧ vl W (x.drop k) = D * vl W (s.1.drop k) + r)
    (fun s => (s.2.2.1 + 1).toNat) ⟨x.length, 0, rfl, rfl, hD, Nat.le_refl _, by simp, rng_replicate (by decide), fun j _ => zero_replicate _ 0 j (Nat.zero_le _), by simp [vl]⟩ ?_
  rintro ⟨out, rr, i, ⟨⟩⟩ G ⟨k, r, hi, hr, h1, h2, h3, h4, h5, h6⟩ hG
  simp only at hi hr h3 h4 h5 h6
  subst hi hr
  simp only
  refine Br_of (fun hb => ?_) (fun hb => ?_)
  · have hk : 0 < k := by have := of_decide_eq_true hb; omega
    obtain ⟨m, rfl⟩ : ∃ m, k = m + 1 := ⟨k - 1, by omega⟩
    have em : ((m + 1 : Nat) : Int) - 1 = (m : Int) := by omega
    rw [em, rdW (by omega) (by omega), wrap_i64 (x := (m : Int) - 1) (by omega) (by omega)]
    simp only [Int.toNat_natCast]
    have wx := rngW hx m
    have hdrop : vl W (x.drop m) = (x.getD m 0).toNat + W * vl W (x.drop (m + 1)) := by rw [getD_get (by omega)]; exact vl_drop_cons (by omega)
    generalize x.getD m 0 = X at wx hdrop ⊢
    obtain ⟨X, rfl⟩ := Int.eq_ofNat_of_zero_le wx.1
    rw [Int.toNat_natCast] at hdrop
    have eq1 : ((r : Int) * 18446744073709551616 + (X : Int)) / (D : Int) = (((r * W + X) / D : Nat) : Int) := by rw [show (18446744073709551616 : Int) = ((W : Nat) : Int) from rfl, ← Int.natCast_mul, ← Int.natCast_add]; rfl
    have eq2 : ((r : Int) * 18446744073709551616 + (X : Int)) % (D : Int) = (((r * W + X) % D : Nat) : Int) := by rw [show (18446744073709551616 : Int) = ((W : Nat) : Int) from rfl, ← Int.natCast_mul, ← Int.natCast_add]; rfl
    rw [eq1, eq2]
    have hq : (r * W + X) / D < W := by
      rw [Nat.div_lt_iff_lt_mul hD]
      have : (r + 1) * W ≤ D * W := Nat.mul_le_mul_right W h1
      rw [Nat.add_mul] at this
      rw [Nat.mul_comm W D]
      have : X < W := by rw [W_eq]; omega
      omega
    have hm : (r * W + X) % D < D := Nat.mod_lt _ hD
    have hdm := Nat.div_add_mod (r * W + X) D
    generalize (r * W + X) / D = q at hq hdm ⊢
    generalize (r * W + X) % D = s at hm hdm ⊢
    refine ⟨by omega, by omega, ⟨⟨by omega, by omega⟩, wx, by omega⟩, by omega, by omega, by omega, by omega, ?_⟩
    refine hG _ ⟨m, s, rfl, rfl, hm, by omega, by simpa using h3, rng_set h4 (by omega), fun j hj => ?_, ?_⟩ (by simp only; omega)
    · simp only
      rw [getD_set, if_neg (by omega)]
      exact h5 j (by omega)
    · simp only
      have hlen : m < (out.set m (q : Int)).length := by simp; omega
      rw [hdrop, vl_drop_cons hlen]
      simp only [List.getElem_set_self]
      rw [List.drop_set_of_lt (by omega), h6, Int.toNat_natCast, Nat.mul_add, Nat.mul_add]
      have e3 : D * (W * vl W (out.drop (m + 1))) = W * (D * vl W (out.drop (m + 1))) := by rw [← Nat.mul_assoc, Nat.mul_comm D W, Nat.mul_assoc]
      rw [e3, Nat.mul_comm W r]
      omega
  · have hk : k = 0 := by have := of_decide_eq_false hb; omega
    subst hk
    simp only [List.drop_zero] at h6
    have hq : vl W x / D = vl W out := by rw [h6, Nat.mul_add_div hD, Nat.div_eq_of_lt h1, Nat.add_zero]
    have hm : vl W x % D = r := by rw [h6, Nat.mul_add_mod, Nat.mod_eq_of_lt h1]
    refine ⟨⟨h4, by unfold LEN2; omega⟩, ?_⟩
    show (dg W (vl W out), (r : Int), ()) = _
    rw [hq, hm]

/-! ### Bits -/
theorem or_add {a b s : Nat} (ha : a < 2 ^ s) (hb : b * 2 ^ s < 18446744073709551616) (ha' : a < 18446744073709551616) : bitsv .or .u64 (a : Int) ((b * 2 ^ s : Nat) : Int) = ((a + b * 2 ^ s : Nat) : Int) := by
  have e : (BitVec.ofInt 64 (a : Int) ||| BitVec.ofInt 64 ((b * 2 ^ s : Nat) : Int)).toNat = a + b * 2 ^ s := by
    rw [BitVec.toNat_or, BitVec.ofInt_natCast, BitVec.ofInt_natCast, BitVec.toNat_ofNat, BitVec.toNat_ofNat, Nat.mod_eq_of_lt (by simpa using ha'), Nat.mod_eq_of_lt (by simpa using hb), Nat.or_comm, Nat.mul_comm b, ← Nat.two_pow_add_eq_or_of_lt ha, Nat.add_comm]
  have lt : a + b * 2 ^ s < 18446744073709551616 := by
    have h := (BitVec.ofInt 64 (a : Int) ||| BitVec.ofInt 64 ((b * 2 ^ s : Nat) : Int)).isLt
    rw [e] at h
    simpa using h
  show IntKind.wrap .u64 (((BitVec.ofInt 64 (a : Int) ||| BitVec.ofInt 64 ((b * 2 ^ s : Nat) : Int)).toNat : Nat) : Int) = _
  rw [e, wrap_u64]
  omega
theorem shl_val {d s : Nat} (hs : s ≤ 64) : IntKind.wrap .u64 ((d : Int) * 2 ^ (min s IntKind.u64.bits)) = (((d % 2 ^ (64 - s)) * 2 ^ s : Nat) : Int) := by
  have e : min s IntKind.u64.bits = s := Nat.min_eq_left hs
  rw [e, wrap_u64]
  have e2 : (18446744073709551616 : Nat) = 2 ^ (64 - s) * 2 ^ s := by rw [← Nat.pow_add, Nat.sub_add_cancel hs]
  have e3 : (d : Int) * 2 ^ s = ((d * 2 ^ s : Nat) : Int) := by push_cast; rfl
  rw [e3, show (18446744073709551616 : Int) = ((2 ^ (64 - s) * 2 ^ s : Nat) : Int) by rw [← e2]; rfl, ← Int.natCast_emod, Nat.mul_mod_mul_right]
theorem shr_val {d s : Nat} (hs : s ≤ 64) : Int.fdiv (d : Int) (2 ^ (min s IntKind.u64.bits)) = ((d / 2 ^ s : Nat) : Int) := by
  have e : min s IntKind.u64.bits = s := Nat.min_eq_left hs
  rw [e, Int.fdiv_eq_ediv_of_nonneg _ (Int.le_of_lt (Int.pow_pos (by decide)))]
  push_cast
  rfl
theorem pow_split {s : Nat} (hs : s ≤ 64) : 2 ^ (64 - s) * 2 ^ s = W := by rw [← Nat.pow_add, Nat.sub_add_cancel hs]; rfl
theorem pow_pos2 (s : Nat) : 0 < 2 ^ s := Nat.two_pow_pos s
theorem mod_bound {d s : Nat} (hs : s ≤ 64) : (d % 2 ^ (64 - s)) * 2 ^ s < 18446744073709551616 := by
  have h := Nat.mod_lt d (pow_pos2 (64 - s))
  have : (d % 2 ^ (64 - s) + 1) * 2 ^ s ≤ 2 ^ (64 - s) * 2 ^ s := Nat.mul_le_mul_right _ h
  rw [pow_split hs, W_eq, Nat.add_mul] at this
  have := pow_pos2 s
  omega
theorem shift_split {d s : Nat} (hs : s ≤ 64) : (d % 2 ^ (64 - s)) * 2 ^ s + W * (d / 2 ^ (64 - s)) = d * 2 ^ s := by
  have h := Nat.div_add_mod d (2 ^ (64 - s))
  have := congrArg (fun z => z * 2 ^ s) h
  simp only [Nat.add_mul] at this
  rw [← pow_split hs, ← this, Nat.mul_right_comm]
  omega

theorem vc140 : ∀ x, C140.pre x → VC T111 H140 Tryd.f79 C140 x := by
  rintro ⟨(x : List Int), (n : Int), ⟨⟩⟩ ⟨⟨cx, lx⟩, hn0, hn1⟩
  show Br ((↑x.length : Int) == (0 : Int)) (([], ()) = C140.post (x, n, ())) ((64 : Int) ≠ (0 : Int) ∧ (0 : Int) ≤ IntKind.i64.wrap (IntKind.i64.wrap ((↑x.length : Int) + IntKind.i64.wrap (n.tdiv (64 : Int))) + (1 : Int)) ∧ IntKind.i64.wrap (IntKind.i64.wrap ((↑x.length : Int) + IntKind.i64.wrap (n.tdiv (64 : Int))) + (1 : Int)) = IntKind.i64.wrap (IntKind.i64.wrap ((↑x.length : Int) + IntKind.i64.wrap (n.tdiv (64 : Int))) + (1 : Int)) ∧ IntKind.i64.wrap (IntKind.i64.wrap ((↑x.length : Int) + IntKind.i64.wrap (n.tdiv (64 : Int))) + (1 : Int)) * (8 : Int) ≤ (140737488355328 : Int) ∧ ∃ (n_1 : Nat), itl (fun (G : List Int × Int × PUnit → Prop) (x_1 : List Int × Int × PUnit) => Br (decide (x_1.snd.fst < (↑x.length : Int))) ((0 : Int) ≤ x_1.snd.fst ∧ x_1.snd.fst < (↑x.length : Int) ∧ (64 : Int) ≠ (0 : Int) ∧ (0 : Int) ≤ IntKind.i64.wrap (x_1.snd.fst + IntKind.i64.wrap (n.tdiv (64 : Int))) ∧ IntKind.i64.wrap (x_1.snd.fst + IntKind.i64.wrap (n.tdiv (64 : Int))) < (↑(List.length x_1.fst) : Int) ∧ (0 : Int) ≤ IntKind.i64.wrap (x_1.snd.fst + IntKind.i64.wrap (n.tdiv (64 : Int))) ∧ IntKind.i64.wrap (x_1.snd.fst + IntKind.i64.wrap (n.tdiv (64 : Int))) < (↑(List.length x_1.fst) : Int) ∧ (64 : Int) ≠ (0 : Int) ∧ (0 : Int) ≤ IntKind.u64.wrap (n.tmod (64 : Int)) ∧ (0 : Int) ≤ IntKind.i64.wrap (x_1.snd.fst + IntKind.i64.wrap (n.tdiv (64 : Int))) ∧ IntKind.i64.wrap (x_1.snd.fst + IntKind.i64.wrap (n.tdiv (64 : Int))) < (↑(List.length x_1.fst) : Int) ∧ (0 : Int) ≤ IntKind.i64.wrap (x_1.snd.fst + IntKind.i64.wrap (n.tdiv (64 : Int))) ∧ IntKind.i64.wrap (x_1.snd.fst + IntKind.i64.wrap (n.tdiv (64 : Int))) < (↑(List.length x_1.fst) : Int) ∧ (64 : Int) ≠ (0 : Int) ∧ Br (decide (n.tmod (64 : Int) > (0 : Int))) ((64 : Int) ≠ (0 : Int) ∧ (64 : Int) ≠ (0 : Int) ∧ (0 : Int) ≤ IntKind.u64.wrap (IntKind.i64.wrap ((64 : Int) - n.tmod (64 : Int))) ∧ (0 : Int) ≤ IntKind.i64.wrap (IntKind.i64.wrap (x_1.snd.fst + IntKind.i64.wrap (n.tdiv (64 : Int))) + (1 : Int)) ∧ IntKind.i64.wrap (IntKind.i64.wrap (x_1.snd.fst + IntKind.i64.wrap (n.tdiv (64 : Int))) + (1 : Int)) < (↑(List.set x_1.fst (IntKind.i64.wrap (x_1.snd.fst + IntKind.i64.wrap (n.tdiv (64 : Int)))).toNat (bitsv BinOp.or IntKind.u64 (rd u64 x_1.fst (IntKind.i64.wrap (x_1.snd.fst + IntKind.i64.wrap (n.tdiv (64 : Int))))) (IntKind.u64.wrap (rd u64 x x_1.snd.fst * (2 : Int) ^ min (IntKind.u64.wrap (n.tmod (64 : Int))).toNat IntKind.u64.bits)))).length : Int) ∧ (0 : Int) ≤ IntKind.i64.wrap (IntKind.i64.wrap (x_1.snd.fst + IntKind.i64.wrap (n.tdiv (64 : Int))) + (1 : Int)) ∧ IntKind.i64.wrap (IntKind.i64.wrap (x_1.snd.fst + IntKind.i64.wrap (n.tdiv (64 : Int))) + (1 : Int)) < (↑(List.set x_1.fst (IntKind.i64.wrap (x_1.snd.fst + IntKind.i64.wrap (n.tdiv (64 : Int)))).toNat (bitsv BinOp.or IntKind.u64 (rd u64 x_1.fst (IntKind.i64.wrap (x_1.snd.fst + IntKind.i64.wrap (n.tdiv (64 : Int))))) (IntKind.u64.wrap (rd u64 x x_1.snd.fst * (2 : Int) ^ min (IntKind.u64.wrap (n.tmod (64 : Int))).toNat IntKind.u64.bits)))).length : Int) ∧ G ((List.set x_1.fst (IntKind.i64.wrap (x_1.snd.fst + IntKind.i64.wrap (n.tdiv (64 : Int)))).toNat (bitsv BinOp.or IntKind.u64 (rd u64 x_1.fst (IntKind.i64.wrap (x_1.snd.fst + IntKind.i64.wrap (n.tdiv (64 : Int))))) (IntKind.u64.wrap (rd u64 x x_1.snd.fst * (2 : Int) ^ min (IntKind.u64.wrap (n.tmod (64 : Int))).toNat IntKind.u64.bits)))).set (IntKind.i64.wrap (IntKind.i64.wrap (x_1.snd.fst + IntKind.i64.wrap (n.tdiv (64 : Int))) + (1 : Int))).toNat (Int.fdiv (rd u64 x x_1.snd.fst) ((2 : Int) ^ min (IntKind.u64.wrap (IntKind.i64.wrap ((64 : Int) - n.tmod (64 : Int)))).toNat IntKind.u64.bits)), IntKind.i64.wrap (x_1.snd.fst + (1 : Int)), ())) (G (List.set x_1.fst (IntKind.i64.wrap (x_1.snd.fst + IntKind.i64.wrap (n.tdiv (64 : Int)))).toNat (bitsv BinOp.or IntKind.u64 (rd u64 x_1.fst (IntKind.i64.wrap (x_1.snd.fst + IntKind.i64.wrap (n.tdiv (64 : Int))))) (IntKind.u64.wrap (rd u64 x x_1.snd.fst * (2 : Int) ^ min (IntKind.u64.wrap (n.tmod (64 : Int))).toNat IntKind.u64.bits))), IntKind.i64.wrap (x_1.snd.fst + (1 : Int)), ()))) (Pl.rg2 x_1.1 ∧ (Pl.trm x_1.1, ()) = C140.post (x, n, ()))) n_1 (List.replicate (IntKind.i64.wrap (IntKind.i64.wrap ((↑x.length : Int) + IntKind.i64.wrap (n.tdiv (64 : Int))) + (1 : Int))).toNat (0 : Int), (0 : Int), ()))
  have e : C140.post (x, n, ()) = (dg W (vl W x * 2 ^ n.toNat), ()) := rfl
  rw [e]
  simp only [LEN] at lx cx hn0 hn1
  have hx := cx.1
  obtain ⟨nn, rfl⟩ := Int.eq_ofNat_of_zero_le hn0
  simp only [Int.toNat_natCast]
  refine Br_of (fun hb => ?_) (fun hb => ?_)
  · have : x = [] := by simpa using hb
    subst this
    simp [vl, dg_zero]
  · have eq : (nn : Int).tdiv 64 = ((nn / 64 : Nat) : Int) := by rw [tdiv_nn (by omega)]; omega
    have es : (nn : Int).tmod 64 = ((nn % 64 : Nat) : Int) := by rw [tmod_nn (by omega)]; omega
    have hnn : nn = 64 * (nn / 64) + nn % 64 := by omega
    have hs : nn % 64 < 64 := Nat.mod_lt _ (by decide)
    have hq : nn / 64 ≤ 15625000 := by omega
    rw [eq, es]
    generalize nn / 64 = q at *
    generalize nn % 64 = s at *
    have hpow : 2 ^ nn = W ^ q * 2 ^ s := by rw [hnn, Nat.pow_add, W_eq, Nat.pow_mul]
    rw [hpow]
    rw [wrap_i64 (x := (q : Int)) (by omega) (by omega), wrap_i64 (x := (x.length : Int) + (q : Int)) (by omega) (by omega), wrap_i64 (x := (x.length : Int) + (q : Int) + 1) (by omega) (by omega)]
    refine ⟨by decide, by omega, trivial, by omega, ?_⟩
    have em : ((x.length : Int) + (q : Int) + 1).toNat = x.length + q + 1 := by omega
    rw [em]
    refine itl_rule (fun st => ∃ k : Nat, st.2.1 = (k : Int) ∧ k ≤ x.length ∧ st.1.length = x.length + q + 1 ∧ rng W st.1 ∧ ZeroFrom st.1 (k + q + 1) ∧ (st.1.getD (k + q) 0).toNat < 2 ^ s ∧ vl W st.1 = vl W (x.take k) * (W ^ q * 2 ^ s))
      (fun st => x.length - st.2.1.toNat) ⟨0, rfl, by omega, by simp, rng_replicate (by decide), zero_replicate _ _, by rw [zero_replicate _ 0 _ (Nat.zero_le _)]; exact pow_pos2 s, by simp [vl_replicate, vl]⟩ ?_
    rintro ⟨out, i, ⟨⟩⟩ G ⟨k, hi, h1, h3, h4, h5, h6, h7⟩ hG
    simp only at hi h3 h4 h5 h6 h7
    subst hi
    simp only
    refine Br_of (fun hb => ?_) (fun hb => ?_)
    · have hk : k < x.length := by have := of_decide_eq_true hb; omega
      have ekq : (k : Int) + (q : Int) = ((k + q : Nat) : Int) := by omega
      rw [wrap_i64 (x := (k : Int) + (q : Int)) (by omega) (by omega), wrap_i64 (x := (k : Int) + 1) (by omega) (by omega), ekq, wrap_i64 (x := ((k + q : Nat) : Int) + 1) (by omega) (by omega),
        wrap_u64, show (s : Int) % 18446744073709551616 = (s : Int) by omega, wrap_i64 (x := (64 : Int) - (s : Int)) (by omega) (by omega), wrap_u64, show ((64 : Int) - (s : Int)) % 18446744073709551616 = ((64 - s : Nat) : Int) by omega,
        rdW (l := x) (by omega) (by omega), rdW (l := out) (by omega) (by omega)]
      simp only [Int.toNat_natCast]
      have wx := rngW hx k
      have wo := rngW h4 (k + q)
      have hvx : vl W (x.take (k + 1)) = vl W (x.take k) + W ^ k * (x.getD k 0).toNat := vl_take_getD k
      have hset : ∀ z : Int, vl W (out.set (k + q) z) + W ^ (k + q) * (out.getD (k + q) 0).toNat = vl W out + W ^ (k + q) * z.toNat := fun z => by
        rw [getD_get (by omega)]; exact vl_set (by omega)
      generalize x.getD k 0 = X at wx hvx ⊢
      generalize out.getD (k + q) 0 = o at wo hset h6 ⊢
      obtain ⟨d, rfl⟩ := Int.eq_ofNat_of_zero_le wx.1
      obtain ⟨o, rfl⟩ := Int.eq_ofNat_of_zero_le wo.1
      rw [Int.toNat_natCast] at h6 hvx
      simp only [Int.toNat_natCast] at hset
      rw [shl_val (Nat.le_of_lt hs), or_add h6 (mod_bound (Nat.le_of_lt hs)) (by omega)]
      have hsp := shift_split (d := d) (Nat.le_of_lt hs)
      have hor : o + d % 2 ^ (64 - s) * 2 ^ s < 18446744073709551616 := by
        have h8 := Nat.mod_lt d (pow_pos2 (64 - s))
        have h9 : (d % 2 ^ (64 - s) + 1) * 2 ^ s ≤ 2 ^ (64 - s) * 2 ^ s := Nat.mul_le_mul_right _ h8
        rw [pow_split (Nat.le_of_lt hs), W_eq, Nat.add_mul] at h9
        omega
      have s1 := hset ((o + d % 2 ^ (64 - s) * 2 ^ s : Nat) : Int)
      rw [Int.toNat_natCast] at s1
      have tgt : vl W (x.take (k + 1)) * (W ^ q * 2 ^ s) = vl W (x.take k) * (W ^ q * 2 ^ s) + W ^ (k + q) * (d * 2 ^ s) := by
        rw [hvx, Nat.add_mul, Nat.pow_add]
        congr 1
        simp only [Nat.mul_assoc, Nat.mul_left_comm]
      have s2 := congrArg (fun z => W ^ (k + q) * z) hsp
      simp only [Nat.mul_add] at s2 s1
      refine ⟨by omega, by omega, by decide, by omega, by omega, by omega, by omega, by decide, by omega, by omega, by omega, by omega, by omega, by decide, ?_⟩
      have hz : (out.set (k + q) ((o + d % 2 ^ (64 - s) * 2 ^ s : Nat) : Int)).getD (k + q + 1) 0 = 0 := by
        rw [getD_set, if_neg (by omega)]; exact h5 _ (Nat.le_refl _)
      refine Br_of (fun h0 => ?_) (fun h0 => ?_)
      · rw [shr_val (by omega)]
        have hdl : d / 2 ^ (64 - s) < 2 ^ s := by
          rw [Nat.div_lt_iff_lt_mul (pow_pos2 _), Nat.mul_comm, pow_split (Nat.le_of_lt hs), W_eq]; omega
        have hsl : 2 ^ s ≤ 2 ^ 64 := Nat.pow_le_pow_right (by decide) (by omega)
        have hd64 : d / 2 ^ (64 - s) < W := Nat.lt_of_lt_of_le hdl hsl
        have et : (((k + q : Nat) : Int) + 1).toNat = k + q + 1 := by omega
        rw [et]
        refine ⟨by decide, by decide, by omega, by omega, by simp; omega, by omega, by simp; omega, ?_⟩
        refine hG _ ⟨k + 1, by simp only; omega, by omega, by simpa using h3, rng_set (rng_set h4 (by rw [W_eq]; omega)) ⟨Int.natCast_nonneg _, Int.ofNat_lt.2 hd64⟩, ?_, ?_, ?_⟩ (by simp only; omega)
        · simp only
          intro j hj
          rw [getD_set, if_neg (by omega), getD_set, if_neg (by omega)]
          exact h5 j (by omega)
        · simp only
          rw [show k + 1 + q = k + q + 1 by omega, getD_set, if_pos ⟨rfl, by simp; omega⟩, Int.toNat_natCast]
          exact hdl
        · simp only
          rw [vl_set0 (by simp; omega) hz, Int.toNat_natCast, tgt, ← h7]
          rw [← Nat.mul_assoc (W ^ (k + q)) W, ← Nat.pow_succ, Nat.succ_eq_add_one] at s2
          omega
      · have hs0 : s = 0 := by have := of_decide_eq_false h0; omega
        subst hs0
        have hd0 : d / 2 ^ (64 - 0) = 0 := Nat.div_eq_of_lt (by simp; omega)
        rw [hd0] at s2
        refine hG _ ⟨k + 1, by simp only; omega, by omega, by simpa using h3, rng_set h4 (by rw [W_eq]; omega), ?_, ?_, ?_⟩ (by simp only; omega)
        · simp only
          intro j hj
          rw [getD_set, if_neg (by omega)]
          exact h5 j (by omega)
        · simp only
          rw [show k + 1 + q = k + q + 1 by omega, hz]
          exact pow_pos2 0
        · simp only
          rw [tgt, ← h7]
          simp only [Nat.mul_zero, Nat.add_zero] at s2
          omega
    · have hk : k = x.length := by have := of_decide_eq_false hb; omega
      subst hk
      refine ⟨⟨h4, by unfold LEN2; omega⟩, ?_⟩
      show (dg W (vl W out), ()) = _
      rw [h7, List.take_length]

end Ta
end
section
/- Natural numbers: right shift. -/
set_option linter.unusedVariables false
set_option linter.unusedSimpArgs false
set_option maxRecDepth 100000
namespace Ta
open Go Fw Go.Proofs Pl

theorem set_set {α : Type} {l : List α} {i : Nat} {a b : α} : (l.set i a).set i b = l.set i b := by
  apply List.ext_getElem? ; intro j
  simp only [List.getElem?_set]
  by_cases h : i = j
  · subst h
    simp
  · simp [h]

theorem vc143 : ∀ x, C143.pre x → VC T143 H143 Tryd.f81 C143 x := by
  rintro ⟨(x : List Int), (n : Int), ⟨⟩⟩ ⟨⟨hx, lx⟩, hn0, hn1⟩
  show (0 : Int) ≤ (↑x.length : Int) ∧ (↑x.length : Int) = (↑x.length : Int) ∧ (↑x.length : Int) * (8 : Int) ≤ (140737488355328 : Int) ∧ ∃ (n_1 : Nat), itl (fun (G : List Int × Int × PUnit → Prop) (x_1 : List Int × Int × PUnit) => Br (decide (x_1.snd.fst < (↑x.length : Int))) ((0 : Int) ≤ x_1.snd.fst ∧ x_1.snd.fst < (↑x.length : Int) ∧ (0 : Int) ≤ IntKind.u64.wrap n ∧ (0 : Int) ≤ x_1.snd.fst ∧ x_1.snd.fst < (↑(List.length x_1.fst) : Int) ∧ (0 : Int) ≤ x_1.snd.fst ∧ x_1.snd.fst < (↑(List.length x_1.fst) : Int) ∧ Br (decide (n > (0 : Int))) ((0 : Int) ≤ x_1.snd.fst ∧ x_1.snd.fst < (↑(List.set x_1.fst (Int.toNat x_1.snd.fst) (Int.fdiv (rd u64 x x_1.snd.fst) ((2 : Int) ^ min (IntKind.u64.wrap n).toNat IntKind.u64.bits))).length : Int) ∧ (0 : Int) ≤ x_1.snd.fst ∧ x_1.snd.fst < (↑(List.set x_1.fst (Int.toNat x_1.snd.fst) (Int.fdiv (rd u64 x x_1.snd.fst) ((2 : Int) ^ min (IntKind.u64.wrap n).toNat IntKind.u64.bits))).length : Int) ∧ (0 : Int) ≤ IntKind.i64.wrap (x_1.snd.fst + (1 : Int)) ∧ (0 : Int) ≤ IntKind.u64.wrap (IntKind.i64.wrap ((64 : Int) - n)) ∧ (0 : Int) ≤ x_1.snd.fst ∧ x_1.snd.fst < (↑(List.set x_1.fst (Int.toNat x_1.snd.fst) (Int.fdiv (rd u64 x x_1.snd.fst) ((2 : Int) ^ min (IntKind.u64.wrap n).toNat IntKind.u64.bits))).length : Int) ∧ (0 : Int) ≤ x_1.snd.fst ∧ x_1.snd.fst < (↑(List.set x_1.fst (Int.toNat x_1.snd.fst) (Int.fdiv (rd u64 x x_1.snd.fst) ((2 : Int) ^ min (IntKind.u64.wrap n).toNat IntKind.u64.bits))).length : Int) ∧ G ((List.set x_1.fst (Int.toNat x_1.snd.fst) (Int.fdiv (rd u64 x x_1.snd.fst) ((2 : Int) ^ min (IntKind.u64.wrap n).toNat IntKind.u64.bits))).set (Int.toNat x_1.snd.fst) (bitsv BinOp.or IntKind.u64 (rd u64 (List.set x_1.fst (Int.toNat x_1.snd.fst) (Int.fdiv (rd u64 x x_1.snd.fst) ((2 : Int) ^ min (IntKind.u64.wrap n).toNat IntKind.u64.bits))) x_1.snd.fst) (IntKind.u64.wrap (Pl.wd x (IntKind.i64.wrap (x_1.snd.fst + (1 : Int))) * (2 : Int) ^ min (IntKind.u64.wrap (IntKind.i64.wrap ((64 : Int) - n))).toNat IntKind.u64.bits))), IntKind.i64.wrap (x_1.snd.fst + (1 : Int)), ())) (G (List.set x_1.fst (Int.toNat x_1.snd.fst) (Int.fdiv (rd u64 x x_1.snd.fst) ((2 : Int) ^ min (IntKind.u64.wrap n).toNat IntKind.u64.bits)), IntKind.i64.wrap (x_1.snd.fst + (1 : Int)), ()))) (Pl.rg2 x_1.1 ∧ (Pl.trm x_1.1, ()) = C143.post (x, n, ()))) n_1 (List.replicate (↑x.length : Int).toNat (0 : Int), (0 : Int), ())
  have e : C143.post (x, n, ()) = (dg W (vl W x / 2 ^ n.toNat), ()) := rfl
  rw [e]
  simp only [LEN] at lx hx hn0 hn1
  obtain ⟨s, rfl⟩ := Int.eq_ofNat_of_zero_le hn0
  have hs : s < 64 := by omega
  simp only [Int.toNat_natCast]
  refine ⟨by omega, trivial, by omega, ?_⟩
  have hvs : vl W x % 2 ^ s = (x.getD 0 0).toNat % 2 ^ s := by
    cases x with
    | nil => simp [vl]
    | cons d l =>
      have : (d :: l).getD 0 0 = d := rfl
      rw [this]
      simp only [vl]
      rw [← pow_split (Nat.le_of_lt hs), Nat.mul_comm (2 ^ (64 - s)), Nat.mul_assoc, Nat.add_mul_mod_self_left]
  refine itl_rule (fun st => ∃ k : Nat, st.2.1 = (k : Int) ∧ k ≤ x.length ∧ st.1.length = x.length ∧ rng W st.1 ∧ ZeroFrom st.1 k ∧ 2 ^ s * vl W st.1 + vl W x % 2 ^ s = vl W (x.take k) + W ^ k * ((x.getD k 0).toNat % 2 ^ s))
    (fun st => x.length - st.2.1.toNat) ⟨0, rfl, by omega, by simp, rng_replicate (by decide), zero_replicate _ _, by simp [vl_replicate, vl, hvs]⟩ ?_
  rintro ⟨out, i, ⟨⟩⟩ G ⟨k, hi, h1, h3, h4, h5, h6⟩ hG
  simp only at hi h3 h4 h5 h6
  subst hi
  simp only
  refine Br_of (fun hb => ?_) (fun hb => ?_)
  · have hk : k < x.length := by have := of_decide_eq_true hb; omega
    rw [wrap_i64 (x := (k : Int) + 1) (by omega) (by omega), wrap_u64, show (s : Int) % 18446744073709551616 = (s : Int) by omega, wrap_i64 (x := (64 : Int) - (s : Int)) (by omega) (by omega),
      wrap_u64, show ((64 : Int) - (s : Int)) % 18446744073709551616 = ((64 - s : Nat) : Int) by omega, rdW (l := x) (by omega) (by omega)]
    have ewd : wd x ((k : Int) + 1) = x.getD (k + 1) 0 := by
      show x.getD ((k : Int) + 1).toNat 0 = _
      rw [show ((k : Int) + 1).toNat = k + 1 by omega]
    rw [ewd]
    simp only [Int.toNat_natCast]
    have wx := rngW hx k
    have wy := rngW hx (k + 1)
    have hvx : vl W (x.take (k + 1)) = vl W (x.take k) + W ^ k * (x.getD k 0).toNat := vl_take_getD k
    generalize x.getD k 0 = X at wx hvx h6 ⊢
    generalize hY : x.getD (k + 1) 0 = Y at wy ⊢
    obtain ⟨d, rfl⟩ := Int.eq_ofNat_of_zero_le wx.1
    obtain ⟨f, rfl⟩ := Int.eq_ofNat_of_zero_le wy.1
    rw [Int.toNat_natCast] at h6 hvx
    rw [shr_val (Nat.le_of_lt hs)]
    have hdm := Nat.div_add_mod d (2 ^ s)
    have hdq : d / 2 ^ s ≤ d := Nat.div_le_self _ _
    have hdq2 : d / 2 ^ s < 2 ^ (64 - s) := by
      rw [Nat.div_lt_iff_lt_mul (pow_pos2 s), pow_split (Nat.le_of_lt hs), W_eq]; omega
    have m1 := congrArg (fun z => W ^ k * z) hdm
    simp only [Nat.mul_add] at m1
    refine ⟨by omega, by omega, by omega, by omega, by omega, by omega, by omega, ?_⟩
    refine Br_of (fun h0 => ?_) (fun h0 => ?_)
    · have er : rd u64 (List.set out k ((d / 2 ^ s : Nat) : Int)) (k : Int) = ((d / 2 ^ s : Nat) : Int) := by
        rw [rdW (by omega) (by simp; omega), Int.toNat_natCast, getD_set, if_pos ⟨rfl, by omega⟩]
      rw [er, shl_val (by omega), show 64 - (64 - s) = s by omega]
      have hb2 : f % 2 ^ s * 2 ^ (64 - s) < 18446744073709551616 := by
        have := mod_bound (d := f) (s := 64 - s) (by omega)
        rwa [show 64 - (64 - s) = s by omega] at this
      rw [or_add hdq2 hb2 (by omega), set_set]
      have hor : d / 2 ^ s + f % 2 ^ s * 2 ^ (64 - s) < 18446744073709551616 := by
        have h8 := Nat.mod_lt f (pow_pos2 s)
        have h9 : (f % 2 ^ s + 1) * 2 ^ (64 - s) ≤ 2 ^ s * 2 ^ (64 - s) := Nat.mul_le_mul_right _ h8
        rw [Nat.mul_comm (2 ^ s), pow_split (Nat.le_of_lt hs), W_eq, Nat.add_mul] at h9
        omega
      refine ⟨by omega, by simp; omega, by omega, by simp; omega, by omega, by omega, by omega, by simp; omega, by omega, by simp; omega, ?_⟩
      refine hG _ ⟨k + 1, by simp only; omega, by omega, by simpa using h3, rng_set h4 ⟨Int.natCast_nonneg _, Int.ofNat_lt.2 (by rw [W_eq]; exact hor)⟩, zero_set h5, ?_⟩ (by simp only; omega)
      simp only
      rw [vl_set0 (by omega) (h5 k (Nat.le_refl _)), Int.toNat_natCast, hY, Int.toNat_natCast, hvx]
      have e1 : 2 ^ s * (W ^ k * (d / 2 ^ s + f % 2 ^ s * 2 ^ (64 - s))) = W ^ k * (2 ^ s * (d / 2 ^ s)) + W ^ (k + 1) * (f % 2 ^ s) := by
        rw [Nat.mul_left_comm, Nat.mul_add, Nat.mul_add, Nat.pow_succ]
        congr 1
        rw [Nat.mul_assoc (W ^ k) W]
        congr 1
        rw [← pow_split (Nat.le_of_lt hs)]
        rw [Nat.mul_comm (f % 2 ^ s), ← Nat.mul_assoc, Nat.mul_comm (2 ^ s)]
      rw [Nat.mul_add, e1]
      omega
    · have hs0 : s = 0 := by have := of_decide_eq_false h0; omega
      subst hs0
      refine hG _ ⟨k + 1, by simp only; omega, by omega, by simpa using h3, rng_set h4 ⟨Int.natCast_nonneg _, Int.ofNat_lt.2 (by rw [W_eq]; omega)⟩, zero_set h5, ?_⟩ (by simp only; omega)
      simp only
      rw [vl_set0 (by omega) (h5 k (Nat.le_refl _)), Int.toNat_natCast, hvx]
      simp only [Nat.pow_zero, Nat.mod_one, Nat.mul_zero, Nat.add_zero, Nat.div_one, Nat.one_mul] at h6 ⊢
      omega
  · have hk : k = x.length := by have := of_decide_eq_false hb; omega
    subst hk
    rw [getD_out (Nat.le_refl _), List.take_length] at h6
    simp only [Int.toNat_zero, Nat.zero_mod, Nat.mul_zero, Nat.add_zero] at h6
    refine ⟨⟨h4, by unfold LEN2; omega⟩, ?_⟩
    show (dg W (vl W out), ()) = _
    have hdm := Nat.div_add_mod (vl W x) (2 ^ s)
    have : 2 ^ s * vl W out = 2 ^ s * (vl W x / 2 ^ s) := by omega
    rw [Nat.eq_of_mul_eq_mul_left (pow_pos2 s) this]

end Ta
end
section
/- Natural numbers: a multiple is taken from a window of a row, and given back. -/
set_option linter.unusedVariables false
set_option linter.unusedSimpArgs false
set_option maxRecDepth 100000
namespace Ta
open Go Fw Go.Proofs Pl

theorem fdg_len : ∀ (n m : Nat), (fdg n m).length = n
  | 0, _ => rfl
  | n + 1, m => by simp [fdg, fdg_len n]
theorem fdg_rng : ∀ (n m : Nat), rng W (fdg n m)
  | 0, _ => rng_nil
  | n + 1, m => rng_cons.2 ⟨⟨Int.natCast_nonneg _, Int.ofNat_lt.2 (Nat.mod_lt _ (by decide))⟩, fdg_rng n _⟩
theorem fdg_vl : ∀ {l : List Int}, rng W l → fdg l.length (vl W l) = l
  | [], _ => rfl
  | d :: l, h => by
    obtain ⟨⟨h1, h2⟩, h3⟩ := rng_cons.1 h
    have hW : 0 < W := by decide
    simp only [List.length_cons, fdg, vl]
    rw [Nat.add_mul_mod_self_left, Nat.mod_eq_of_lt (by omega), Nat.add_mul_div_left _ _ hW, Nat.div_eq_of_lt (by omega), Nat.zero_add, fdg_vl h3, Int.toNat_of_nonneg h1]
theorem vl_fdg : ∀ (n m : Nat), m < W ^ n → vl W (fdg n m) = m
  | 0, m, h => by have : m = 0 := by simpa using h
                  subst this; rfl
  | n + 1, m, h => by
    have h2 : m / W < W ^ n := by rw [Nat.div_lt_iff_lt_mul (by decide), ← Nat.pow_succ]; exact h
    simp only [fdg, vl, vl_fdg n _ h2, Int.toNat_natCast]
    exact Nat.mod_add_div m W

/-- A row with a window in it. -/
theorem win_split {xs : List Int} {lo n : Int} (h : winOK xs lo n) : ∃ a ws c, xs = a ++ ws ++ c ∧ a.length = lo.toNat ∧ ws.length = n.toNat ∧ rng W a ∧ rng W ws ∧ rng W c ∧ winv xs lo n = vl W ws ∧ ∀ m, setw xs lo n m = a ++ fdg n.toNat m ++ c := by
  obtain ⟨h1, h2, h3, h4, h5⟩ := h
  have e : xs = xs.take lo.toNat ++ sub xs lo (lo + n) ++ xs.drop (lo + n).toNat := by
    unfold sub
    conv => lhs; rw [← List.take_append_drop (lo + n).toNat xs]
    congr 1
    conv => lhs; rw [← List.take_append_drop lo.toNat (xs.take (lo + n).toNat)]
    rw [List.take_take, Nat.min_eq_left (by omega)]
  have hr := h1
  rw [e] at hr
  obtain ⟨hr1, hr3⟩ := rng_append.1 hr
  obtain ⟨hr1, hr2⟩ := rng_append.1 hr1
  exact ⟨_, _, _, e, by simp; omega, sub_length h3 h4 (by omega), hr1, hr2, hr3, rfl, fun m => rfl⟩
theorem win_join {a ws c : List Int} {lo n : Int} (ha : (a.length : Int) = lo) (hw : (ws.length : Int) = n) (hn : 0 < n) (h1 : rng W a) (h2 : rng W ws) (h3 : rng W c) (hl : (a ++ ws ++ c).length ≤ 4000000000000) :
    winOK (a ++ ws ++ c) lo n ∧ winv (a ++ ws ++ c) lo n = vl W ws ∧ ∀ m, setw (a ++ ws ++ c) lo n m = a ++ fdg n.toNat m ++ c := by
  subst ha hw
  have e1 : sub (a ++ ws ++ c) (a.length : Int) ((a.length : Int) + (ws.length : Int)) = ws := by
    unfold sub
    rw [show ((a.length : Int) + (ws.length : Int)).toNat = a.length + ws.length by omega, Int.toNat_natCast]
    rw [List.take_append_of_le_length (by simp), List.take_of_length_le (by simp), List.drop_left]
  refine ⟨⟨rng_append.2 ⟨rng_append.2 ⟨h1, h2⟩, h3⟩, hl, by omega, hn, by simp; omega⟩, by unfold winv; rw [e1], fun m => ?_⟩
  unfold setw
  have e2 : (a ++ ws ++ c).take a.length = a := by rw [List.append_assoc, List.take_left]
  rw [show ((a.length : Int) + (ws.length : Int)).toNat = (a ++ ws).length by simp; omega, Int.toNat_natCast, List.drop_left, e2]
theorem winv_lt {xs : List Int} {lo n : Int} (h : winOK xs lo n) : winv xs lo n < W ^ n.toNat := by
  obtain ⟨a, ws, c, _, _, h3, _, h5, _, h7, _⟩ := win_split h
  rw [h7, ← h3]; exact vl_lt h5
theorem setw_spec {xs : List Int} {lo n : Int} {m : Nat} (h : winOK xs lo n) (hm : m < W ^ n.toNat) : winOK (setw xs lo n m) lo n ∧ winv (setw xs lo n m) lo n = m ∧ (setw xs lo n m).length = xs.length ∧ ∀ m', setw (setw xs lo n m) lo n m' = setw xs lo n m' := by
  obtain ⟨a, ws, c, e, h2, h3, h4, h5, h6, h7, h8⟩ := win_split h
  obtain ⟨k1, k2, k3, k4, k5⟩ := h
  have hlen : (a ++ fdg n.toNat m ++ c).length = xs.length := by rw [e]; simp [fdg_len, h3]
  obtain ⟨g1, g2, g3⟩ := win_join (a := a) (ws := fdg n.toNat m) (c := c) (lo := lo) (n := n) (by omega) (by rw [fdg_len]; omega) k4 h4 (fdg_rng _ _) h6 (by rw [hlen]; exact k2)
  rw [h8]
  exact ⟨g1, by rw [g2, vl_fdg _ _ hm], hlen, fun m' => by rw [g3, h8]⟩
theorem setw_self {xs : List Int} {lo n : Int} (h : winOK xs lo n) : setw xs lo n (winv xs lo n) = xs := by
  obtain ⟨a, ws, c, e, h2, h3, h4, h5, h6, h7, h8⟩ := win_split h
  rw [h8, h7, ← h3, fdg_vl h5, ← e]
theorem app_get {a ws c : List Int} {k : Nat} (hk : k < ws.length) : (a ++ ws ++ c).getD (a.length + k) 0 = ws.getD k 0 := by
  rw [List.append_assoc]
  simp only [List.getD_eq_getElem?_getD]
  rw [List.getElem?_append_right (by omega), Nat.add_sub_cancel_left, List.getElem?_append_left hk]
theorem app_set {a ws c : List Int} {k : Nat} {d : Int} (hk : k < ws.length) : (a ++ ws ++ c).set (a.length + k) d = a ++ ws.set k d ++ c := by
  rw [List.append_assoc, List.set_append_right _ _ (by omega), Nat.add_sub_cancel_left, List.set_append_left _ _ hk, List.append_assoc]

theorem take_key {p c u b : Int} (hp : 0 ≤ p ∧ p ≤ 340282366920938463426481119284349108225) (hc : 0 ≤ c ∧ c < 18446744073709551616) (hu : 0 ≤ u ∧ u < 18446744073709551616) (hb : 0 ≤ b ∧ b ≤ 1) :
    let lo := (p % 18446744073709551616 + c) % 18446744073709551616
    let c' := (p / 18446744073709551616 + (p % 18446744073709551616 + c) / 18446744073709551616) % 18446744073709551616
    (0 ≤ lo ∧ lo < 18446744073709551616) ∧ (0 ≤ c' ∧ c' < 18446744073709551616) ∧ lo + 18446744073709551616 * c' = p + c := by
  intro lo c'
  have h := mul_key hp hc (c := 0) (by omega)
  have a1 := Int.emod_add_mul_ediv p 18446744073709551616
  have b1 := Int.emod_nonneg p (b := 18446744073709551616) (by decide)
  have b2 := Int.emod_lt_of_pos p (b := 18446744073709551616) (by decide)
  have b3 : 0 ≤ p / 18446744073709551616 := Int.ediv_nonneg hp.1 (by decide)
  have l1 : 0 ≤ lo := Int.emod_nonneg _ (by decide)
  have l2 : lo < 18446744073709551616 := Int.emod_lt_of_pos _ (by decide)
  refine ⟨⟨l1, l2⟩, ⟨Int.emod_nonneg _ (by decide), Int.emod_lt_of_pos _ (by decide)⟩, ?_⟩
  have e1 : (lo + 0) % 18446744073709551616 = lo := by omega
  have e2 : (lo + 0) / 18446744073709551616 = 0 := by omega
  have h' : (lo + 0) % 18446744073709551616 + 18446744073709551616 * ((c' + (lo + 0) / 18446744073709551616) % 18446744073709551616) = p + c + 0 := h
  rw [e1, e2] at h'
  have e3 : (c' + 0) % 18446744073709551616 = c' := by
    have : 0 ≤ c' ∧ c' < 18446744073709551616 := ⟨Int.emod_nonneg _ (by decide), Int.emod_lt_of_pos _ (by decide)⟩
    omega
  rw [e3] at h'
  omega

theorem vcp154 {h : Hp} {xs v : List Int} {lo n q : Int} {f : Bool} (hp0 : preT xs lo n v [.int .u64 q]) :
    VCP T154 H154 Tryd.f90 pt154 [.win 1000011 1 lo n, .d (.slc f u64 v), .d (.int .u64 q)] (hp h xs) (.d (.bool (tooB xs lo n v (qD [.int .u64 q]).toNat))) (hp (hp h xs) (newT xs lo n v [.int .u64 q])) := by
  generalize hr : tooB xs lo n v (qD [.int .u64 q]).toNat = r
  generalize hy : newT xs lo n v [.int .u64 q] = ys
  show ∃ (n_1 : Nat), itl (fun (G : Int × Int × Int × List Int × PUnit → Prop) (x : Int × Int × Int × List Int × PUnit) => Br (decide (x.snd.snd.fst < (↑(sub xs lo (lo + n)).length : Int))) ((0 : Int) ≤ x.snd.snd.fst ∧ (((0 : Int) ≤ q ∧ q < (18446744073709551616 : Int)) ∧ (0 : Int) ≤ Pl.wd v x.snd.snd.fst ∧ Pl.wd v x.snd.snd.fst < (18446744073709551616 : Int)) ∧ (((0 : Int) ≤ q * Pl.wd v x.snd.snd.fst % (18446744073709551616 : U.El) ∧ q * Pl.wd v x.snd.snd.fst % (18446744073709551616 : U.El) < (18446744073709551616 : Int)) ∧ ((0 : Int) ≤ x.fst ∧ x.fst < (18446744073709551616 : Int)) ∧ (0 : Int) ≤ (0 : Int) ∧ (0 : Int) ≤ (1 : Int)) ∧ (0 : Int) ≤ x.snd.snd.fst ∧ x.snd.snd.fst < n ∧ (0 : Int) ≤ lo + x.snd.snd.fst ∧ lo + x.snd.snd.fst < (↑(List.length x.snd.snd.snd.fst) : Int) ∧ (((0 : Int) ≤ rd u64 x.snd.snd.snd.fst (lo + x.snd.snd.fst) ∧ rd u64 x.snd.snd.snd.fst (lo + x.snd.snd.fst) < (18446744073709551616 : Int)) ∧ ((0 : Int) ≤ (q * Pl.wd v x.snd.snd.fst % (18446744073709551616 : U.El) + x.fst + (0 : Int)) % (18446744073709551616 : U.El) ∧ (q * Pl.wd v x.snd.snd.fst % (18446744073709551616 : U.El) + x.fst + (0 : Int)) % (18446744073709551616 : U.El) < (18446744073709551616 : Int)) ∧ (0 : Int) ≤ x.snd.fst ∧ x.snd.fst ≤ (1 : Int)) ∧ (0 : Int) ≤ x.snd.snd.fst ∧ x.snd.snd.fst < n ∧ (0 : Int) ≤ lo + x.snd.snd.fst ∧ lo + x.snd.snd.fst < (↑(List.length x.snd.snd.snd.fst) : Int) ∧ G (IntKind.u64.wrap (q * Pl.wd v x.snd.snd.fst / (18446744073709551616 : U.El) + (q * Pl.wd v x.snd.snd.fst % (18446744073709551616 : U.El) + x.fst + (0 : Int)) / (18446744073709551616 : U.El)), -((rd u64 x.snd.snd.snd.fst (lo + x.snd.snd.fst) - (q * Pl.wd v x.snd.snd.fst % (18446744073709551616 : U.El) + x.fst + (0 : Int)) % (18446744073709551616 : U.El) - x.snd.fst) / (18446744073709551616 : U.El)), IntKind.i64.wrap (x.snd.snd.fst + (1 : Int)), List.set x.snd.snd.snd.fst (lo + x.snd.snd.fst).toNat ((rd u64 x.snd.snd.snd.fst (lo + x.snd.snd.fst) - (q * Pl.wd v x.snd.snd.fst % (18446744073709551616 : U.El) + x.fst + (0 : Int)) % (18446744073709551616 : U.El) - x.snd.fst) % (18446744073709551616 : U.El)), ())) (decide (x.snd.fst > (0 : Int)) = r ∧ x.snd.snd.snd.1 = ys ∧ True)) n_1 ((0 : Int), (0 : Int), (0 : Int), xs, ())
  obtain ⟨hw, hv, hq0, hq1, hvl⟩ := hp0
  have hq : 0 ≤ q ∧ q < 18446744073709551616 := ⟨hq0, hq1⟩
  obtain ⟨a, ws, c, e, h2, h3, h4, h5, h6, h7, h8⟩ := win_split hw
  obtain ⟨k1, k2, k3, k4, k5⟩ := hw
  have hsl : (sub xs lo (lo + n)).length = n.toNat := sub_length k3 k4 (by omega)
  rw [hsl]
  obtain ⟨Q, rfl⟩ := Int.eq_ofNat_of_zero_le hq0
  have hQ : (qD [.int .u64 (Q : Int)]).toNat = Q := rfl
  have hr' : decide (vl W ws < Q * vl W v) = r := by rw [← hr, hQ]; unfold tooB; rw [h7]; rfl
  have hy' : ys = a ++ fdg n.toNat (if vl W ws < Q * vl W v then vl W ws + W ^ n.toNat - Q * vl W v else vl W ws - Q * vl W v) ++ c := by
    rw [← hy]; unfold newT; rw [h8, hQ]; unfold takeM; rw [h7]; rfl
  have hxl : xs.length = a.length + n.toNat + c.length := by rw [e]; simp [h3]; omega
  have hlt : Q * vl W v < W ^ n.toNat := by
    have b1 := vl_lt hv.1.1
    have b2 : v.length + 1 ≤ n.toNat := by omega
    have b3 : W ^ (v.length + 1) ≤ W ^ n.toNat := Nat.pow_le_pow_right (by decide) b2
    have b4 : Q * vl W v < W * W ^ v.length := by
      have c1 : Q < W := by rw [W_eq]; omega
      calc Q * vl W v ≤ Q * W ^ v.length := Nat.mul_le_mul_left _ (Nat.le_of_lt b1)
        _ < W * W ^ v.length := Nat.mul_lt_mul_of_pos_right c1 (Nat.pos_of_ne_zero (by intro h; have := Nat.pow_eq_zero.1 h; omega))
    rw [Nat.pow_succ, Nat.mul_comm] at b3
    omega
  refine itl_rule (fun s => ∃ (k : Nat) (C b : Nat) (us : List Int), s.2.2.1 = (k : Int) ∧ s.1 = (C : Int) ∧ s.2.1 = (b : Int) ∧ s.2.2.2.1 = a ++ us ++ c ∧ C < W ∧ b ≤ 1 ∧ k ≤ n.toNat ∧ us.length = n.toNat ∧ rng W us ∧
      (∀ j, k ≤ j → us.getD j 0 = ws.getD j 0) ∧ vl W (us.take k) + Q * vl W (v.take k) = vl W (ws.take k) + W ^ k * (C + b) ∧ W ^ k * C ≤ Q * vl W (v.take k))
    (fun s => n.toNat - s.2.2.1.toNat) ⟨0, 0, 0, ws, rfl, rfl, rfl, e, by decide, by omega, by omega, h3, h5, fun _ _ => rfl, by simp [vl], by simp⟩ ?_
  rintro ⟨CC, bb, i, xs', ⟨⟩⟩ G ⟨k, C, b, us, hi, hC, hb, hx, g1, g2, g3, g4, g5, g6, g7, g8⟩ hG
  simp only at hi hC hb hx
  subst hi hC hb hx
  simp only
  have elo : lo = (a.length : Int) := by omega
  refine Br_of (fun hb => ?_) (fun hb => ?_)
  · have hk : k < n.toNat := by have := of_decide_eq_true hb; omega
    have ek : lo + (k : Int) = ((a.length + k : Nat) : Int) := by omega
    have hlen : (a ++ us ++ c).length = a.length + n.toNat + c.length := by simp [g4]; omega
    rw [ek, rdW (by omega) (by rw [hlen]; omega), wrap_i64 (x := (k : Int) + 1) (by omega) (by omega)]
    simp only [Int.toNat_natCast]
    rw [app_get (by omega), app_set (by omega)]
    have ev : wd v (k : Int) = v.getD k 0 := rfl
    rw [ev, Int.add_zero, wrap_u64]
    have wv := rngW hv.1.1 k
    have wu := rngW g5 k
    have hvv : vl W (v.take (k + 1)) = vl W (v.take k) + W ^ k * (v.getD k 0).toNat := vl_take_getD k
    have hvw : vl W (ws.take (k + 1)) = vl W (ws.take k) + W ^ k * (us.getD k 0).toNat := by rw [g6 k (Nat.le_refl _)]; exact vl_take_getD k
    generalize v.getD k 0 = X at wv hvv ⊢
    generalize us.getD k 0 = U at wu hvw ⊢
    have hpb := mul_bounds hq wv
    obtain ⟨t1, t2, t3⟩ := take_key hpb (c := (C : Int)) ⟨by omega, by rw [W_eq] at g1; omega⟩ wu (b := (b : Int)) ⟨by omega, by omega⟩
    have hpn : ((Q : Int) * X).toNat = Q * X.toNat := by rw [Int.toNat_mul (by omega) wv.1, Int.toNat_natCast]
    generalize (Q : Int) * X = p at hpb hpn t1 t2 t3 ⊢
    have plo : 0 ≤ p % 18446744073709551616 ∧ p % 18446744073709551616 < 18446744073709551616 := by omega
    generalize (p % 18446744073709551616 + (C : Int)) % 18446744073709551616 = z1 at t1 t3 ⊢
    generalize (p / 18446744073709551616 + (p % 18446744073709551616 + (C : Int)) / 18446744073709551616) % 18446744073709551616 = z2 at t2 t3 ⊢
    have sb : 0 ≤ -((U - z1 - (b : Int)) / 18446744073709551616) ∧ -((U - z1 - (b : Int)) / 18446744073709551616) ≤ 1 := by omega
    have sd : (U - z1 - (b : Int)) % 18446744073709551616 + z1 + b = U + 18446744073709551616 * (-((U - z1 - (b : Int)) / 18446744073709551616)) := by omega
    have sr : 0 ≤ (U - z1 - (b : Int)) % 18446744073709551616 ∧ (U - z1 - (b : Int)) % 18446744073709551616 < 18446744073709551616 := by omega
    refine ⟨by omega, ⟨hq, wv⟩, ⟨plo, by rw [W_eq] at g1; omega, by decide, by decide⟩, by omega, by omega, by omega, by rw [hlen]; omega, ⟨wu, t1, by omega, by omega⟩, by omega, by omega, by omega, by rw [hlen]; omega, ?_⟩
    generalize (U - z1 - (b : Int)) % 18446744073709551616 = d at sd sr ⊢
    generalize -((U - z1 - (b : Int)) / 18446744073709551616) = b' at sb sd ⊢
    refine hG _ ⟨k + 1, z2.toNat, b'.toNat, us.set k d, by simp only; omega, by simp only; omega, by simp only; omega, rfl, by rw [W_eq]; omega, by omega, by omega, by simpa using g4, rng_set g5 (by rw [W_eq]; exact sr), ?_, ?_, ?_⟩ (by simp only; omega)
    · intro j hj
      rw [getD_set, if_neg (by omega)]
      exact g6 j (by omega)
    · have hset : vl W ((us.set k d).take (k + 1)) = vl W (us.take k) + W ^ k * d.toNat := by
        rw [vl_take_getD, getD_set, if_pos ⟨rfl, by omega⟩, List.take_set_of_le (Nat.le_refl _)]
      rw [hset, hvv, hvw, Nat.mul_add]
      have key : d.toNat + Q * X.toNat + (C + b) = U.toNat + W * (z2.toNat + b'.toNat) := by
        rw [W_eq, ← hpn]; omega
      have e6 := congrArg (fun z => W ^ k * z) key
      simp only [Nat.mul_add] at e6 g7 ⊢
      rw [← Nat.mul_assoc (W ^ k) W, ← Nat.mul_assoc (W ^ k) W, ← Nat.pow_succ, Nat.succ_eq_add_one] at e6
      have e7 : Q * (W ^ k * X.toNat) = W ^ k * (Q * X.toNat) := Nat.mul_left_comm _ _ _
      rw [e7]
      omega
    · rw [hvv, Nat.mul_add, show Q * (W ^ k * X.toNat) = W ^ k * (Q * X.toNat) from Nat.mul_left_comm _ _ _, Nat.pow_succ, Nat.mul_assoc]
      have key : W * z2.toNat ≤ Q * X.toNat + C := by rw [W_eq, ← hpn]; omega
      have e6 := Nat.mul_le_mul_left (W ^ k) key
      rw [Nat.mul_add] at e6
      omega
  · have hk : k = n.toNat := by have := of_decide_eq_false hb; omega
    subst hk
    rw [List.take_of_length_le (l := us) (by omega), List.take_of_length_le (l := v) (by omega), List.take_of_length_le (l := ws) (by omega)] at g7
    rw [List.take_of_length_le (l := v) (by omega)] at g8
    have u1 := vl_lt g5
    have w1 := vl_lt h5
    rw [g4] at u1
    rw [h3] at w1
    have hC0 : C = 0 := by
      rcases Nat.eq_zero_or_pos C with hz | hz
      · exact hz
      · have := Nat.mul_le_mul_left (W ^ n.toNat) hz
        omega
    subst hC0
    rw [Nat.zero_add] at g7
    have hus : fdg n.toNat (vl W us) = us := by rw [← g4]; exact fdg_vl g5
    rcases (show b = 0 ∨ b = 1 by omega) with rfl | rfl
    · rw [Nat.mul_zero, Nat.add_zero] at g7
      have hge : ¬ vl W ws < Q * vl W v := by omega
      refine ⟨?_, ?_, trivial⟩
      · rw [← hr', decide_eq_false hge]; rfl
      · rw [hy', if_neg hge, show vl W ws - Q * vl W v = vl W us by omega, hus]
    · rw [Nat.mul_one] at g7
      have hge : vl W ws < Q * vl W v := by omega
      refine ⟨?_, ?_, trivial⟩
      · rw [← hr', decide_eq_true hge]; rfl
      · rw [hy', if_pos hge, show vl W ws + W ^ n.toNat - Q * vl W v = vl W us by omega, hus]

end Ta
end
section
/- Natural numbers: a multiple is given back. -/
set_option linter.unusedVariables false
set_option linter.unusedSimpArgs false
set_option maxRecDepth 100000
namespace Ta
open Go Fw Go.Proofs Pl

theorem vcp155 {h : Hp} {xs v : List Int} {lo n q : Int} {f : Bool} (hp0 : preT xs lo n v [.int .u64 q]) :
    VCP T155 H155 Tryd.f91 pt155 [.win 1000011 1 lo n, .d (.slc f u64 v), .d (.int .u64 q)] (hp h xs) (.tup []) (hp (hp h xs) (newG xs lo n v [.int .u64 q])) := by
  generalize hy : newG xs lo n v [.int .u64 q] = ys
  show ∃ (n_1 : Nat), itl (fun (G : Int × Int × Int × List Int × PUnit → Prop) (x : Int × Int × Int × List Int × PUnit) => Br (decide (x.snd.snd.fst < (↑(sub xs lo (lo + n)).length : Int))) ((0 : Int) ≤ x.snd.snd.fst ∧ (((0 : Int) ≤ q ∧ q < (18446744073709551616 : Int)) ∧ (0 : Int) ≤ Pl.wd v x.snd.snd.fst ∧ Pl.wd v x.snd.snd.fst < (18446744073709551616 : Int)) ∧ (((0 : Int) ≤ q * Pl.wd v x.snd.snd.fst % (18446744073709551616 : U.El) ∧ q * Pl.wd v x.snd.snd.fst % (18446744073709551616 : U.El) < (18446744073709551616 : Int)) ∧ ((0 : Int) ≤ x.fst ∧ x.fst < (18446744073709551616 : Int)) ∧ (0 : Int) ≤ (0 : Int) ∧ (0 : Int) ≤ (1 : Int)) ∧ (0 : Int) ≤ x.snd.snd.fst ∧ x.snd.snd.fst < n ∧ (0 : Int) ≤ lo + x.snd.snd.fst ∧ lo + x.snd.snd.fst < (↑(List.length x.snd.snd.snd.fst) : Int) ∧ (((0 : Int) ≤ rd u64 x.snd.snd.snd.fst (lo + x.snd.snd.fst) ∧ rd u64 x.snd.snd.snd.fst (lo + x.snd.snd.fst) < (18446744073709551616 : Int)) ∧ ((0 : Int) ≤ (q * Pl.wd v x.snd.snd.fst % (18446744073709551616 : U.El) + x.fst + (0 : Int)) % (18446744073709551616 : U.El) ∧ (q * Pl.wd v x.snd.snd.fst % (18446744073709551616 : U.El) + x.fst + (0 : Int)) % (18446744073709551616 : U.El) < (18446744073709551616 : Int)) ∧ (0 : Int) ≤ x.snd.fst ∧ x.snd.fst ≤ (1 : Int)) ∧ (0 : Int) ≤ x.snd.snd.fst ∧ x.snd.snd.fst < n ∧ (0 : Int) ≤ lo + x.snd.snd.fst ∧ lo + x.snd.snd.fst < (↑(List.length x.snd.snd.snd.fst) : Int) ∧ G (IntKind.u64.wrap (q * Pl.wd v x.snd.snd.fst / (18446744073709551616 : U.El) + (q * Pl.wd v x.snd.snd.fst % (18446744073709551616 : U.El) + x.fst + (0 : Int)) / (18446744073709551616 : U.El)), (rd u64 x.snd.snd.snd.fst (lo + x.snd.snd.fst) + (q * Pl.wd v x.snd.snd.fst % (18446744073709551616 : U.El) + x.fst + (0 : Int)) % (18446744073709551616 : U.El) + x.snd.fst) / (18446744073709551616 : U.El), IntKind.i64.wrap (x.snd.snd.fst + (1 : Int)), List.set x.snd.snd.snd.fst (lo + x.snd.snd.fst).toNat ((rd u64 x.snd.snd.snd.fst (lo + x.snd.snd.fst) + (q * Pl.wd v x.snd.snd.fst % (18446744073709551616 : U.El) + x.fst + (0 : Int)) % (18446744073709551616 : U.El) + x.snd.fst) % (18446744073709551616 : U.El)), ())) (True ∧ x.snd.snd.snd.1 = ys ∧ True)) n_1 ((0 : Int), (0 : Int), (0 : Int), xs, ())
  obtain ⟨hw, hv, hq0, hq1, hvl⟩ := hp0
  have hq : 0 ≤ q ∧ q < 18446744073709551616 := ⟨hq0, hq1⟩
  obtain ⟨a, ws, c, e, h2, h3, h4, h5, h6, h7, h8⟩ := win_split hw
  obtain ⟨k1, k2, k3, k4, k5⟩ := hw
  have hsl : (sub xs lo (lo + n)).length = n.toNat := sub_length k3 k4 (by omega)
  rw [hsl]
  obtain ⟨Q, rfl⟩ := Int.eq_ofNat_of_zero_le hq0
  have hQ : (qD [.int .u64 (Q : Int)]).toNat = Q := rfl
  have hy' : ys = a ++ fdg n.toNat ((vl W ws + Q * vl W v) % W ^ n.toNat) ++ c := by
    rw [← hy]; unfold newG; rw [h8, hQ]; unfold giveM; rw [h7]; rfl
  have hxl : xs.length = a.length + n.toNat + c.length := by rw [e]; simp [h3]; omega
  have hlt : Q * vl W v < W ^ n.toNat := by
    have b1 := vl_lt hv.1.1
    have b2 : v.length + 1 ≤ n.toNat := by omega
    have b3 : W ^ (v.length + 1) ≤ W ^ n.toNat := Nat.pow_le_pow_right (by decide) b2
    have b4 : Q * vl W v < W * W ^ v.length := by
      have c1 : Q < W := by rw [W_eq]; omega
      calc Q * vl W v ≤ Q * W ^ v.length := Nat.mul_le_mul_left _ (Nat.le_of_lt b1)
        _ < W * W ^ v.length := Nat.mul_lt_mul_of_pos_right c1 (Nat.pos_of_ne_zero (by intro h; have := Nat.pow_eq_zero.1 h; omega))
    rw [Nat.pow_succ, Nat.mul_comm] at b3
    omega
  refine itl_rule (fun s => ∃ (k : Nat) (C b : Nat) (us : List Int), s.2.2.1 = (k : Int) ∧ s.1 = (C : Int) ∧ s.2.1 = (b : Int) ∧ s.2.2.2.1 = a ++ us ++ c ∧ C < W ∧ b ≤ 1 ∧ k ≤ n.toNat ∧ us.length = n.toNat ∧ rng W us ∧
      (∀ j, k ≤ j → us.getD j 0 = ws.getD j 0) ∧ vl W (us.take k) + W ^ k * (C + b) = vl W (ws.take k) + Q * vl W (v.take k) ∧ W ^ k * C ≤ Q * vl W (v.take k))
    (fun s => n.toNat - s.2.2.1.toNat) ⟨0, 0, 0, ws, rfl, rfl, rfl, e, by decide, by omega, by omega, h3, h5, fun _ _ => rfl, by simp [vl], by simp⟩ ?_
  rintro ⟨CC, bb, i, xs', ⟨⟩⟩ G ⟨k, C, b, us, hi, hC, hb, hx, g1, g2, g3, g4, g5, g6, g7, g8⟩ hG
  simp only at hi hC hb hx
  subst hi hC hb hx
  simp only
  have elo : lo = (a.length : Int) := by omega
  refine Br_of (fun hb => ?_) (fun hb => ?_)
  · have hk : k < n.toNat := by have := of_decide_eq_true hb; omega
    have ek : lo + (k : Int) = ((a.length + k : Nat) : Int) := by omega
    have hlen : (a ++ us ++ c).length = a.length + n.toNat + c.length := by simp [g4]; omega
    rw [ek, rdW (by omega) (by rw [hlen]; omega), wrap_i64 (x := (k : Int) + 1) (by omega) (by omega)]
    simp only [Int.toNat_natCast]
    rw [app_get (by omega), app_set (by omega)]
    have ev : wd v (k : Int) = v.getD k 0 := rfl
    rw [ev, Int.add_zero, wrap_u64]
    have wv := rngW hv.1.1 k
    have wu := rngW g5 k
    have hvv : vl W (v.take (k + 1)) = vl W (v.take k) + W ^ k * (v.getD k 0).toNat := vl_take_getD k
    have hvw : vl W (ws.take (k + 1)) = vl W (ws.take k) + W ^ k * (us.getD k 0).toNat := by rw [g6 k (Nat.le_refl _)]; exact vl_take_getD k
    generalize v.getD k 0 = X at wv hvv ⊢
    generalize us.getD k 0 = U at wu hvw ⊢
    have hpb := mul_bounds hq wv
    obtain ⟨t1, t2, t3⟩ := take_key hpb (c := (C : Int)) ⟨by omega, by rw [W_eq] at g1; omega⟩ wu (b := (b : Int)) ⟨by omega, by omega⟩
    have hpn : ((Q : Int) * X).toNat = Q * X.toNat := by rw [Int.toNat_mul (by omega) wv.1, Int.toNat_natCast]
    generalize (Q : Int) * X = p at hpb hpn t1 t2 t3 ⊢
    have plo : 0 ≤ p % 18446744073709551616 ∧ p % 18446744073709551616 < 18446744073709551616 := by omega
    generalize (p % 18446744073709551616 + (C : Int)) % 18446744073709551616 = z1 at t1 t3 ⊢
    generalize (p / 18446744073709551616 + (p % 18446744073709551616 + (C : Int)) / 18446744073709551616) % 18446744073709551616 = z2 at t2 t3 ⊢
    have sb : 0 ≤ (U + z1 + (b : Int)) / 18446744073709551616 ∧ (U + z1 + (b : Int)) / 18446744073709551616 ≤ 1 := by omega
    have sd : (U + z1 + (b : Int)) % 18446744073709551616 + 18446744073709551616 * ((U + z1 + (b : Int)) / 18446744073709551616) = U + z1 + b := by omega
    have sr : 0 ≤ (U + z1 + (b : Int)) % 18446744073709551616 ∧ (U + z1 + (b : Int)) % 18446744073709551616 < 18446744073709551616 := by omega
    refine ⟨by omega, ⟨hq, wv⟩, ⟨plo, by rw [W_eq] at g1; omega, by decide, by decide⟩, by omega, by omega, by omega, by rw [hlen]; omega, ⟨wu, t1, by omega, by omega⟩, by omega, by omega, by omega, by rw [hlen]; omega, ?_⟩
    generalize (U + z1 + (b : Int)) % 18446744073709551616 = d at sd sr ⊢
    generalize (U + z1 + (b : Int)) / 18446744073709551616 = b' at sb sd ⊢
    refine hG _ ⟨k + 1, z2.toNat, b'.toNat, us.set k d, by simp only; omega, by simp only; omega, by simp only; omega, rfl, by rw [W_eq]; omega, by omega, by omega, by simpa using g4, rng_set g5 (by rw [W_eq]; exact sr), ?_, ?_, ?_⟩ (by simp only; omega)
    · intro j hj
      rw [getD_set, if_neg (by omega)]
      exact g6 j (by omega)
    · have hset : vl W ((us.set k d).take (k + 1)) = vl W (us.take k) + W ^ k * d.toNat := by
        rw [vl_take_getD, getD_set, if_pos ⟨rfl, by omega⟩, List.take_set_of_le (Nat.le_refl _)]
      rw [hset, hvv, hvw, Nat.mul_add]
      have key : d.toNat + W * (z2.toNat + b'.toNat) = U.toNat + Q * X.toNat + (C + b) := by
        rw [W_eq, ← hpn]; omega
      have e6 := congrArg (fun z => W ^ k * z) key
      simp only [Nat.mul_add] at e6 g7 ⊢
      rw [← Nat.mul_assoc (W ^ k) W, ← Nat.mul_assoc (W ^ k) W, ← Nat.pow_succ, Nat.succ_eq_add_one] at e6
      have e7 : Q * (W ^ k * X.toNat) = W ^ k * (Q * X.toNat) := Nat.mul_left_comm _ _ _
      rw [e7]
      omega
    · rw [hvv, Nat.mul_add, show Q * (W ^ k * X.toNat) = W ^ k * (Q * X.toNat) from Nat.mul_left_comm _ _ _, Nat.pow_succ, Nat.mul_assoc]
      have key : W * z2.toNat ≤ Q * X.toNat + C := by rw [W_eq, ← hpn]; omega
      have e6 := Nat.mul_le_mul_left (W ^ k) key
      rw [Nat.mul_add] at e6
      omega
  · have hk : k = n.toNat := by have := of_decide_eq_false hb; omega
    subst hk
    rw [List.take_of_length_le (l := us) (by omega), List.take_of_length_le (l := v) (by omega), List.take_of_length_le (l := ws) (by omega)] at g7
    rw [List.take_of_length_le (l := v) (by omega)] at g8
    have u1 := vl_lt g5
    have w1 := vl_lt h5
    rw [g4] at u1
    rw [h3] at w1
    have hC0 : C = 0 := by
      rcases Nat.eq_zero_or_pos C with hz | hz
      · exact hz
      · have := Nat.mul_le_mul_left (W ^ n.toNat) hz
        omega
    subst hC0
    rw [Nat.zero_add] at g7
    have hus : fdg n.toNat (vl W us) = us := by rw [← g4]; exact fdg_vl g5
    refine ⟨trivial, ?_, trivial⟩
    have hm : (vl W ws + Q * vl W v) % W ^ n.toNat = vl W us := by
      rw [← g7, Nat.add_mul_mod_self_left, Nat.mod_eq_of_lt u1]
    rw [hy', hm, hus]

end Ta
end
section
/- Natural numbers: a window is reduced by a number. -/
set_option linter.unusedVariables false
set_option linter.unusedSimpArgs false
set_option maxRecDepth 100000
namespace Ta
open Go Fw Go.Proofs Pl

theorem vcp142 {h : Hp} {xs v : List Int} {lo n : Int} {f : Bool} (hp0 : preR xs lo n v []) :
    VCP T142 H142 Tryd.f80 pt142 [.win 1000011 1 lo n, .d (.slc f u64 v)] (hp h xs) (.d (.int .u64 (quoW xs lo n v))) (hp (hp h xs) (newR xs lo n v [])) := by
  generalize hr : quoW xs lo n v = r
  generalize hy : newR xs lo n v [] = ys
  refine cast (α := (0 : Int) ≤ (↑v.length : Int) ∧ (↑v.length : Int) < n ∧ (0 : Int) ≤ lo + (↑v.length : Int) ∧ lo + (↑v.length : Int) < (↑xs.length : Int) ∧ (0 : Int) ≤ IntKind.i64.wrap ((↑v.length : Int) - (1 : Int)) ∧ IntKind.i64.wrap ((↑v.length : Int) - (1 : Int)) < (↑v.length : Int) ∧ Br (decide (rd u64 xs (lo + (↑v.length : Int)) < rd u64 v (IntKind.i64.wrap ((↑v.length : Int) - (1 : Int))))) ((0 : Int) ≤ (↑v.length : Int) ∧ (↑v.length : Int) < n ∧ (0 : Int) ≤ lo + (↑v.length : Int) ∧ lo + (↑v.length : Int) < (↑xs.length : Int) ∧ (0 : Int) ≤ IntKind.i64.wrap ((↑v.length : Int) - (1 : Int)) ∧ IntKind.i64.wrap ((↑v.length : Int) - (1 : Int)) < n ∧ (0 : Int) ≤ lo + IntKind.i64.wrap ((↑v.length : Int) - (1 : Int)) ∧ lo + IntKind.i64.wrap ((↑v.length : Int) - (1 : Int)) < (↑xs.length : Int) ∧ (0 : Int) ≤ IntKind.i64.wrap ((↑v.length : Int) - (1 : Int)) ∧ IntKind.i64.wrap ((↑v.length : Int) - (1 : Int)) < (↑v.length : Int) ∧ (((0 : Int) ≤ rd u64 xs (lo + (↑v.length : Int)) ∧ rd u64 xs (lo + (↑v.length : Int)) < rd u64 v (IntKind.i64.wrap ((↑v.length : Int) - (1 : Int)))) ∧ ((0 : Int) ≤ rd u64 xs (lo + IntKind.i64.wrap ((↑v.length : Int) - (1 : Int))) ∧ rd u64 xs (lo + IntKind.i64.wrap ((↑v.length : Int) - (1 : Int))) < (18446744073709551616 : Int)) ∧ rd u64 v (IntKind.i64.wrap ((↑v.length : Int) - (1 : Int))) < (18446744073709551616 : Int)) ∧ ∃ (n_1 : Nat), itl (fun (G : Int × List Int × PUnit → Prop) (x : Int × List Int × PUnit) => Pl.preT x.snd.fst lo n v [D.int IntKind.u64 x.fst] ∧ Br (Pl.tooB x.snd.fst lo n v (Pl.qD [D.int IntKind.u64 x.fst]).toNat) (Pl.preT (Pl.newT x.snd.fst lo n v [D.int IntKind.u64 x.fst]) lo n v [D.int IntKind.u64 x.fst] ∧ G (IntKind.u64.wrap (x.fst - (1 : Int)), Pl.newG (Pl.newT x.snd.fst lo n v [D.int IntKind.u64 x.fst]) lo n v [D.int IntKind.u64 x.fst], ())) (x.fst = r ∧ Pl.newT x.snd.fst lo n v [D.int IntKind.u64 x.fst] = ys ∧ True)) n_1 ((rd u64 xs (lo + (↑v.length : Int)) * (18446744073709551616 : U.El) + rd u64 xs (lo + IntKind.i64.wrap ((↑v.length : Int) - (1 : Int)))) / rd u64 v (IntKind.i64.wrap ((↑v.length : Int) - (1 : Int))), xs, ())) (∃ (n_1 : Nat), itl (fun (G : Int × List Int × PUnit → Prop) (x : Int × List Int × PUnit) => Pl.preT x.snd.fst lo n v [D.int IntKind.u64 x.fst] ∧ Br (Pl.tooB x.snd.fst lo n v (Pl.qD [D.int IntKind.u64 x.fst]).toNat) (Pl.preT (Pl.newT x.snd.fst lo n v [D.int IntKind.u64 x.fst]) lo n v [D.int IntKind.u64 x.fst] ∧ G (IntKind.u64.wrap (x.fst - (1 : Int)), Pl.newG (Pl.newT x.snd.fst lo n v [D.int IntKind.u64 x.fst]) lo n v [D.int IntKind.u64 x.fst], ())) (x.fst = r ∧ Pl.newT x.snd.fst lo n v [D.int IntKind.u64 x.fst] = ys ∧ True)) n_1 ((18446744073709551615 : Int), xs, ()))) (by kernel_rfl) ?_
  obtain ⟨hw, hv, -, hvl, hlt⟩ := hp0
  have hvr := hv.1.1
  have hwlt := winv_lt hw
  have hv0 : 0 < vl W v := by
    rcases Nat.eq_zero_or_pos (nt v) with h0 | h0
    · rw [h0] at hlt; simp at hlt
    · exact h0
  have hntv : nt v = vl W v := rfl
  rw [hntv] at hlt
  obtain ⟨L, hL⟩ : ∃ L, v.length = L + 1 := by
    cases v with
    | nil => simp [vl] at hv0
    | cons d l => exact ⟨l.length, rfl⟩
  obtain ⟨a, ws, c, e, h2, h3, h4, h5, h6, h7, h8⟩ := win_split hw
  obtain ⟨k1, k2, k3, k4, k5⟩ := hw
  have hw : winOK xs lo n := ⟨k1, k2, k3, k4, k5⟩
  have hn : n.toNat = L + 2 := by omega
  rw [hn] at h3
  have elo : lo = (a.length : Int) := by omega
  have hxl : xs.length = a.length + (L + 2) + c.length := by rw [e]; simp [h3]; omega
  have hq : vl W ws / vl W v < W := by rw [Nat.div_lt_iff_lt_mul hv0, Nat.mul_comm, ← h7]; exact hlt
  have hqm : vl W ws / vl W v * vl W v ≤ vl W ws := Nat.div_mul_le_self _ _
  have hr' : r = ((vl W ws / vl W v : Nat) : Int) := by rw [← hr]; unfold quoW; rw [h7]; rfl
  have hy' : ys = setw xs lo n (vl W ws % vl W v) := by rw [← hy]; unfold newR; rw [h7]; rfl
  have loop : ∀ g0 : Nat, vl W ws / vl W v ≤ g0 → g0 < W → ∃ (n_1 : Nat), itl (fun (G : Int × List Int × PUnit → Prop) (x : Int × List Int × PUnit) =>
      Pl.preT x.snd.fst lo n v [D.int IntKind.u64 x.fst] ∧
        Br (Pl.tooB x.snd.fst lo n v (Pl.qD [D.int IntKind.u64 x.fst]).toNat)
          (Pl.preT (Pl.newT x.snd.fst lo n v [D.int IntKind.u64 x.fst]) lo n v [D.int IntKind.u64 x.fst] ∧
            G (IntKind.u64.wrap (x.fst - (1 : Int)), Pl.newG (Pl.newT x.snd.fst lo n v [D.int IntKind.u64 x.fst]) lo n v [D.int IntKind.u64 x.fst], ()))
          (x.fst = r ∧ Pl.newT x.snd.fst lo n v [D.int IntKind.u64 x.fst] = ys ∧ True)) n_1 ((g0 : Int), xs, ()) := by
    intro g0 h1 h2
    refine itl_rule (fun s => ∃ g : Nat, s.1 = (g : Int) ∧ vl W ws / vl W v ≤ g ∧ g < W ∧ s.2.1 = xs) (fun s => s.1.toNat) ⟨g0, rfl, h1, h2, rfl⟩ ?_
    rintro ⟨gg, xs', ⟨⟩⟩ G ⟨g, hg, g1, g2, hx⟩ hG
    simp only at hg hx
    subst hg hx
    simp only
    have hqd : (qD [D.int IntKind.u64 (g : Int)]).toNat = g := rfl
    have hgw : (g : Int) < 18446744073709551616 := by rw [W_eq] at g2; omega
    have eg1 : 0 < g → ((g : Int) - 1) % 18446744073709551616 = ((g - 1 : Nat) : Int) := fun _ => by clear hG hy hr; omega
    have hpre : ∀ zs, winOK zs lo n → preT zs lo n v [D.int IntKind.u64 (g : Int)] := fun zs hz => ⟨hz, hv, Int.natCast_nonneg g, hgw, by omega⟩
    refine ⟨hpre xs' hw, ?_⟩
    rw [hqd]
    have htoo : tooB xs' lo n v g = decide (vl W ws < g * vl W v) := by unfold tooB; rw [h7]; rfl
    rw [htoo]
    have htm : takeM xs' lo n v g = if vl W ws < g * vl W v then vl W ws + W ^ n.toNat - g * vl W v else vl W ws - g * vl W v := by unfold takeM; rw [h7]; rfl
    refine Br_of (fun hb => ?_) (fun hb => ?_)
    · have hb' := of_decide_eq_true hb
      rw [if_pos hb'] at htm
      have hgq : vl W ws / vl W v < g := by
        rcases Nat.lt_or_ge (vl W ws / vl W v) g with h9 | h9
        · exact h9
        · have : g * vl W v ≤ vl W ws / vl W v * vl W v := Nat.mul_le_mul_right _ h9
          omega
      have hbnd : g * vl W v < W ^ n.toNat + vl W ws := by
        have b1 := vl_lt hvr
        have b2 : g * vl W v < W ^ (L + 2) := by
          rw [show W ^ (L + 2) = W * W ^ v.length by rw [hL]; exact Nat.pow_succ']
          calc g * vl W v ≤ g * W ^ v.length := Nat.mul_le_mul_left _ (Nat.le_of_lt b1)
            _ < W * W ^ v.length := Nat.mul_lt_mul_of_pos_right g2 (Nat.pow_pos (by decide))
        rw [hn]
        omega
      have hm : takeM xs' lo n v g < W ^ n.toNat := by rw [htm]; omega
      obtain ⟨s1, s2, s3, s4⟩ := setw_spec hw hm
      have hnT : newT xs' lo n v [D.int IntKind.u64 (g : Int)] = setw xs' lo n (takeM xs' lo n v g) := rfl
      rw [hnT]
      refine ⟨hpre _ s1, ?_⟩
      have hback : newG (setw xs' lo n (takeM xs' lo n v g)) lo n v [D.int IntKind.u64 (g : Int)] = xs' := by
        show setw (setw xs' lo n (takeM xs' lo n v g)) lo n (giveM (setw xs' lo n (takeM xs' lo n v g)) lo n v g) = xs'
        rw [s4]
        have : giveM (setw xs' lo n (takeM xs' lo n v g)) lo n v g = winv xs' lo n := by
          unfold giveM
          rw [s2, htm, hntv, h7, show vl W ws + W ^ n.toNat - g * vl W v + g * vl W v = vl W ws + W ^ n.toNat by omega, Nat.add_mod_right, Nat.mod_eq_of_lt (by rw [← h7]; exact hwlt)]
        rw [this, setw_self hw]
      rw [hback, wrap_u64, eg1 (Nat.lt_of_le_of_lt (Nat.zero_le _) hgq)]
      have hg0 := Nat.lt_of_le_of_lt (Nat.zero_le _) hgq
      refine hG _ ⟨g - 1, rfl, Nat.le_sub_one_of_lt hgq, Nat.lt_of_le_of_lt (Nat.sub_le _ _) g2, rfl⟩ ?_
      show ((g - 1 : Nat) : Int).toNat < (g : Int).toNat
      rw [Int.toNat_natCast, Int.toNat_natCast]
      exact Nat.sub_lt hg0 (by decide)
    · have hb' := of_decide_eq_false hb
      rw [if_neg hb'] at htm
      have hgq : g = vl W ws / vl W v := by
        have : g ≤ vl W ws / vl W v := (Nat.le_div_iff_mul_le hv0).2 (by omega)
        omega
      refine ⟨by rw [hr', hgq], ?_, trivial⟩
      show setw xs' lo n (takeM xs' lo n v g) = ys
      rw [hy', htm, hgq]
      have := Nat.div_add_mod (vl W ws) (vl W v)
      rw [Nat.mul_comm] at this
      rw [show vl W ws - vl W ws / vl W v * vl W v = vl W ws % vl W v by omega]
  have eL : (v.length : Int) = ((L + 1 : Nat) : Int) := by omega
  rw [eL, wrap_i64 (x := ((L + 1 : Nat) : Int) - 1) (by omega) (by have := hv.2; unfold LEN at this; omega), show ((L + 1 : Nat) : Int) - 1 = (L : Int) by omega]
  have e1 : lo + ((L + 1 : Nat) : Int) = ((a.length + (L + 1) : Nat) : Int) := by omega
  have e2 : lo + (L : Int) = ((a.length + L : Nat) : Int) := by omega
  rw [e1, e2, rdW (l := xs) (i := ((a.length + (L + 1) : Nat) : Int)) (by omega) (by omega), rdW (l := xs) (i := ((a.length + L : Nat) : Int)) (by omega) (by omega), rdW (l := v) (by omega) (by omega)]
  simp only [Int.toNat_natCast]
  have q1 : xs.getD (a.length + (L + 1)) 0 = ws.getD (L + 1) 0 := by rw [e]; exact app_get (by omega)
  have q2 : xs.getD (a.length + L) 0 = ws.getD L 0 := by rw [e]; exact app_get (by omega)
  simp only [q1, q2]
  have wu1 := rngW h5 (L + 1)
  have wu0 := rngW h5 L
  have wv := rngW hvr L
  have vws : vl W ws = vl W (ws.take L) + W ^ L * ((ws.getD L 0).toNat + W * (ws.getD (L + 1) 0).toNat) := by
    have t1 : vl W (ws.take (L + 2)) = vl W (ws.take (L + 1)) + W ^ (L + 1) * (ws.getD (L + 1) 0).toNat := vl_take_getD (L + 1)
    have t2 : vl W (ws.take (L + 1)) = vl W (ws.take L) + W ^ L * (ws.getD L 0).toNat := vl_take_getD L
    rw [List.take_of_length_le (by omega)] at t1
    rw [t1, t2, Nat.mul_add, Nat.pow_succ, Nat.mul_assoc]
    omega
  have vvs : W ^ L * (v.getD L 0).toNat ≤ vl W v := by
    have t1 : vl W (v.take (L + 1)) = vl W (v.take L) + W ^ L * (v.getD L 0).toNat := vl_take_getD L
    rw [List.take_of_length_le (by omega)] at t1
    omega
  have wlow := vl_take_lt (show 0 < W by decide) h5 L
  generalize ws.getD L 0 = u0 at wu0 vws ⊢
  generalize ws.getD (L + 1) 0 = u1 at wu1 vws ⊢
  generalize v.getD L 0 = D at wv vvs ⊢
  refine ⟨by omega, by omega, by omega, by omega, by omega, by omega, ?_⟩
  refine Br_of (fun hb => ?_) (fun hb => ?_)
  · have hb' : (u1 : Int) < (D : Int) := of_decide_eq_true hb
    refine ⟨by omega, by omega, by omega, by omega, by omega, by omega, by omega, by omega, by omega, by omega, ⟨⟨wu1.1, hb'⟩, wu0, wv.2⟩, ?_⟩
    obtain ⟨U1, rfl⟩ := Int.eq_ofNat_of_zero_le wu1.1
    obtain ⟨U0, rfl⟩ := Int.eq_ofNat_of_zero_le wu0.1
    obtain ⟨D, rfl⟩ := Int.eq_ofNat_of_zero_le wv.1
    simp only [Int.toNat_natCast] at vws vvs
    have eg : ((U1 : Int) * 18446744073709551616 + (U0 : Int)) / (D : Int) = (((U1 * W + U0) / D : Nat) : Int) := by
      rw [show (18446744073709551616 : Int) = ((W : Nat) : Int) from rfl, ← Int.natCast_mul, ← Int.natCast_add]; rfl
    rw [eg]
    have hD : 0 < D := by omega
    refine loop _ ?_ ?_
    · rw [Nat.le_div_iff_mul_le hD]
      have p0 : 0 < W ^ L := Nat.pow_pos (by decide)
      have p1 : vl W ws / vl W v * (W ^ L * D) ≤ vl W ws / vl W v * vl W v := Nat.mul_le_mul_left _ vvs
      have p2 : vl W ws < W ^ L * (U1 * W + U0 + 1) := by
        rw [vws, Nat.mul_add (W ^ L) (U1 * W + U0) 1, Nat.mul_comm W U1, Nat.add_comm U0, Nat.mul_one]
        omega
      have p3 : W ^ L * (vl W ws / vl W v * D) < W ^ L * (U1 * W + U0 + 1) := by
        rw [Nat.mul_left_comm]
        exact Nat.lt_of_le_of_lt p1 (Nat.lt_of_le_of_lt hqm p2)
      have := Nat.lt_of_mul_lt_mul_left p3
      omega
    · rw [Nat.div_lt_iff_lt_mul hD]
      have : (U1 + 1) * W ≤ D * W := Nat.mul_le_mul_right W (by omega)
      rw [Nat.add_mul] at this
      rw [Nat.mul_comm W D]
      have : U0 < W := by rw [W_eq]; omega
      omega
  · refine loop 18446744073709551615 ?_ (by rw [W_eq]; decide)
    rw [W_eq] at hq
    exact Nat.le_of_lt_succ hq

end Ta
end
section
/- Natural numbers: contracts of the functions above the words. -/
set_option linter.unusedVariables false
set_option linter.unusedSimpArgs false
set_option maxRecDepth 100000
namespace Ta
open Go Fw Go.Proofs

def Pl.quoN (x y : List Int) : List Int := Pl.tn (Pl.nt x / Pl.nt y)
def Pl.remN (x y : List Int) : List Int := Pl.tn (Pl.nt x % Pl.nt y)
def Pl.gcdN (x y : List Int) : List Int := Pl.tn (Nat.gcd (Pl.nt x) (Pl.nt y))
/-- The greatest number whose square is at most n. -/
def Pl.sqrtF : Nat → Nat → Nat
  | 0, _ => 0
  | k + 1, n => if (k + 1) * (k + 1) ≤ n then k + 1 else Pl.sqrtF k n
def Pl.rootN (x : List Int) : List Int := Pl.tn (Pl.sqrtF (Pl.nt x) (Pl.nt x))
def Pl.okM (x : List Int) : Prop := Pl.can Pl.W x ∧ x.length ≤ 100000000
def Pl.big (x : List Int) : Bool := decide (40000 < Pl.bsz (Pl.nt x))

def C119 : Con := ⟨[N, N], [N, N], fun (x : List Int × List Int × Unit) => Pl.okM x.1 ∧ Pl.okM x.2.1 ∧ x.2.1 ≠ [], fun (x : List Int × List Int × Unit) => (Pl.quoN x.1 x.2.1, Pl.remN x.1 x.2.1, ()), none⟩
def C108 : Con := ⟨[N, N], [N], fun (x : List Int × List Int × Unit) => Pl.okM x.1 ∧ Pl.okM x.2.1, fun (x : List Int × List Int × Unit) => (Pl.gcdN x.1 x.2.1, ()), none⟩
def C118 : Con := ⟨[N], [N], fun (x : List Int × Unit) => Pl.okM x.1 ∧ x.1.length ≤ 10000000, fun (x : List Int × Unit) => (Pl.rootN x.1, ()), none⟩
def C113 : ConP := ⟨⟨[N], [N], fun (x : List Int × Unit) => Pl.okN x.1, fun (x : List Int × Unit) => (x.1, ()), none⟩, fun (x : List Int × Unit) => Pl.big x.1⟩

def H119 : Hints := ⟨[], [(16, [1000011, 1000012])], [(0, ⟨[8, 9, 10], [(11, un), (12, un), (13, si)]⟩)], [80]⟩
def T119 : Ctx := ⟨tt, [(22, C107), (33, C114), (13, C111), (64, C122), (79, C140), (28, C136), (81, C143)], [], none, [(80, pt142)], 0, [], [], 64⟩
def H108 : Hints := ⟨[], [], [(0, ⟨[], [(0, sn), (1, sn)]⟩)], []⟩
def T108 : Ctx := ⟨tt, [(62, C119)], [], none, [], 0, [], [], 64⟩
def H118 : Hints := ⟨[], [], [(0, ⟨[0], [(3, sn)]⟩)], []⟩
def T118 : Ctx := ⟨tt, [(13, C111), (42, C77), (79, C140), (62, C119), (54, C120), (22, C107)], [], none, [], 0, [], [], 64⟩
def T113 : Ctx := ⟨tt, [(42, C77)], [], none, [], 0, [], [], 64⟩

end Ta
end
section
/- Integers: contracts of the functions over them. -/
set_option linter.unusedVariables false
set_option linter.unusedSimpArgs false
set_option maxRecDepth 100000
namespace Ta
open Go Fw Go.Proofs

abbrev Zt : Ty := .pair nat (.pair .bool .unit)
abbrev ZI : Ar := .ty Zt
abbrev E : Ar := .ty i64
abbrev Zv := List Int × Bool × Unit

/-- The integer; its form. -/
def Pl.iv (z : Zv) : Int := if z.2.1 then -((Pl.nt z.1 : Nat) : Int) else ((Pl.nt z.1 : Nat) : Int)
def Pl.mkI (n : Int) : Zv := (Pl.tn n.natAbs, decide (n < 0), ())
def Pl.sgn (a : List Int) (b : Bool) : Zv := (a, b && decide (0 < (a.length : Int)), ())
def Pl.okI (z : Zv) : Prop := Pl.can Pl.W z.1 ∧ z.1.length ≤ 10000000 ∧ (z.2.1 = true → z.1 ≠ [])
def Pl.sgI (z : Zv) : Int := Pl.ordI (Pl.iv z) 0
def Pl.ngI (z : Zv) : Zv := Pl.mkI (-(Pl.iv z))
def Pl.cpI (a b : Zv) : Int := Pl.ordI (Pl.iv a) (Pl.iv b)
def Pl.gcI (a b : Zv) : Zv := Pl.mkI ((Nat.gcd (Pl.nt a.1) (Pl.nt b.1) : Nat) : Int)
def Pl.plI (a b : Zv) : Zv := Pl.mkI (Pl.iv a + Pl.iv b)
def Pl.miI (a b : Zv) : Zv := Pl.mkI (Pl.iv a - Pl.iv b)
def Pl.tiI (a b : Zv) : Zv := Pl.mkI (Pl.iv a * Pl.iv b)
def Pl.quI (a b : Zv) : Zv := Pl.mkI (Pl.iv a / Pl.iv b)
def Pl.reI (a b : Zv) : Zv := Pl.mkI (Pl.iv a % Pl.iv b)
def Pl.bigI (n : Int) : Bool := decide (40000 < Pl.bsz n.natAbs)
/-- What comes of an attempt at n. -/
def Pl.att1 (n : Int) : Zv := if Pl.bigI n then Pl.mkI 0 else Pl.mkI n
def Pl.att2 (n : Int) : Int := if Pl.bigI n then 11 else 0
def Pl.roI (a : Zv) : Zv := if Pl.iv a < 0 then Pl.mkI 0 else Pl.mkI ((Pl.sqrtF (Pl.nt a.1) (Pl.nt a.1) : Nat) : Int)
def Pl.ro2 (a : Zv) : Int := if Pl.iv a < 0 then 1 else 0
def Pl.dv1 (a b : Zv) : Zv := if Pl.iv b = 0 then Pl.mkI 0 else if Pl.bigI (Pl.iv a / Pl.iv b) then Pl.mkI 0 else Pl.mkI (Pl.iv a / Pl.iv b)
def Pl.dv2 (a b : Zv) : Zv := if Pl.iv b = 0 then Pl.mkI 0 else if Pl.bigI (Pl.iv a / Pl.iv b) then Pl.mkI 0 else Pl.mkI (Pl.iv a % Pl.iv b)
def Pl.dv3 (a b : Zv) : Int := if Pl.iv b = 0 then 6 else if Pl.bigI (Pl.iv a / Pl.iv b) then 11 else 0
def Pl.in64 (n : Int) : Bool := decide (-9223372036854775808 ≤ n ∧ n < 9223372036854775808)
def Pl.i64v (z : Zv) : Int := if Pl.in64 (Pl.iv z) then Pl.iv z else 0
def Pl.i64b (z : Zv) : Bool := Pl.in64 (Pl.iv z)
def Pl.fac : Nat → Nat
  | 0 => 1
  | n + 1 => (n + 1) * Pl.fac n
/-- Binomials, as they are counted: n over k. -/
def Pl.cho : Nat → Nat → Nat
  | _, 0 => 1
  | 0, _ + 1 => 0
  | n + 1, k + 1 => Pl.cho n k + Pl.cho n (k + 1)
def Pl.ch1 (n k : Int) : Zv := if n < 0 ∨ 1000 < n then Pl.mkI 0 else if k < 0 ∨ n < k then Pl.mkI 0 else Pl.mkI ((Pl.cho n.toNat k.toNat : Nat) : Int)
def Pl.ch2 (n : Int) : Int := if n < 0 ∨ 1000 < n then 1 else 0
def Pl.fa1 (n : Int) : Zv := if n < 0 ∨ 1000 < n then Pl.mkI 0 else Pl.mkI ((Pl.fac n.toNat : Nat) : Int)
def Pl.pw1 (a : Zv) (n : Int) : Zv := if n < 0 ∨ 10000 < n then Pl.mkI 0 else Pl.att1 (Pl.iv a ^ n.toNat)
def Pl.pw2 (a : Zv) (n : Int) : Int := if n < 0 ∨ 10000 < n then 1 else Pl.att2 (Pl.iv a ^ n.toNat)

def C106 : Con := ⟨[N, B], [ZI], fun (x : List Int × Bool × Unit) => True, fun (x : List Int × Bool × Unit) => (Pl.sgn x.1 x.2.1, ()), none⟩
def C21 : Con := ⟨[ZI], [I], fun (x : Zv × Unit) => Pl.okI x.1, fun (x : Zv × Unit) => (Pl.sgI x.1, ()), none⟩
def C50 : Con := ⟨[ZI], [ZI], fun (x : Zv × Unit) => Pl.okI x.1, fun (x : Zv × Unit) => (Pl.ngI x.1, ()), none⟩
def C52 : Con := ⟨[ZI, ZI], [I], fun (x : Zv × Zv × Unit) => Pl.okI x.1 ∧ Pl.okI x.2.1, fun (x : Zv × Zv × Unit) => (Pl.cpI x.1 x.2.1, ()), none⟩
def C54 : Con := ⟨[ZI, ZI], [ZI], fun (x : Zv × Zv × Unit) => Pl.okI x.1 ∧ Pl.okI x.2.1, fun (x : Zv × Zv × Unit) => (Pl.gcI x.1 x.2.1, ()), none⟩
def C68 : Con := ⟨[ZI], [ZI, E], fun (x : Zv × Unit) => Pl.okI x.1, fun (x : Zv × Unit) => (Pl.roI x.1, Pl.ro2 x.1, ()), none⟩
def C75 : Con := ⟨[I], [ZI], fun (x : Int × Unit) => -9223372036854775808 ≤ x.1 ∧ x.1 < 9223372036854775808, fun (x : Int × Unit) => (Pl.mkI x.1, ()), none⟩
def C76 : Con := ⟨[ZI, ZI], [ZI, ZI], fun (x : Zv × Zv × Unit) => Pl.okI x.1 ∧ Pl.okI x.2.1 ∧ x.2.1.1 ≠ [], fun (x : Zv × Zv × Unit) => (Pl.quI x.1 x.2.1, Pl.reI x.1 x.2.1, ()), none⟩
def C89 : Con := ⟨[ZI, ZI], [ZI], fun (x : Zv × Zv × Unit) => Pl.okI x.1 ∧ Pl.okI x.2.1, fun (x : Zv × Zv × Unit) => (Pl.plI x.1 x.2.1, ()), none⟩
def C92 : Con := ⟨[ZI, ZI], [ZI], fun (x : Zv × Zv × Unit) => Pl.okI x.1 ∧ Pl.okI x.2.1, fun (x : Zv × Zv × Unit) => (Pl.tiI x.1 x.2.1, ()), none⟩
def C90 : ConP := ⟨⟨[ZI], [ZI], fun (x : Zv × Unit) => Pl.okN x.1.1, fun (x : Zv × Unit) => (x.1, ()), none⟩, fun (x : Zv × Unit) => Pl.big x.1.1⟩
def C48 : Con := ⟨[ZI], [I, B], fun (x : Zv × Unit) => Pl.okI x.1, fun (x : Zv × Unit) => (Pl.i64v x.1, Pl.i64b x.1, ()), none⟩
def C19 : Con := ⟨[ZI, ZI], [ZI, ZI, E], fun (x : Zv × Zv × Unit) => Pl.okI x.1 ∧ Pl.okI x.2.1, fun (x : Zv × Zv × Unit) => (Pl.dv1 x.1 x.2.1, Pl.dv2 x.1 x.2.1, Pl.dv3 x.1 x.2.1, ()), none⟩
def C59 : Con := ⟨[I, I], [ZI, E], fun (x : Int × Int × Unit) => True, fun (x : Int × Int × Unit) => (Pl.ch1 x.1 x.2.1, Pl.ch2 x.1, ()), none⟩
def C60 : Con := ⟨[I], [ZI, E], fun (x : Int × Unit) => True, fun (x : Int × Unit) => (Pl.fa1 x.1, Pl.ch2 x.1, ()), none⟩

def T106 : Ctx := T0
def T21 : Ctx := T0
def T50 : Ctx := ⟨tt, [(12, C106)], [], none, [], 0, [], [], 64⟩
def T52 : Ctx := ⟨tt, [(22, C107)], [], none, [], 0, [], [], 64⟩
def T54 : Ctx := ⟨tt, [(67, C108), (12, C106)], [], none, [], 0, [], [], 64⟩
def T68 : Ctx := ⟨tt, [(12, C106)], [], none, [], 0, [], [], 64⟩
def T75 : Ctx := ⟨tt, [(13, C111), (12, C106)], [], none, [], 0, [], [], 64⟩
def T76 : Ctx := ⟨tt, [(62, C119), (13, C111), (54, C120), (63, C121), (12, C106)], [], none, [], 0, [], [], 64⟩
def T89 : Ctx := ⟨tt, [(54, C120), (63, C121), (22, C107), (12, C106)], [], none, [], 0, [], [], 64⟩
def T92 : Ctx := ⟨tt, [(53, C112), (12, C106)], [], none, [], 0, [], [], 64⟩
def T90 : Ctx := ⟨tt, [], [], none, [], 0, [], [(32, C113)], 64⟩
def T48 : Ctx := ⟨tt, [(14, C105)], [], none, [], 0, [], [], 64⟩
def T19 : Ctx := ⟨tt, [(40, C21), (41, C76), (42, C77)], [], none, [], 0, [], [], 64⟩
def H59 : Hints := ⟨[], [], [(0, ⟨[0, 5, 28], [(4, .box [N, B]), (6, sn), (29, si)]⟩)], []⟩
def T59 : Ctx := ⟨tt, [(13, C111), (53, C112), (33, C114), (12, C106)], [], none, [], 0, [], [], 64⟩
def H60 : Hints := ⟨[], [], [(0, ⟨[3, 14], [(2, .box [N, B]), (4, sn), (15, si)]⟩)], []⟩
def T60 : Ctx := ⟨tt, [(13, C111), (53, C112), (12, C106)], [], none, [], 0, [], [], 64⟩

end Ta
end
section
/- The library's functions: contracts off the kit's shelf, laid at this program. -/
set_option linter.unusedVariables false
set_option linter.unusedSimpArgs false
set_option maxRecDepth 100000
namespace Ta
open Go Fw Go.Proofs Go.RowKit

/-! ### Contracts over numbers, truth values and strings alone -/
def scD : D → Value
  | .int k n => .int k n
  | .bool b => .bool b
  | .str s => .string s
  | _ => .tuple #[]
def scs (l : List Ar) (x : Ars l) : List Value := (encs l x).map scD
def rv : List Value → Value
  | [v] => v
  | l => .tuple l.toArray
theorem vrep_sc {w : World} {O : Nat → Prop} {a : Ar} {x : a.El} {v : Value} (ha : a.scalar = true) : VRep w O (a.enc x) v ↔ v = scD (a.enc x) := by
  cases a with
  | raw => cases ha
  | ty t => cases t <;> first | exact Iff.rfl | cases ha
theorem lrep_sc {w : World} {O : Nat → Prop} : ∀ {l : List Ar} {x : Ars l} {vs : List Value}, l.all Ar.scalar = true → (LRep w O (encs l x) vs ↔ vs = scs l x)
  | [], _, vs, _ => Iff.rfl
  | a :: l, x, vs, h => by
    simp only [List.all_cons, Bool.and_eq_true] at h
    constructor
    · rintro ⟨u, us, rfl, h1, h2⟩
      rw [(vrep_sc h.1).1 h1, (lrep_sc h.2).1 h2]
      rfl
    · rintro rfl
      exact ⟨_, _, rfl, (vrep_sc h.1).2 rfl, (lrep_sc h.2).2 rfl⟩
theorem arep_sc {w : World} {O : Nat → Prop} {ι : Nat → Value} {l : List Ar} {x : Ars l} (h : l.all Ar.scalar = true) : ARep w O ι (resAV (encs l x)) (rv (scs l x)) := by
  have key := (lrep_sc (w := w) (O := O) (x := x) h).2 rfl
  unfold scs at key ⊢
  generalize encs l x = ds at key
  match ds, key with
  | [], key => exact ⟨#[], rfl, key⟩
  | [d], key =>
    obtain ⟨u, us, e, h1, h2⟩ := key
    injection e with e1 e2
    show VRep w O d (scD d)
    rw [e1]; exact h1
  | d :: d' :: l', key => exact ⟨_, rfl, key⟩
theorem cpost_sc {C : Con} {x : Ars C.args} {w w' : World} {O : Nat → Prop} {e : Ending} (hr : C.res.all Ar.scalar = true) (hf : C.fresh = none)
    (he : e = .returned (rv (scs C.res (C.post x)))) (hb : Below w.heap.size w w') : CPost C x w O e w' :=
  ⟨_, he, hb, fun ι => arep_sc hr, fun e he => by rw [hf] at he; cases he⟩
theorem arr_eq {a : Array Value} {l : List Value} (h : a.toList = l) : a = l.toArray := by rw [← h]
theorem sound_sc {P : Program} {f : FuncId} {C : Con} {fn : Func} (hs : C.args.all Ar.scalar = true) (hr : C.res.all Ar.scalar = true) (hf : C.fresh = none)
    (hfn : P.funcs[f]? = some fn) (hb : fn.body.isNone = false) (hname : (fn.name == "runtime.NumGoroutine") = false)
    (h : ∀ x, C.pre x → ∀ w, GOK w → Calls P f (scs C.args x).toArray w fun e w' => e = .returned (rv (scs C.res (C.post x))) ∧ Below w.heap.size w w') : Sound P f C := by
  intro x hx w O vs hO hl
  have e := arr_eq ((lrep_sc hs).1 hl)
  subst e
  exact .inl ⟨run_callFunc hfn hb hname _, (h x hx w hO.2).mono fun e w' k => cpost_sc hr hf k.1 k.2⟩
/-- .. that the model answers by itself. -/
theorem sound_nat {P : Program} {f : FuncId} {C : Con} (hs : C.args.all Ar.scalar = true) (hr : C.res.all Ar.scalar = true) (hf : C.fresh = none)
    (h : ∀ x, C.pre x → ∀ w, (callFunc f (scs C.args x).toArray).run P w = .ok (.value (rv (scs C.res (C.post x)))) w) : Sound P f C := by
  intro x hx w O vs hO hl
  have e := arr_eq ((lrep_sc hs).1 hl)
  subst e
  exact .inr ⟨_, w, h x hx w, cpost_sc hr hf rfl (Below.refl _ _)⟩

/-! ### How the kit's layings lie at this program -/
def sl134_ren : Go.Shelf.Ren := ⟨fun | 134 => 64 | 129 => 83 | n => n, fun | 53 => 44 | 3 => 3 | 4 => 4 | 46 => 95 | 5 => 5 | 9 => 9 | n => n, fun | n => n⟩
theorem sl134 : Go.Proofs.Lays.n134 Tryd.prog sl134_ren where
  mixed := by kernel_rfl
  f129 := Tryd.func83.trans (congrArg some (by kernel_rfl))
  f134 := Tryd.func64.trans (congrArg some (by kernel_rfl))
  t3 := Tryd.underlying3
  a3 := Tryd.isAgg3
  z3 := Tryd.sizeOf3
  v3 := Tryd.zeroValue3
  t4 := Tryd.underlying4
  a4 := Tryd.isAgg4
  z4 := Tryd.sizeOf4
  v4 := Tryd.zeroValue4
  t5 := Tryd.underlying5
  a5 := Tryd.isAgg5
  z5 := Tryd.sizeOf5
  v5 := Tryd.zeroValue5
  t9 := Tryd.underlying9
  a9 := Tryd.isAgg9
  z9 := Tryd.sizeOf9
  v9 := Tryd.zeroValue9
  t46 := Tryd.underlying95
  a46 := Tryd.isAgg95
  z46 := Tryd.sizeOf95
  v46 := Tryd.zeroValue95
  t53 := Tryd.underlying44
  a53 := Tryd.isAgg44
  z53 := Tryd.sizeOf44
  v53 := Tryd.zeroValue44
def sl105_ren : Go.Shelf.Ren := ⟨fun | 105 => 35 | 212 => 57 | 99 => 58 | 165 => 59 | 166 => 36 | 170 => 60 | 169 => 37 | 263 => 76 | 264 => 70 | 206 => 69 | 240 => 61 | 241 => 77 | 276 => 78 | 277 => 89 | n => n, fun | 9 => 9 | 3 => 3 | 4 => 4 | 20 => 20 | 0 => 0 | 46 => 95 | 109 => 96 | 5 => 5 | 72 => 75 | 76 => 78 | 51 => 111 | 146 => 112 | 53 => 44 | 148 => 93 | 70 => 73 | 37 => 50 | 75 => 77 | 127 => 100 | 164 => 114 | 80 => 32 | n => n, fun | n => n⟩
theorem sl105 : Go.Proofs.Lays.n105 Tryd.prog sl105_ren where
  mixed := by kernel_rfl
  f99 := Tryd.func58.trans (congrArg some (by kernel_rfl))
  f105 := Tryd.func35.trans (congrArg some (by kernel_rfl))
  f165 := Tryd.func59.trans (congrArg some (by kernel_rfl))
  f166 := Tryd.func36.trans (congrArg some (by kernel_rfl))
  f169 := Tryd.func37.trans (congrArg some (by kernel_rfl))
  f170 := Tryd.func60.trans (congrArg some (by kernel_rfl))
  f206 := Tryd.func69.trans (congrArg some (by kernel_rfl))
  f212 := Tryd.func57.trans (congrArg some (by kernel_rfl))
  f240 := Tryd.func61.trans (congrArg some (by kernel_rfl))
  f241 := Tryd.func77.trans (congrArg some (by kernel_rfl))
  f263 := Tryd.func76.trans (congrArg some (by kernel_rfl))
  f264 := Tryd.func70.trans (congrArg some (by kernel_rfl))
  f276 := Tryd.func78.trans (congrArg some (by kernel_rfl))
  f277 := Tryd.func89.trans (congrArg some (by kernel_rfl))
  t0 := Tryd.underlying0
  a0 := Tryd.isAgg0
  z0 := Tryd.sizeOf0
  v0 := Tryd.zeroValue0
  t3 := Tryd.underlying3
  a3 := Tryd.isAgg3
  z3 := Tryd.sizeOf3
  v3 := Tryd.zeroValue3
  t4 := Tryd.underlying4
  a4 := Tryd.isAgg4
  z4 := Tryd.sizeOf4
  v4 := Tryd.zeroValue4
  t5 := Tryd.underlying5
  a5 := Tryd.isAgg5
  z5 := Tryd.sizeOf5
  v5 := Tryd.zeroValue5
  t9 := Tryd.underlying9
  a9 := Tryd.isAgg9
  z9 := Tryd.sizeOf9
  v9 := Tryd.zeroValue9
  t20 := Tryd.underlying20
  a20 := Tryd.isAgg20
  z20 := Tryd.sizeOf20
  v20 := Tryd.zeroValue20
  t37 := Tryd.underlying50
  a37 := Tryd.isAgg50
  z37 := Tryd.sizeOf50
  v37 := Tryd.zeroValue50
  t46 := Tryd.underlying95
  a46 := Tryd.isAgg95
  z46 := Tryd.sizeOf95
  v46 := Tryd.zeroValue95
  t51 := Tryd.underlying111
  a51 := Tryd.isAgg111
  z51 := Tryd.sizeOf111
  v51 := Tryd.zeroValue111
  t53 := Tryd.underlying44
  a53 := Tryd.isAgg44
  z53 := Tryd.sizeOf44
  v53 := Tryd.zeroValue44
  t70 := Tryd.underlying73
  a70 := Tryd.isAgg73
  z70 := Tryd.sizeOf73
  v70 := Tryd.zeroValue73
  t72 := Tryd.underlying75
  a72 := Tryd.isAgg75
  z72 := Tryd.sizeOf75
  v72 := Tryd.zeroValue75
  t75 := Tryd.underlying77
  a75 := Tryd.isAgg77
  z75 := Tryd.sizeOf77
  v75 := Tryd.zeroValue77
  t76 := Tryd.underlying78
  a76 := Tryd.isAgg78
  z76 := Tryd.sizeOf78
  v76 := Tryd.zeroValue78
  t109 := Tryd.underlying96
  a109 := Tryd.isAgg96
  z109 := Tryd.sizeOf96
  v109 := Tryd.zeroValue96
  t127 := Tryd.underlying100
  a127 := Tryd.isAgg100
  z127 := Tryd.sizeOf100
  v127 := Tryd.zeroValue100
  t146 := Tryd.underlying112
  a146 := Tryd.isAgg112
  z146 := Tryd.sizeOf112
  v146 := Tryd.zeroValue112
  t148 := Tryd.underlying93
  a148 := Tryd.isAgg93
  z148 := Tryd.sizeOf93
  v148 := Tryd.zeroValue93
  t164 := Tryd.underlying114
  a164 := Tryd.isAgg114
  z164 := Tryd.sizeOf114
  v164 := Tryd.zeroValue114
def sl145_ren : Go.Shelf.Ren := ⟨fun | 145 => 44 | 220 => 65 | 219 => 84 | 217 => 92 | 225 => 93 | 224 => 94 | 267 => 95 | 266 => 98 | 314 => 99 | n => n, fun | 9 => 9 | 4 => 4 | 59 => 86 | 3 => 3 | 5 => 5 | 46 => 95 | 146 => 112 | 51 => 111 | n => n, fun | 1 => 3 | n => n⟩
theorem sl145 : Go.Proofs.Lays.n145 Tryd.prog sl145_ren where
  mixed := by kernel_rfl
  f145 := Tryd.func44.trans (congrArg some (by kernel_rfl))
  f217 := Tryd.func92.trans (congrArg some (by kernel_rfl))
  f219 := Tryd.func84.trans (congrArg some (by kernel_rfl))
  f220 := Tryd.func65.trans (congrArg some (by kernel_rfl))
  f224 := Tryd.func94.trans (congrArg some (by kernel_rfl))
  f225 := Tryd.func93.trans (congrArg some (by kernel_rfl))
  f266 := Tryd.func98.trans (congrArg some (by kernel_rfl))
  f267 := Tryd.func95.trans (congrArg some (by kernel_rfl))
  f314 := Tryd.func99.trans (congrArg some (by kernel_rfl))
  t3 := Tryd.underlying3
  a3 := Tryd.isAgg3
  z3 := Tryd.sizeOf3
  v3 := Tryd.zeroValue3
  t4 := Tryd.underlying4
  a4 := Tryd.isAgg4
  z4 := Tryd.sizeOf4
  v4 := Tryd.zeroValue4
  t5 := Tryd.underlying5
  a5 := Tryd.isAgg5
  z5 := Tryd.sizeOf5
  v5 := Tryd.zeroValue5
  t9 := Tryd.underlying9
  a9 := Tryd.isAgg9
  z9 := Tryd.sizeOf9
  v9 := Tryd.zeroValue9
  t46 := Tryd.underlying95
  a46 := Tryd.isAgg95
  z46 := Tryd.sizeOf95
  v46 := Tryd.zeroValue95
  t51 := Tryd.underlying111
  a51 := Tryd.isAgg111
  z51 := Tryd.sizeOf111
  v51 := Tryd.zeroValue111
  t59 := Tryd.underlying86
  a59 := Tryd.isAgg86
  z59 := Tryd.sizeOf86
  v59 := Tryd.zeroValue86
  t146 := Tryd.underlying112
  a146 := Tryd.isAgg112
  z146 := Tryd.sizeOf112
  v146 := Tryd.zeroValue112
  g1 := by kernel_rfl
def sl101_ren : Go.Shelf.Ren := ⟨fun | 101 => 29 | 208 => 52 | 206 => 69 | n => n, fun | 9 => 9 | 4 => 4 | 3 => 3 | n => n, fun | n => n⟩
theorem sl101 : Go.Proofs.Lays.n101 Tryd.prog sl101_ren where
  mixed := by kernel_rfl
  f101 := Tryd.func29.trans (congrArg some (by kernel_rfl))
  f206 := Tryd.func69.trans (congrArg some (by kernel_rfl))
  f208 := Tryd.func52.trans (congrArg some (by kernel_rfl))
  t3 := Tryd.underlying3
  a3 := Tryd.isAgg3
  z3 := Tryd.sizeOf3
  v3 := Tryd.zeroValue3
  t4 := Tryd.underlying4
  a4 := Tryd.isAgg4
  z4 := Tryd.sizeOf4
  v4 := Tryd.zeroValue4
  t9 := Tryd.underlying9
  a9 := Tryd.isAgg9
  z9 := Tryd.sizeOf9
  v9 := Tryd.zeroValue9
def sl283_ren : Go.Shelf.Ren := ⟨fun | 283 => 72 | n => n, fun | 3 => 3 | 9 => 9 | 4 => 4 | n => n, fun | n => n⟩
theorem sl283 : Go.Proofs.Lays.n283 Tryd.prog sl283_ren where
  mixed := by kernel_rfl
  f283 := Tryd.func72.trans (congrArg some (by kernel_rfl))
  t3 := Tryd.underlying3
  a3 := Tryd.isAgg3
  z3 := Tryd.sizeOf3
  v3 := Tryd.zeroValue3
  t4 := Tryd.underlying4
  a4 := Tryd.isAgg4
  z4 := Tryd.sizeOf4
  v4 := Tryd.zeroValue4
  t9 := Tryd.underlying9
  a9 := Tryd.isAgg9
  z9 := Tryd.sizeOf9
  v9 := Tryd.zeroValue9
def sl284_ren : Go.Shelf.Ren := ⟨fun | 284 => 73 | 129 => 83 | 317 => 85 | 318 => 86 | n => n, fun | 53 => 44 | 3 => 3 | 212 => 121 | 0 => 0 | 4 => 4 | 46 => 95 | 5 => 5 | 9 => 9 | n => n, fun | 17 => 2 | n => n⟩
theorem sl284 : Go.Proofs.LaysM.n284 Tryd.prog sl284_ren where
  mixed := by kernel_rfl
  f129 := Tryd.func83.trans (congrArg some (by kernel_rfl))
  f284 := Tryd.func73.trans (congrArg some (by kernel_rfl))
  f317 := Tryd.func85.trans (congrArg some (by kernel_rfl))
  f318 := Tryd.func86.trans (congrArg some (by kernel_rfl))
  t0 := Tryd.underlying0
  a0 := Tryd.isAgg0
  z0 := Tryd.sizeOf0
  v0 := Tryd.zeroValue0
  t3 := Tryd.underlying3
  a3 := Tryd.isAgg3
  z3 := Tryd.sizeOf3
  v3 := Tryd.zeroValue3
  t4 := Tryd.underlying4
  a4 := Tryd.isAgg4
  z4 := Tryd.sizeOf4
  v4 := Tryd.zeroValue4
  t5 := Tryd.underlying5
  a5 := Tryd.isAgg5
  z5 := Tryd.sizeOf5
  v5 := Tryd.zeroValue5
  t9 := Tryd.underlying9
  a9 := Tryd.isAgg9
  z9 := Tryd.sizeOf9
  v9 := Tryd.zeroValue9
  t46 := Tryd.underlying95
  a46 := Tryd.isAgg95
  z46 := Tryd.sizeOf95
  v46 := Tryd.zeroValue95
  t53 := Tryd.underlying44
  a53 := Tryd.isAgg44
  z53 := Tryd.sizeOf44
  v53 := Tryd.zeroValue44
  t212 := Tryd.underlying121
  a212 := Tryd.isAgg121
  z212 := Tryd.sizeOf121
  v212 := Tryd.zeroValue121
  g17 := by kernel_rfl
  i0 := by kernel_rfl
  i3 := by kernel_rfl
  i4 := by kernel_rfl
  i5 := by kernel_rfl
  i9 := by kernel_rfl
  i46 := by kernel_rfl
  i53 := by kernel_rfl
  i212 := by kernel_rfl
  m17 := by kernel_rfl
def sl285_ren : Go.Shelf.Ren := ⟨fun | 285 => 74 | n => n, fun | 37 => 50 | 53 => 44 | 3 => 3 | 4 => 4 | 51 => 111 | 9 => 9 | 5 => 5 | 0 => 0 | n => n, fun | n => n⟩
theorem sl285 : Go.Proofs.Lays.n285 Tryd.prog sl285_ren where
  mixed := by kernel_rfl
  f285 := Tryd.func74.trans (congrArg some (by kernel_rfl))
  t0 := Tryd.underlying0
  a0 := Tryd.isAgg0
  z0 := Tryd.sizeOf0
  v0 := Tryd.zeroValue0
  t3 := Tryd.underlying3
  a3 := Tryd.isAgg3
  z3 := Tryd.sizeOf3
  v3 := Tryd.zeroValue3
  t4 := Tryd.underlying4
  a4 := Tryd.isAgg4
  z4 := Tryd.sizeOf4
  v4 := Tryd.zeroValue4
  t5 := Tryd.underlying5
  a5 := Tryd.isAgg5
  z5 := Tryd.sizeOf5
  v5 := Tryd.zeroValue5
  t9 := Tryd.underlying9
  a9 := Tryd.isAgg9
  z9 := Tryd.sizeOf9
  v9 := Tryd.zeroValue9
  t37 := Tryd.underlying50
  a37 := Tryd.isAgg50
  z37 := Tryd.sizeOf50
  v37 := Tryd.zeroValue50
  t51 := Tryd.underlying111
  a51 := Tryd.isAgg111
  z51 := Tryd.sizeOf111
  v51 := Tryd.zeroValue111
  t53 := Tryd.underlying44
  a53 := Tryd.isAgg44
  z53 := Tryd.sizeOf44
  v53 := Tryd.zeroValue44
theorem be105 : Builder.Extra Tryd.prog sl105_ren where
  sizeBuilder := by kernel_rfl
  liesBuilder := by kernel_rfl
  t5 := Tryd.underlying5
  a5 := Tryd.isAgg5
  z5 := Tryd.sizeOf5
  v5 := Tryd.zeroValue5
  infoByte := by kernel_rfl
  cellsByte := by kernel_rfl
  sizeByte := by kernel_rfl
  neB5 := by decide

/-! ### The functions -/
theorem nat_of {x : Int} (h : 0 ≤ x) : ∃ n : Nat, x = n := ⟨x.toNat, by omega⟩
theorem snd138 : Sound Tryd.prog 71 C138 := sound_nat rfl rfl rfl fun x hx w => by
  obtain ⟨a, b, c, ⟨⟩⟩ := x
  obtain ⟨⟨h1, h2⟩, ⟨h3, h4⟩, h5, h6⟩ := hx
  show (callFunc 71 #[.int .u64 a, .int .u64 b, .int .u64 c]).run Tryd.prog w = _
  rw [run_callFunc_extern (e := add64Entry) Tryd.func71 (by kernel_rfl) (by kernel_rfl) (by kernel_rfl) (by kernel_rfl), run_add64 a b c h1 h3 h5 h6]
  rfl
theorem snd144 : Sound Tryd.prog 82 C144 := sound_nat rfl rfl rfl fun x hx w => by
  obtain ⟨a, b, c, ⟨⟩⟩ := x
  obtain ⟨⟨h1, h2⟩, ⟨h3, h4⟩, h5, h6⟩ := hx
  simp only at h1 h2 h3 h4 h5 h6
  obtain ⟨a, rfl⟩ := nat_of h1
  obtain ⟨b, rfl⟩ := nat_of h3
  obtain ⟨c, rfl⟩ := nat_of h5
  show (callFunc 82 #[.int .u64 a, .int .u64 b, .int .u64 c]).run Tryd.prog w = .ok (.value (.tuple #[.int .u64 (((a : Int) - b - c) % 18446744073709551616), .int .u64 (-(((a : Int) - b - c) / 18446744073709551616))])) w
  rw [run_callFunc_extern (e := sub64Entry) Tryd.func82 (by kernel_rfl) (by kernel_rfl) (by kernel_rfl) (by kernel_rfl), run_sub64 a b c (by omega)]
  have e1 : (((a + 18446744073709551616 - b - c) % 18446744073709551616 : Nat) : Int) = ((a : Int) - b - c) % 18446744073709551616 := by omega
  have e2 : ((if a < b + c then 1 else 0 : Nat) : Int) = -(((a : Int) - b - c) / 18446744073709551616) := by split <;> omega
  simp only [Result.andThen, e1, e2]
theorem snd137 : Sound Tryd.prog 70 C137 := sound_sc rfl rfl rfl Tryd.func70 (by kernel_rfl) (by kernel_rfl) fun x hx w _ => by
  obtain ⟨a, b, ⟨⟩⟩ := x
  obtain ⟨⟨h1, h2⟩, h3, h4⟩ := hx
  simp only at h1 h2 h3 h4
  obtain ⟨a, rfl⟩ := nat_of h1
  obtain ⟨b, rfl⟩ := nat_of h3
  refine (Any.bits_Mul64 (ρ := sl105_ren) { sl105 with } a b (by omega) (by omega) w).mono ?_
  rintro e w' ⟨rfl, rfl⟩
  exact ⟨by simp [scs, encs, Ar.enc, Ty.toD, scD, rv, C137], Below.refl _ _⟩
theorem bsz_half {n : Nat} (h : n ≠ 0) : Pl.bsz n = 1 + Pl.bsz (n / 2) := by
  have key : ∀ k, Pl.bsz n ≤ k + 1 ↔ Pl.bsz (n / 2) ≤ k := fun k => by
    rw [bsz_le, bsz_le, Nat.pow_succ]; omega
  have h1 : 1 ≤ Pl.bsz n := by rw [bsz_pos h]; omega
  have h2 := (key (Pl.bsz (n / 2))).2 (Nat.le_refl _)
  have h3 := (key (Pl.bsz n - 1)).1 (by omega)
  omega
theorem bitLenAux_bsz : ∀ (f n : Nat), n < 2 ^ f → Lib.bitLenAux f n = Pl.bsz n
  | 0, n, h => by
    have : n = 0 := by simpa using h
    subst this; rfl
  | f + 1, n, h => by
    unfold Lib.bitLenAux
    by_cases h0 : n = 0
    · subst h0; rfl
    · rw [if_neg h0, bitLenAux_bsz f (n / 2) (by rw [Nat.pow_succ] at h; omega), ← bsz_half h0]
theorem bitLen_bsz {n : Nat} (h : n < 18446744073709551616) : Lib.bitLen n = Pl.bsz n := bitLenAux_bsz 64 n h
theorem snd122 : Sound Tryd.prog 64 C122 := sound_sc rfl rfl rfl Tryd.func64 (by kernel_rfl) (by kernel_rfl) fun x hx w _ => by
  obtain ⟨a, ⟨⟩⟩ := x
  obtain ⟨h1, h2⟩ := hx
  simp only at h1 h2
  refine (Any.bits_LeadingZeros64 sl134 a w h1 (by omega)).mono ?_
  rintro e w' ⟨rfl, rfl⟩
  refine ⟨?_, Below.refl _ _⟩
  rw [bitLen_bsz (by omega)]; rfl

end Ta
end
section
/- The library's functions over strings: contracts off the kit's shelf. -/
set_option linter.unusedVariables false
set_option linter.unusedSimpArgs false
set_option maxRecDepth 100000
namespace Ta
open Go Fw Go.Proofs Go.RowKit Go.Sort

def Pl.ba (l : List UInt8) : ByteArray := ⟨l.toArray⟩
def Pl.bl (s : ByteArray) : List UInt8 := s.data.toList
def Pl.repS (s : ByteArray) (c : Int) : ByteArray := Pl.ba (Lib.repeatL (Pl.bl s) c.toNat)
def Pl.cutS (s p : ByteArray) : List UInt8 × List UInt8 × Bool := Lib.cut (Pl.bl s) (Pl.bl p)
def Pl.cut1 (s p : ByteArray) : ByteArray := Pl.ba (Pl.cutS s p).1
def Pl.cut2 (s p : ByteArray) : ByteArray := Pl.ba (Pl.cutS s p).2.1
def Pl.cut3 (s p : ByteArray) : Bool := (Pl.cutS s p).2.2
def Pl.trimS (s p : ByteArray) : ByteArray := Pl.ba (Lib.trimPrefix (Pl.bl s) (Pl.bl p))
def Pl.decS (n : Int) : ByteArray := Pl.ba (Lib.decDigits n.toNat)

def C131 : Con := ⟨[S, I], [S], fun (x : ByteArray × Int × Unit) => 0 ≤ x.2.1 ∧ x.2.1 ≤ 1000000 ∧ x.1.size ≤ 1000000, fun (x : ByteArray × Int × Unit) => (Pl.repS x.1 x.2.1, ()), none⟩
def C96 : Con := ⟨[S, S], [S, S, B], fun (x : ByteArray × ByteArray × Unit) => x.1.size ≤ 4000000000, fun (x : ByteArray × ByteArray × Unit) => (Pl.cut1 x.1 x.2.1, Pl.cut2 x.1 x.2.1, Pl.cut3 x.1 x.2.1, ()), none⟩
def C127 : Con := ⟨[S, S], [S], fun (x : ByteArray × ByteArray × Unit) => True, fun (x : ByteArray × ByteArray × Unit) => (Pl.trimS x.1 x.2.1, ()), none⟩
def C130 : Con := ⟨[U, I], [S], fun (x : Int × Int × Unit) => (0 ≤ x.1 ∧ x.1 < 18446744073709551616) ∧ x.2.1 = 10, fun (x : Int × Int × Unit) => (Pl.decS x.1, ()), none⟩

theorem snd131 : Sound Tryd.prog 35 C131 := sound_sc rfl rfl rfl Tryd.func35 (by kernel_rfl) (by kernel_rfl) fun x hx w _ => by
  obtain ⟨s, c, ⟨⟩⟩ := x
  obtain ⟨h1, h2, h3⟩ := hx
  simp only at h1 h2 h3
  obtain ⟨c, rfl⟩ := nat_of h1
  have hm : s.size * c ≤ 1000000 * 1000000 := Nat.mul_le_mul h3 (by omega)
  exact Any.strings_Repeat sl105 be105 s c w (by omega) (by omega)
theorem snd96 : Sound Tryd.prog 44 C96 := sound_sc rfl rfl rfl Tryd.func44 (by kernel_rfl) (by kernel_rfl) fun x hx w hg => by
  obtain ⟨s, p, ⟨⟩⟩ := x
  have h1 : s.size ≤ 4000000000 := hx
  obtain ⟨_, m, hm⟩ := hg
  refine (Any.strings_Cut sl145 s p m w (by omega) hm).mono ?_
  rintro e w' ⟨rfl, n, rfl⟩
  exact ⟨rfl, ⟨rfl, rfl, rfl, Nat.le_refl _, fun _ _ => rfl⟩⟩
theorem snd127 : Sound Tryd.prog 29 C127 := sound_sc rfl rfl rfl Tryd.func29 (by kernel_rfl) (by kernel_rfl) fun x hx w hg => by
  obtain ⟨s, p, ⟨⟩⟩ := x
  refine (Any.strings_TrimPrefix sl101 s p w).mono ?_
  rintro e w' ⟨rfl, rfl⟩
  exact ⟨rfl, Below.refl _ _⟩

theorem gok_tab {w : World} (h : GOK w) : Lib.TabIs Tryd.prog w "internal/strconv.uint64pow10" .u64 Lib.pow10Tab := by
  obtain ⟨⟨t, f, h1⟩, _⟩ := h
  have hg : Tryd.prog.globalNamed "internal/strconv.uint64pow10" = some 2 := by kernel_rfl
  unfold Lib.TabIs World.var?
  rw [hg]
  simp only [Option.bind_some, h1]
theorem fin0 (w : World) (o : Go.Obj) (dk : Array UInt8) (k : Nat) : Below w.heap.size w ((putRow (fun (b : UInt8) => Value.int .u8 (b.toNat : Int)) (w.alloc o) w.heap.size 0 dk).drewN k) := by
  rw [alloc_eq_grow]
  obtain ⟨os', _, e⟩ := putRow_grow_new (fun (b : UInt8) => Value.int .u8 (b.toNat : Int)) w #[o] w.heap.size 0 dk (Nat.le_refl _)
  rw [e]
  exact ⟨rfl, rfl, rfl, by simp [grow, World.drewN], fun k hk => heap_grow_old w os' hk⟩
theorem holds0 (w : World) (T : TypeId) (nd : Nat) (hs : nd ≤ 24) : Holds (fun (b : UInt8) => Value.int .u8 (b.toNat : Int)) (w.alloc (.cells Lib.zeros24 T)) w.heap.size 0 (Array.replicate nd (0 : UInt8)) := fun j hj => by
  have hj' : j < nd := by simpa using hj
  refine ⟨?_, World.frozen?_alloc_new _ _ _ _⟩
  rw [World.cell?_alloc_new, Lib.zeros24_at _ (by omega), getElem!_pos _ j hj]
  simp

set_option maxHeartbeats 6400000 in
theorem fmt148 (u : Nat) (hu64 : u < 18446744073709551616) (w : World) (htab : Lib.TabIs Tryd.prog w "internal/strconv.uint64pow10" .u64 Lib.pow10Tab) :
    Calls Tryd.prog 56 #[.int .u64 u, .int .i64 10] w fun e w' => e = .returned (.string (Pl.ba (Lib.decDigits u))) ∧ Below w.heap.size w w' := by
  have mixed : Tryd.prog.follows .mixedOrders = true := by kernel_rfl
  have t3 := Tryd.underlying3; have a3 := Tryd.isAgg3; have z3 := Tryd.sizeOf3; have v3 := Tryd.zeroValue3
  have t9 := Tryd.underlying9; have a9 := Tryd.isAgg9; have z9 := Tryd.sizeOf9; have v9 := Tryd.zeroValue9
  have t4 := Tryd.underlying4; have a4 := Tryd.isAgg4; have z4 := Tryd.sizeOf4; have v4 := Tryd.zeroValue4
  have t171 := Tryd.underlying107; have a171 := Tryd.isAgg107; have z171 := Tryd.sizeOf107; have v171 := Tryd.zeroValue107
  have t0 := Tryd.underlying0; have a0 := Tryd.isAgg0; have z0 := Tryd.sizeOf0; have v0 := Tryd.zeroValue0
  have t53 := Tryd.underlying44; have a53 := Tryd.isAgg44; have z53 := Tryd.sizeOf44; have v53 := Tryd.zeroValue44
  have t37 := Tryd.underlying50; have a37 := Tryd.isAgg50; have z37 := Tryd.sizeOf50; have v37 := Tryd.zeroValue50
  have t5 := Tryd.underlying5; have a5 := Tryd.isAgg5; have z5 := Tryd.sizeOf5; have v5 := Tryd.zeroValue5
  have e283 : ∀ args w, (callFunc 72 args).run Tryd.prog w = .ok (.enter 72 args) w := enters_of Tryd.func72 (by kernel_rfl) rfl
  have e284 : ∀ args w, (callFunc 73 args).run Tryd.prog w = .ok (.enter 73 args) w := enters_of Tryd.func73 (by kernel_rfl) rfl
  have e285 : ∀ args w, (callFunc 74 args).run Tryd.prog w = .ok (.enter 74 args) w := enters_of Tryd.func74 (by kernel_rfl) rfl
  by_cases hi : u < 100
  · go_enter Tryd.func56, Tryd.ntmps56
    go_wp2_with (go_at_fn 72; refine (Any.internal_strconv_small sl283 u hi _).mono ?_; rintro e w' ⟨rfl, rfl⟩)
    go_ret
    exact ⟨rfl, Below.refl _ _⟩
  · have hu1 : 1 ≤ u := by omega
    have hnd20 : Lib.nDigits u ≤ 20 := by have := Lib.numDigits_eq u hu1 hu64; split at this <;> omega
    have hb3 : Lib.nDigits u ≤ 24 := by omega
    have hal : Tryd.prog.arrayLen 107 = 24 := by simp [Program.arrayLen, t171]
    have hsl1 : ∀ W, (Instr.sliceAt 107 (.pointer (some ⟨w.heap.size, 0, none⟩)) none (some (.int .i64 (Lib.nDigits u : Int))) none).run Tryd.prog W = .ok (.slice (some ⟨w.heap.size, 0, none⟩) (Lib.nDigits u) 24) W := fun W => by
      rw [run_sliceAt_array_h W 107 ⟨w.heap.size, 0, none⟩ (by simp [Program.arrayLen, Program.elem, t171]) .i64 (Lib.nDigits u : Int) (by omega) (by rw [hal]; omega)]
      go_simp
    have hH0 := holds0 w 107 (Lib.nDigits u) (by omega)
    have hfmt := Any.internal_strconv_formatBase10 (ρ := sl285_ren) sl285 w.heap.size 0 24 u (Array.replicate (Lib.nDigits u) 0) (w.alloc (.cells Lib.zeros24 107)) hH0 (by rw [Array.size_replicate]; exact Lib.lt_pow_nDigits u) hu64 (by rw [Array.size_replicate]; omega)
    rw [Array.size_replicate] at hfmt
    have HH0 := Lib.hid hH0
    clear hH0 hal
    go_enter Tryd.func56, Tryd.ntmps56
    go_wp2_with (first
      | (go_at_fn 73; refine (Any.internal_strconv_numDigits sl284 u hu1 hu64 _ (Lib.tabIs_alloc htab _)).mono ?_; rintro e w' ⟨rfl, rfl⟩))
    go_at_fn 74
    refine hfmt.mono ?_
    rintro e w' ⟨rfl, k, v', dk, rfl, hF⟩
    have hcv : (convert 50 9 (.slice (some ⟨w.heap.size, 0, none⟩) (Lib.nDigits u) 24)).run Tryd.prog ((putRow (fun (b : UInt8) => Value.int .u8 (b.toNat : Int)) (w.alloc (.cells Lib.zeros24 107)) w.heap.size 0 dk).drewN k) = .ok (.string ⟨(Lib.decDigits u).toArray⟩) ((putRow (fun (b : UInt8) => Value.int .u8 (b.toNat : Int)) (w.alloc (.cells Lib.zeros24 107)) w.heap.size 0 dk).drewN k) := by
      have h := run_convert_bytes_back (P := Tryd.prog) ((putRow (fun (b : UInt8) => Value.int .u8 (b.toNat : Int)) (w.alloc (.cells Lib.zeros24 107)) w.heap.size 0 dk).drewN k) 50 9 5 ⟨w.heap.size, 0, none⟩ 24 (Lib.decDigits u) t37 t5 t9 (fun j hj => by
        rw [Lib.row_is_numeral hF j hj, Lib.add_plain, World.cell?_drewN]
        exact cell?_putRow (fun (b : UInt8) => Value.int .u8 (b.toNat : Int)) _ w.heap.size 0 _ dk HH0.out (by rw [hF.size, Array.size_replicate]) j (by rw [hF.size]; rw [Lib.decDigits_length] at hj; exact hj))
      rw [Lib.decDigits_length] at h
      exact h
    go_wp2
    go_ret
    exact ⟨rfl, fin0 w (.cells Lib.zeros24 107) dk k⟩

def C148 : Con := C130
def T130 : Ctx := ⟨tt, [(56, C148)], [], none, [], 0, [], [], 64⟩
theorem snd148 : Sound Tryd.prog 56 C148 := sound_sc rfl rfl rfl Tryd.func56 (by kernel_rfl) (by kernel_rfl) fun x hx w hg => by
  obtain ⟨u, b, ⟨⟩⟩ := x
  obtain ⟨⟨h1, h2⟩, h3⟩ := hx
  simp only at h1 h2 h3
  subst h3
  obtain ⟨u, rfl⟩ := nat_of h1
  exact fmt148 u (by omega) w (gok_tab hg)

end Ta
end
section
/- Integers from texts: contracts. -/
set_option linter.unusedVariables false
set_option linter.unusedSimpArgs false
set_option maxRecDepth 100000
namespace Ta
open Go Fw Go.Proofs

def Pl.isDig (b : UInt8) : Bool := decide (48 ≤ b.toNat ∧ b.toNat ≤ 57)
/-- A text without its sign. -/
def Pl.unsg (l : List UInt8) : List UInt8 := Lib.trimPrefix l [45]
def Pl.isFl (l : List UInt8) : Bool := decide (Pl.unsg l ≠ []) && (decide ((Pl.unsg l).head? ≠ some 48) || decide (l = [48])) && (Pl.unsg l).all Pl.isDig
def Pl.isF (s : ByteArray) : Bool := Pl.isFl (Pl.bl s)
def Pl.decV (l : List UInt8) : Nat := l.foldl (fun v b => 10 * v + (b.toNat - 48)) 0
def Pl.decN (s : ByteArray) : List Int := Pl.tn (Pl.decV (Pl.bl s))
def Pl.allD (s : ByteArray) : Bool := (Pl.bl s).all Pl.isDig
def Pl.parV (l : List UInt8) : Int := if l.head? = some 45 then -((Pl.decV (Pl.unsg l) : Nat) : Int) else ((Pl.decV (Pl.unsg l) : Nat) : Int)
def Pl.parS (s : ByteArray) : Int := Pl.parV (Pl.bl s)
def Pl.froI (s : ByteArray) : Zv := Pl.mkI (Pl.parS s)

def C97 : Con := ⟨[S], [B], fun (x : ByteArray × Unit) => x.1.size ≤ 9000000000000000000, fun (x : ByteArray × Unit) => (Pl.isF x.1, ()), none⟩
def C128 : Con := ⟨[S], [N], fun (x : ByteArray × Unit) => x.1.size ≤ 2000000 ∧ Pl.allD x.1 = true, fun (x : ByteArray × Unit) => (Pl.decN x.1, ()), none⟩
def C98 : Con := ⟨[S], [ZI], fun (x : ByteArray × Unit) => x.1.size ≤ 2000000 ∧ Pl.isF x.1 = true, fun (x : ByteArray × Unit) => (Pl.froI x.1, ()), none⟩

def H97 : Hints := ⟨[], [], [(0, ⟨[3, 19], [(20, si)]⟩)], []⟩
def T97 : Ctx := ⟨tt, [(29, C127)], [], none, [], 0, [], [], 64⟩
def H128 : Hints := ⟨[], [], [(0, ⟨[0], [(3, sn), (4, si)]⟩), (2, ⟨[0, 3, 4, 5], [(6, su), (26, .iter)]⟩)], []⟩
def T128 : Ctx := ⟨tt, [(13, C111), (53, C112), (54, C120)], [], none, [], 0, [], [], 64⟩
def T98 : Ctx := ⟨tt, [(29, C127), (31, C128), (12, C106)], [], none, [], 0, [], [], 64⟩

end Ta
end
section
/- A natural number's text: contract. -/
set_option linter.unusedVariables false
set_option linter.unusedSimpArgs false
set_option maxRecDepth 100000
namespace Ta
open Go Fw Go.Proofs

/-- The decimal text of a natural number. -/
def Pl.txtN (n : Nat) : ByteArray := Pl.ba (Lib.decDigits n)
def C103 : Con := ⟨[N], [S], fun (x : List Int × Unit) => Pl.okN x.1 ∧ x.1.length ≤ 100000000, fun (x : List Int × Unit) => (Pl.txtN (Pl.nt x.1), ()), none⟩
def Pl.joinR : List ByteArray → List UInt8
  | [] => []
  | s :: l => Pl.joinR l ++ Pl.bl s
def Pl.szs : List ByteArray → Nat
  | [] => 0
  | s :: l => s.size + Pl.szs l

def sL : Code → Code
  | .seq a _ => a
  | c => c
def sR : Code → Code
  | .seq _ b => b
  | c => c
noncomputable def bd103 : Code := match Tryd.f20.body with
  | some c => c
  | none => .skip
/-- The text up to where the Builder is made. -/
noncomputable def pre103 : Code := .seq (sL bd103) (.seq (sL (sR bd103)) (.seq (sL (sR (sR bd103))) (sL (sR (sR (sR bd103))))))
noncomputable def rest103 : Code := sR (sR (sR (sR bd103)))
abbrev str : Ty := .str
abbrev ss : Sh := .own 9 str
def H103 : Hints := ⟨[29], [], [(0, ⟨[], [(0, sn), (3, ss)]⟩)], []⟩
def T103 : Ctx := ⟨tt, [(33, C114), (34, C130), (35, C131)], [], none, [], 0, [], [], 64⟩
/-- What is there when the Builder is made: the pieces, the last one first. -/
noncomputable def mid103 (r : List UInt8 → Nat → List ByteArray → Prop) (x : List Int) (e : AX) (A : AState) : Prop :=
  match e with
  | .normal => (match A.env 3 with
    | .own id => (match A.heap id with
      | some (.row 9 t xs) => (match castL t str xs with
        | some ys => ys ≠ [] ∧ ys.length ≤ 100000000000 ∧ Pl.szs ys ≤ 140737488355328 ∧ Pl.joinR ys = Lib.decDigits (Pl.nt x)
        | none => False)
      | _ => False)
    | _ => False)
  | .ret => finish T103 Tryd.f20.results.toList C103 (x, ()) .ret A
  | _ => False
noncomputable def VC103 (x : List Int) : Prop := awp T103 H103 47 pre103 0 (mid103 (fun _ _ _ => True) x) (start (encs C103.args (x, ())))

end Ta
end
section
/- Integers: what may be refused as too large: contracts. -/
set_option linter.unusedVariables false
set_option linter.unusedSimpArgs false
set_option maxRecDepth 100000
namespace Ta
open Go Fw Go.Proofs

/-- An integer behind a pointer. -/
def Pl.dZ : D → Zv
  | .rptr [.slc _ (.int .u64) a, .bool s] => (a, s, ())
  | _ => ([], false, ())
def Pl.isZ (d : D) : Prop := (∃ f a s, d = .rptr [.slc f (.int .u64) a, .bool s]) ∧ Pl.okI (Pl.dZ d)
def Pl.isZ2 (d : D) : Prop := Pl.isZ d ∧ Pl.big (Pl.dZ d).1 = false
def Pl.dI : D → Int
  | .rptr [.int _ n] => n
  | _ => 0
def Pl.isI (d : D) : Prop := (∃ n, d = .rptr [.int .i64 n]) ∧ 0 ≤ Pl.dI d ∧ Pl.dI d ≤ 10000
def Pl.dS : D → ByteArray
  | .rptr [.str s] => s
  | _ => ⟨#[]⟩
def Pl.isS (d : D) : Prop := (∃ s, d = .rptr [.str s]) ∧ Pl.isF (Pl.dS d) = true ∧ (Pl.dS d).size ≤ 40000
def Pl.pwI (z : Zv) (n : Int) : Int := Pl.iv z ^ n.toNat

def C88 : ConP := ⟨⟨[.raw, .raw], [ZI], fun (x : D × D × Unit) => Pl.isZ x.1 ∧ Pl.isZ x.2.1, fun (x : D × D × Unit) => (Pl.plI (Pl.dZ x.1) (Pl.dZ x.2.1), ()), none⟩, fun (x : D × D × Unit) => Pl.big (Pl.plI (Pl.dZ x.1) (Pl.dZ x.2.1)).1⟩
def C91 : ConP := ⟨⟨[.raw, .raw], [ZI], fun (x : D × D × Unit) => Pl.isZ x.1 ∧ Pl.isZ x.2.1, fun (x : D × D × Unit) => (Pl.tiI (Pl.dZ x.1) (Pl.dZ x.2.1), ()), none⟩, fun (x : D × D × Unit) => Pl.big (Pl.tiI (Pl.dZ x.1) (Pl.dZ x.2.1)).1⟩
def C102 : ConP := ⟨⟨[.raw], [ZI], fun (x : D × Unit) => Pl.isS x.1, fun (x : D × Unit) => (Pl.froI (Pl.dS x.1), ()), none⟩, fun (x : D × Unit) => Pl.big (Pl.froI (Pl.dS x.1)).1⟩
def C110 : ConP := ⟨⟨[.raw, .raw], [ZI], fun (x : D × D × Unit) => Pl.isZ2 x.1 ∧ Pl.isI x.2.1, fun (x : D × D × Unit) => (Pl.mkI (Pl.pwI (Pl.dZ x.1) (Pl.dI x.2.1)), ()), none⟩, fun (x : D × D × Unit) => Pl.bigI (Pl.pwI (Pl.dZ x.1) (Pl.dI x.2.1))⟩
def T88 : Ctx := ⟨tt, [(51, C89)], [], none, [], 0, [], [(19, C90)], 64⟩
def T91 : Ctx := ⟨tt, [(49, C92)], [], none, [], 0, [], [(19, C90)], 64⟩
def T102 : Ctx := ⟨tt, [(18, C98)], [], none, [], 0, [], [(19, C90)], 64⟩
def H110 : Hints := ⟨[], [], [(0, ⟨[0, 1], [(2, .box [N, B]), (3, sn), (4, sn), (5, si)]⟩)], []⟩
def T110 : Ctx := ⟨tt, [(13, C111), (53, C112), (12, C106)], [], none, [], 0, [], [(32, C113)], 64⟩

/-- What a closure computes that is attempted. -/
def Pl.cloV : D → Int
  | .clo f [d1, d2] => bif Nat.beq f 100088 then Pl.iv (Pl.dZ d1) + Pl.iv (Pl.dZ d2) else bif Nat.beq f 100091 then Pl.iv (Pl.dZ d1) * Pl.iv (Pl.dZ d2) else Pl.pwI (Pl.dZ d1) (Pl.dI d2)
  | .clo _ [d1] => Pl.parS (Pl.dS d1)
  | _ => 0
def Pl.okClo : D → Prop
  | .clo f [d1, d2] => False
  | .clo f [d1] => f = 17 ∧ Pl.isS d1
  | _ => False
def Pl.at1 (d : D) : Zv := Pl.att1 (Pl.cloV d)
def Pl.at2 (d : D) : Int := Pl.att2 (Pl.cloV d)
def C87 : Con := ⟨[.raw], [ZI, E], fun (x : D × Unit) => Pl.okClo x.1, fun (x : D × Unit) => (Pl.at1 x.1, Pl.at2 x.1, ()), none⟩

def Pl.ad1 (a b : Zv) : Zv := Pl.att1 (Pl.iv a + Pl.iv b)
def Pl.ad2 (a b : Zv) : Int := Pl.att2 (Pl.iv a + Pl.iv b)
def Pl.su1 (a b : Zv) : Zv := Pl.att1 (Pl.iv a - Pl.iv b)
def Pl.su2 (a b : Zv) : Int := Pl.att2 (Pl.iv a - Pl.iv b)
def Pl.mu1 (a b : Zv) : Zv := Pl.att1 (Pl.iv a * Pl.iv b)
def Pl.mu2 (a b : Zv) : Int := Pl.att2 (Pl.iv a * Pl.iv b)
def Pl.pa1 (s : ByteArray) : Zv := if Pl.isF s = true ∧ s.size ≤ 40000 then Pl.att1 (Pl.parS s) else Pl.mkI 0
def Pl.pa2 (s : ByteArray) : Int := if Pl.isF s = true then (if s.size ≤ 40000 then Pl.att2 (Pl.parS s) else 11) else 10
def Pl.txtI (z : Zv) : ByteArray := Pl.ba (Lib.itoa (Pl.iv z))

def C30 : Con := ⟨[ZI, ZI], [ZI, E], fun (x : Zv × Zv × Unit) => Pl.okI x.1 ∧ Pl.okI x.2.1, fun (x : Zv × Zv × Unit) => (Pl.ad1 x.1 x.2.1, Pl.ad2 x.1 x.2.1, ()), none⟩
def C31 : Con := ⟨[ZI, ZI], [ZI, E], fun (x : Zv × Zv × Unit) => Pl.okI x.1 ∧ Pl.okI x.2.1, fun (x : Zv × Zv × Unit) => (Pl.su1 x.1 x.2.1, Pl.su2 x.1 x.2.1, ()), none⟩
def C32 : Con := ⟨[ZI, ZI], [ZI, E], fun (x : Zv × Zv × Unit) => Pl.okI x.1 ∧ Pl.okI x.2.1, fun (x : Zv × Zv × Unit) => (Pl.mu1 x.1 x.2.1, Pl.mu2 x.1 x.2.1, ()), none⟩
def C45 : Con := ⟨[S], [ZI, E], fun (x : ByteArray × Unit) => x.1.size ≤ 9000000000000000000, fun (x : ByteArray × Unit) => (Pl.pa1 x.1, Pl.pa2 x.1, ()), none⟩
def C56 : Con := ⟨[ZI, I], [ZI, E], fun (x : Zv × Int × Unit) => Pl.okI x.1 ∧ Pl.big x.1.1 = false, fun (x : Zv × Int × Unit) => (Pl.pw1 x.1 x.2.1, Pl.pw2 x.1 x.2.1, ()), none⟩
def C46 : Con := ⟨[ZI], [S], fun (x : Zv × Unit) => Pl.okI x.1, fun (x : Zv × Unit) => (Pl.txtI x.1, ()), none⟩
def H30 : Hints := ⟨[], [(1, [2, 3])], [], []⟩
def H45 : Hints := ⟨[], [(5, [1])], [], []⟩
def H56 : Hints := ⟨[], [(3, [2, 3])], [], []⟩
def T30 : Ctx := ⟨tt, [(16, C87)], [], none, [], 0, [], [], 64⟩
def T31 : Ctx := ⟨tt, [(66, C50)], [], none, [], 0, [], [], 64⟩
def T45 : Ctx := ⟨tt, [(15, C97), (16, C87)], [], none, [], 0, [], [], 64⟩
def T46 : Ctx := ⟨tt, [(20, C103)], [], none, [], 0, [], [], 64⟩

end Ta
end
section
/- Natural numbers: quotient and remainder. -/
set_option linter.unusedVariables false
set_option linter.unusedSimpArgs false
set_option maxRecDepth 100000
namespace Ta
open Go Fw Go.Proofs Pl

theorem len_tn {n k : Nat} (h : n < W ^ k) : (tn n).length ≤ k := len_dg W2 h
theorem tn_can (n : Nat) : can W (tn n) := can_dg W2 n
theorem tn_rng (n : Nat) : rng W (tn n) := (tn_can n).1
theorem tn_ge {n k : Nat} (h : W ^ k ≤ n) : k + 1 ≤ (tn n).length := by
  have h1 := vl_lt (tn_rng n)
  have h2 : vl W (tn n) = n := nt_tn n
  rw [h2] at h1
  have := (Nat.pow_lt_pow_iff_right (show 1 < W by decide)).1 (Nat.lt_of_le_of_lt h h1)
  omega
theorem cmp_neg {a b : Nat} : cmpN a b < 0 ↔ a < b := by
  unfold cmpN
  split
  · simp; assumption
  · split <;> simp <;> omega
theorem pow_W_pos (k : Nat) : 0 < W ^ k := Nat.pow_pos (by decide)
theorem top_ne {y : List Int} {L : Nat} (h : can W y) (hL : y.length = L + 1) : y.getD L 0 ≠ 0 := by
  refine h.2 _ ?_
  rw [List.getLast?_eq_getElem?, hL, Nat.add_sub_cancel, getD_get (by omega), List.getElem?_eq_getElem (by omega)]
theorem tn_zero : tn 0 = [] := rfl

set_option maxHeartbeats 2000000 in
theorem vc119 : ∀ x, C119.pre x → VC T119 H119 Tryd.f62 C119 x := by
  rintro ⟨(x : List Int), (y : List Int), ⟨⟩⟩ ⟨⟨cx, lx⟩, ⟨cy, ly⟩, hy0⟩
  refine cast (α := (Pl.okN x ∧ Pl.okN y) ∧ Br (decide (Pl.cmp x y < (0 : Int))) (([], x, ()) = C119.post (x, y, ())) (Br ((↑y.length : Int) == (1 : Int)) ((0 : Int) ≤ (0 : Int) ∧ (0 : Int) < (↑y.length : Int) ∧ (Pl.okN x ∧ (0 : Int) < rd u64 y (0 : Int) ∧ rd u64 y (0 : Int) < (18446744073709551616 : Int)) ∧ ((0 : Int) ≤ Pl.rwN x (rd u64 y (0 : Int)) ∧ Pl.rwN x (rd u64 y (0 : Int)) < (18446744073709551616 : Int)) ∧ (Pl.qwN x (rd u64 y (0 : Int)), Pl.tnI (Pl.rwN x (rd u64 y (0 : Int))), ()) = C119.post (x, y, ())) ((0 : Int) ≤ IntKind.i64.wrap ((↑y.length : Int) - (1 : Int)) ∧ IntKind.i64.wrap ((↑y.length : Int) - (1 : Int)) < (↑y.length : Int) ∧ ((0 : Int) ≤ rd u64 y (IntKind.i64.wrap ((↑y.length : Int) - (1 : Int))) ∧ rd u64 y (IntKind.i64.wrap ((↑y.length : Int) - (1 : Int))) < (18446744073709551616 : Int)) ∧ (Pl.okN y ∧ (0 : Int) ≤ Pl.lz (rd u64 y (IntKind.i64.wrap ((↑y.length : Int) - (1 : Int)))) ∧ Pl.lz (rd u64 y (IntKind.i64.wrap ((↑y.length : Int) - (1 : Int)))) ≤ (1000000000 : Int)) ∧ ((0 : Int) ≤ if IntKind.i64.wrap ((↑(Pl.shlN y (Pl.lz (rd u64 y (IntKind.i64.wrap ((↑y.length : Int) - (1 : Int)))))).length : Int) + (1 : Int)) > IntKind.i64.wrap ((↑x.length : Int) + (1 : Int)) then IntKind.i64.wrap ((↑(Pl.shlN y (Pl.lz (rd u64 y (IntKind.i64.wrap ((↑y.length : Int) - (1 : Int)))))).length : Int) + (1 : Int)) else IntKind.i64.wrap ((↑x.length : Int) + (1 : Int))) ∧ ((if IntKind.i64.wrap ((↑(Pl.shlN y (Pl.lz (rd u64 y (IntKind.i64.wrap ((↑y.length : Int) - (1 : Int)))))).length : Int) + (1 : Int)) > IntKind.i64.wrap ((↑x.length : Int) + (1 : Int)) then IntKind.i64.wrap ((↑(Pl.shlN y (Pl.lz (rd u64 y (IntKind.i64.wrap ((↑y.length : Int) - (1 : Int)))))).length : Int) + (1 : Int)) else IntKind.i64.wrap ((↑x.length : Int) + (1 : Int))) = if IntKind.i64.wrap ((↑(Pl.shlN y (Pl.lz (rd u64 y (IntKind.i64.wrap ((↑y.length : Int) - (1 : Int)))))).length : Int) + (1 : Int)) > IntKind.i64.wrap ((↑x.length : Int) + (1 : Int)) then IntKind.i64.wrap ((↑(Pl.shlN y (Pl.lz (rd u64 y (IntKind.i64.wrap ((↑y.length : Int) - (1 : Int)))))).length : Int) + (1 : Int)) else IntKind.i64.wrap ((↑x.length : Int) + (1 : Int))) ∧ (if IntKind.i64.wrap ((↑(Pl.shlN y (Pl.lz (rd u64 y (IntKind.i64.wrap ((↑y.length : Int) - (1 : Int)))))).length : Int) + (1 : Int)) > IntKind.i64.wrap ((↑x.length : Int) + (1 : Int)) then IntKind.i64.wrap ((↑(Pl.shlN y (Pl.lz (rd u64 y (IntKind.i64.wrap ((↑y.length : Int) - (1 : Int)))))).length : Int) + (1 : Int)) else IntKind.i64.wrap ((↑x.length : Int) + (1 : Int))) * (8 : Int) ≤ (140737488355328 : Int) ∧ (Pl.okN x ∧ (0 : Int) ≤ Pl.lz (rd u64 y (IntKind.i64.wrap ((↑y.length : Int) - (1 : Int)))) ∧ Pl.lz (rd u64 y (IntKind.i64.wrap ((↑y.length : Int) - (1 : Int)))) ≤ (1000000000 : Int)) ∧ (0 : Int) ≤ IntKind.i64.wrap ((↑(List.take (List.replicate (if IntKind.i64.wrap ((↑(Pl.shlN y (Pl.lz (rd u64 y (IntKind.i64.wrap ((↑y.length : Int) - (1 : Int)))))).length : Int) + (1 : Int)) > IntKind.i64.wrap ((↑x.length : Int) + (1 : Int)) then IntKind.i64.wrap ((↑(Pl.shlN y (Pl.lz (rd u64 y (IntKind.i64.wrap ((↑y.length : Int) - (1 : Int)))))).length : Int) + (1 : Int)) else IntKind.i64.wrap ((↑x.length : Int) + (1 : Int))).toNat (0 : Int)).length (Pl.shlN x (Pl.lz (rd u64 y (IntKind.i64.wrap ((↑y.length : Int) - (1 : Int)))))) ++ List.drop (Pl.shlN x (Pl.lz (rd u64 y (IntKind.i64.wrap ((↑y.length : Int) - (1 : Int)))))).length (List.replicate (if IntKind.i64.wrap ((↑(Pl.shlN y (Pl.lz (rd u64 y (IntKind.i64.wrap ((↑y.length : Int) - (1 : Int)))))).length : Int) + (1 : Int)) > IntKind.i64.wrap ((↑x.length : Int) + (1 : Int)) then IntKind.i64.wrap ((↑(Pl.shlN y (Pl.lz (rd u64 y (IntKind.i64.wrap ((↑y.length : Int) - (1 : Int)))))).length : Int) + (1 : Int)) else IntKind.i64.wrap ((↑x.length : Int) + (1 : Int))).toNat (0 : Int))).length : Int) - (↑(Pl.shlN y (Pl.lz (rd u64 y (IntKind.i64.wrap ((↑y.length : Int) - (1 : Int)))))).length : Int)) ∧ IntKind.i64.wrap ((↑(List.take (List.replicate (if IntKind.i64.wrap ((↑(Pl.shlN y (Pl.lz (rd u64 y (IntKind.i64.wrap ((↑y.length : Int) - (1 : Int)))))).length : Int) + (1 : Int)) > IntKind.i64.wrap ((↑x.length : Int) + (1 : Int)) then IntKind.i64.wrap ((↑(Pl.shlN y (Pl.lz (rd u64 y (IntKind.i64.wrap ((↑y.length : Int) - (1 : Int)))))).length : Int) + (1 : Int)) else IntKind.i64.wrap ((↑x.length : Int) + (1 : Int))).toNat (0 : Int)).length (Pl.shlN x (Pl.lz (rd u64 y (IntKind.i64.wrap ((↑y.length : Int) - (1 : Int)))))) ++ List.drop (Pl.shlN x (Pl.lz (rd u64 y (IntKind.i64.wrap ((↑y.length : Int) - (1 : Int)))))).length (List.replicate (if IntKind.i64.wrap ((↑(Pl.shlN y (Pl.lz (rd u64 y (IntKind.i64.wrap ((↑y.length : Int) - (1 : Int)))))).length : Int) + (1 : Int)) > IntKind.i64.wrap ((↑x.length : Int) + (1 : Int)) then IntKind.i64.wrap ((↑(Pl.shlN y (Pl.lz (rd u64 y (IntKind.i64.wrap ((↑y.length : Int) - (1 : Int)))))).length : Int) + (1 : Int)) else IntKind.i64.wrap ((↑x.length : Int) + (1 : Int))).toNat (0 : Int))).length : Int) - (↑(Pl.shlN y (Pl.lz (rd u64 y (IntKind.i64.wrap ((↑y.length : Int) - (1 : Int)))))).length : Int)) = IntKind.i64.wrap ((↑(List.take (List.replicate (if IntKind.i64.wrap ((↑(Pl.shlN y (Pl.lz (rd u64 y (IntKind.i64.wrap ((↑y.length : Int) - (1 : Int)))))).length : Int) + (1 : Int)) > IntKind.i64.wrap ((↑x.length : Int) + (1 : Int)) then IntKind.i64.wrap ((↑(Pl.shlN y (Pl.lz (rd u64 y (IntKind.i64.wrap ((↑y.length : Int) - (1 : Int)))))).length : Int) + (1 : Int)) else IntKind.i64.wrap ((↑x.length : Int) + (1 : Int))).toNat (0 : Int)).length (Pl.shlN x (Pl.lz (rd u64 y (IntKind.i64.wrap ((↑y.length : Int) - (1 : Int)))))) ++ List.drop (Pl.shlN x (Pl.lz (rd u64 y (IntKind.i64.wrap ((↑y.length : Int) - (1 : Int)))))).length (List.replicate (if IntKind.i64.wrap ((↑(Pl.shlN y (Pl.lz (rd u64 y (IntKind.i64.wrap ((↑y.length : Int) - (1 : Int)))))).length : Int) + (1 : Int)) > IntKind.i64.wrap ((↑x.length : Int) + (1 : Int)) then IntKind.i64.wrap ((↑(Pl.shlN y (Pl.lz (rd u64 y (IntKind.i64.wrap ((↑y.length : Int) - (1 : Int)))))).length : Int) + (1 : Int)) else IntKind.i64.wrap ((↑x.length : Int) + (1 : Int))).toNat (0 : Int))).length : Int) - (↑(Pl.shlN y (Pl.lz (rd u64 y (IntKind.i64.wrap ((↑y.length : Int) - (1 : Int)))))).length : Int)) ∧ IntKind.i64.wrap ((↑(List.take (List.replicate (if IntKind.i64.wrap ((↑(Pl.shlN y (Pl.lz (rd u64 y (IntKind.i64.wrap ((↑y.length : Int) - (1 : Int)))))).length : Int) + (1 : Int)) > IntKind.i64.wrap ((↑x.length : Int) + (1 : Int)) then IntKind.i64.wrap ((↑(Pl.shlN y (Pl.lz (rd u64 y (IntKind.i64.wrap ((↑y.length : Int) - (1 : Int)))))).length : Int) + (1 : Int)) else IntKind.i64.wrap ((↑x.length : Int) + (1 : Int))).toNat (0 : Int)).length (Pl.shlN x (Pl.lz (rd u64 y (IntKind.i64.wrap ((↑y.length : Int) - (1 : Int)))))) ++ List.drop (Pl.shlN x (Pl.lz (rd u64 y (IntKind.i64.wrap ((↑y.length : Int) - (1 : Int)))))).length (List.replicate (if IntKind.i64.wrap ((↑(Pl.shlN y (Pl.lz (rd u64 y (IntKind.i64.wrap ((↑y.length : Int) - (1 : Int)))))).length : Int) + (1 : Int)) > IntKind.i64.wrap ((↑x.length : Int) + (1 : Int)) then IntKind.i64.wrap ((↑(Pl.shlN y (Pl.lz (rd u64 y (IntKind.i64.wrap ((↑y.length : Int) - (1 : Int)))))).length : Int) + (1 : Int)) else IntKind.i64.wrap ((↑x.length : Int) + (1 : Int))).toNat (0 : Int))).length : Int) - (↑(Pl.shlN y (Pl.lz (rd u64 y (IntKind.i64.wrap ((↑y.length : Int) - (1 : Int)))))).length : Int)) * (8 : Int) ≤ (140737488355328 : Int) ∧ ∃ (n : Nat), itl (fun (G : List Int × List Int × Int × PUnit → Prop) (x_1 : List Int × List Int × Int × PUnit) => Br (decide (x_1.snd.snd.fst ≥ (0 : Int))) ((0 : Int) ≤ x_1.snd.snd.fst ∧ x_1.snd.snd.fst < IntKind.i64.wrap (IntKind.i64.wrap (x_1.snd.snd.fst + (↑(Pl.shlN y (Pl.lz (rd u64 y (IntKind.i64.wrap ((↑y.length : Int) - (1 : Int)))))).length : Int)) + (1 : Int)) ∧ IntKind.i64.wrap (IntKind.i64.wrap (x_1.snd.snd.fst + (↑(Pl.shlN y (Pl.lz (rd u64 y (IntKind.i64.wrap ((↑y.length : Int) - (1 : Int)))))).length : Int)) + (1 : Int)) ≤ (↑(List.length x_1.fst) : Int) ∧ Pl.preR x_1.fst x_1.snd.snd.fst (IntKind.i64.wrap (IntKind.i64.wrap (x_1.snd.snd.fst + (↑(Pl.shlN y (Pl.lz (rd u64 y (IntKind.i64.wrap ((↑y.length : Int) - (1 : Int)))))).length : Int)) + (1 : Int)) - x_1.snd.snd.fst) (Pl.shlN y (Pl.lz (rd u64 y (IntKind.i64.wrap ((↑y.length : Int) - (1 : Int)))))) [] ∧ (0 : Int) ≤ x_1.snd.snd.fst ∧ x_1.snd.snd.fst < (↑(List.length x_1.snd.fst) : Int) ∧ (0 : Int) ≤ x_1.snd.snd.fst ∧ x_1.snd.snd.fst < (↑(List.length x_1.snd.fst) : Int) ∧ G (Pl.newR x_1.fst x_1.snd.snd.fst (IntKind.i64.wrap (IntKind.i64.wrap (x_1.snd.snd.fst + (↑(Pl.shlN y (Pl.lz (rd u64 y (IntKind.i64.wrap ((↑y.length : Int) - (1 : Int)))))).length : Int)) + (1 : Int)) - x_1.snd.snd.fst) (Pl.shlN y (Pl.lz (rd u64 y (IntKind.i64.wrap ((↑y.length : Int) - (1 : Int)))))) [], List.set x_1.snd.fst (Int.toNat x_1.snd.snd.fst) (Pl.quoW x_1.fst x_1.snd.snd.fst (IntKind.i64.wrap (IntKind.i64.wrap (x_1.snd.snd.fst + (↑(Pl.shlN y (Pl.lz (rd u64 y (IntKind.i64.wrap ((↑y.length : Int) - (1 : Int)))))).length : Int)) + (1 : Int)) - x_1.snd.snd.fst) (Pl.shlN y (Pl.lz (rd u64 y (IntKind.i64.wrap ((↑y.length : Int) - (1 : Int))))))), IntKind.i64.wrap (x_1.snd.snd.fst - (1 : Int)), ())) (Pl.rg2 x_1.snd.1 ∧ Pl.rg2 x_1.1 ∧ (Pl.rgN (Pl.trm x_1.1) ∧ (0 : Int) ≤ Pl.lz (rd u64 y (IntKind.i64.wrap ((↑y.length : Int) - (1 : Int)))) ∧ Pl.lz (rd u64 y (IntKind.i64.wrap ((↑y.length : Int) - (1 : Int)))) < (64 : Int)) ∧ (Pl.trm x_1.snd.1, Pl.shrN (Pl.trm x_1.1) (Pl.lz (rd u64 y (IntKind.i64.wrap ((↑y.length : Int) - (1 : Int))))), ()) = C119.post (x, y, ()))) n ((List.take (List.replicate (if IntKind.i64.wrap ((↑(Pl.shlN y (Pl.lz (rd u64 y (IntKind.i64.wrap ((↑y.length : Int) - (1 : Int)))))).length : Int) + (1 : Int)) > IntKind.i64.wrap ((↑x.length : Int) + (1 : Int)) then IntKind.i64.wrap ((↑(Pl.shlN y (Pl.lz (rd u64 y (IntKind.i64.wrap ((↑y.length : Int) - (1 : Int)))))).length : Int) + (1 : Int)) else IntKind.i64.wrap ((↑x.length : Int) + (1 : Int))).toNat (0 : Int)).length (Pl.shlN x (Pl.lz (rd u64 y (IntKind.i64.wrap ((↑y.length : Int) - (1 : Int))))))).append (List.drop (Pl.shlN x (Pl.lz (rd u64 y (IntKind.i64.wrap ((↑y.length : Int) - (1 : Int)))))).length (List.replicate (if IntKind.i64.wrap ((↑(Pl.shlN y (Pl.lz (rd u64 y (IntKind.i64.wrap ((↑y.length : Int) - (1 : Int)))))).length : Int) + (1 : Int)) > IntKind.i64.wrap ((↑x.length : Int) + (1 : Int)) then IntKind.i64.wrap ((↑(Pl.shlN y (Pl.lz (rd u64 y (IntKind.i64.wrap ((↑y.length : Int) - (1 : Int)))))).length : Int) + (1 : Int)) else IntKind.i64.wrap ((↑x.length : Int) + (1 : Int))).toNat (0 : Int))), List.replicate (IntKind.i64.wrap ((↑(List.take (List.replicate (if IntKind.i64.wrap ((↑(Pl.shlN y (Pl.lz (rd u64 y (IntKind.i64.wrap ((↑y.length : Int) - (1 : Int)))))).length : Int) + (1 : Int)) > IntKind.i64.wrap ((↑x.length : Int) + (1 : Int)) then IntKind.i64.wrap ((↑(Pl.shlN y (Pl.lz (rd u64 y (IntKind.i64.wrap ((↑y.length : Int) - (1 : Int)))))).length : Int) + (1 : Int)) else IntKind.i64.wrap ((↑x.length : Int) + (1 : Int))).toNat (0 : Int)).length (Pl.shlN x (Pl.lz (rd u64 y (IntKind.i64.wrap ((↑y.length : Int) - (1 : Int)))))) ++ List.drop (Pl.shlN x (Pl.lz (rd u64 y (IntKind.i64.wrap ((↑y.length : Int) - (1 : Int)))))).length (List.replicate (if IntKind.i64.wrap ((↑(Pl.shlN y (Pl.lz (rd u64 y (IntKind.i64.wrap ((↑y.length : Int) - (1 : Int)))))).length : Int) + (1 : Int)) > IntKind.i64.wrap ((↑x.length : Int) + (1 : Int)) then IntKind.i64.wrap ((↑(Pl.shlN y (Pl.lz (rd u64 y (IntKind.i64.wrap ((↑y.length : Int) - (1 : Int)))))).length : Int) + (1 : Int)) else IntKind.i64.wrap ((↑x.length : Int) + (1 : Int))).toNat (0 : Int))).length : Int) - (↑(Pl.shlN y (Pl.lz (rd u64 y (IntKind.i64.wrap ((↑y.length : Int) - (1 : Int)))))).length : Int))).toNat (0 : Int), IntKind.i64.wrap ((↑(List.replicate (IntKind.i64.wrap ((↑(List.take (List.replicate (if IntKind.i64.wrap ((↑(Pl.shlN y (Pl.lz (rd u64 y (IntKind.i64.wrap ((↑y.length : Int) - (1 : Int)))))).length : Int) + (1 : Int)) > IntKind.i64.wrap ((↑x.length : Int) + (1 : Int)) then IntKind.i64.wrap ((↑(Pl.shlN y (Pl.lz (rd u64 y (IntKind.i64.wrap ((↑y.length : Int) - (1 : Int)))))).length : Int) + (1 : Int)) else IntKind.i64.wrap ((↑x.length : Int) + (1 : Int))).toNat (0 : Int)).length (Pl.shlN x (Pl.lz (rd u64 y (IntKind.i64.wrap ((↑y.length : Int) - (1 : Int)))))) ++ List.drop (Pl.shlN x (Pl.lz (rd u64 y (IntKind.i64.wrap ((↑y.length : Int) - (1 : Int)))))).length (List.replicate (if IntKind.i64.wrap ((↑(Pl.shlN y (Pl.lz (rd u64 y (IntKind.i64.wrap ((↑y.length : Int) - (1 : Int)))))).length : Int) + (1 : Int)) > IntKind.i64.wrap ((↑x.length : Int) + (1 : Int)) then IntKind.i64.wrap ((↑(Pl.shlN y (Pl.lz (rd u64 y (IntKind.i64.wrap ((↑y.length : Int) - (1 : Int)))))).length : Int) + (1 : Int)) else IntKind.i64.wrap ((↑x.length : Int) + (1 : Int))).toNat (0 : Int))).length : Int) - (↑(Pl.shlN y (Pl.lz (rd u64 y (IntKind.i64.wrap ((↑y.length : Int) - (1 : Int)))))).length : Int))).toNat (0 : Int)).length : Int) - (1 : Int)), ())))) (by kernel_rfl) ?_
  have e : C119.post (x, y, ()) = (tn (nt x / nt y), tn (nt x % nt y), ()) := rfl
  rw [e]
  simp only at cx lx cy ly hy0
  have okx : okN x := ⟨cx, by unfold LEN; omega⟩
  have oky : okN y := ⟨cy, by unfold LEN; omega⟩
  have hyp : 0 < nt y := vl_pos W2 cy hy0
  refine ⟨⟨okx, oky⟩, ?_⟩
  have ec : cmp x y = cmpN (nt x) (nt y) := rfl
  rw [ec]
  refine Br_of (fun hb => ?_) (fun hb => ?_)
  · have hlt := cmp_neg.1 (of_decide_eq_true hb)
    rw [Nat.div_eq_of_lt hlt, Nat.mod_eq_of_lt hlt, tn_nt okx]
    rfl
  have hge : nt y ≤ nt x := by
    have := of_decide_eq_false hb
    rw [cmp_neg] at this; omega
  obtain ⟨L, hL⟩ : ∃ L, y.length = L + 1 := ⟨y.length - 1, by have := List.length_pos_iff.2 hy0; omega⟩
  have htop := top_ne cy hL
  have wd0 := rngW cy.1 L
  refine Br_of (fun hb1 => ?_) (fun hb1 => ?_)
  · have hL0 : L = 0 := by
      have : (y.length : Int) = 1 := by simpa using hb1
      omega
    subst hL0
    have ey : y = [y.getD 0 0] := by
      cases y with
      | nil => simp at hL
      | cons a l =>
        have : l = [] := List.eq_nil_of_length_eq_zero (by simpa using hL)
        subst this; rfl
    have erd : rd u64 y 0 = y.getD 0 0 := rfl
    rw [erd]
    have hv : nt y = (y.getD 0 0).toNat := by
      conv => lhs; rw [ey]
      show (y.getD 0 0).toNat + W * 0 = _
      omega
    have h1 : rwN x (y.getD 0 0) = ((nt x % (y.getD 0 0).toNat : Nat) : Int) := rfl
    have h2 : qwN x (y.getD 0 0) = tn (nt x / (y.getD 0 0).toNat) := rfl
    have h3 := Nat.mod_lt (nt x) hyp
    have h4 : nt x % (y.getD 0 0).toNat = nt x % nt y := by rw [hv]
    rw [h1, h2, ← hv]
    refine ⟨by decide, by omega, ⟨okx, by omega, wd0.2⟩, ⟨by omega, by omega⟩, ?_⟩
    show (_, tn ((nt x % nt y : Nat) : Int).toNat, ()) = _
    rw [Int.toNat_natCast]
  · have hL1 : 1 ≤ L := by
      rcases Nat.eq_zero_or_pos L with h0 | h0
      · subst h0; rw [hL] at hb1; simp at hb1
      · exact h0
    have e1 : IntKind.i64.wrap ((y.length : Int) - 1) = ((L : Nat) : Int) := by rw [wrap_i64 (by omega) (by omega)]; omega
    have e2 : rd u64 y ((L : Nat) : Int) = y.getD L 0 := rfl
    rw [e1, e2]
    have hvy : nt y = vl W (y.take L) + W ^ L * (y.getD L 0).toNat := by
      have := vl_take_getD (B := W) (l := y) L
      rw [← hL, List.take_length] at this
      exact this
    have hlow := vl_take_lt (show 0 < W by decide) cy.1 L
    generalize y.getD L 0 = dd at htop wd0 hvy ⊢
    obtain ⟨d, rfl⟩ := Int.eq_ofNat_of_zero_le wd0.1
    rw [Int.toNat_natCast] at hvy
    have hd0 : d ≠ 0 := by omega
    have hb64 : bsz d ≤ 64 := bsz_le.2 (by omega)
    have hb1' : 1 ≤ bsz d := by rw [bsz_pos hd0]; omega
    obtain ⟨s, hs, hs64⟩ : ∃ s : Nat, bsz d + s = 64 ∧ s < 64 := ⟨64 - bsz d, by omega, by omega⟩
    have elz : lz ((d : Nat) : Int) = (s : Int) := by
      show 64 - (bsz d : Int) = _
      omega
    rw [elz]
    have hds : d < 2 ^ bsz d := bsz_le.1 (Nat.le_refl _)
    have hp64 : 2 ^ bsz d * 2 ^ s = W := by rw [← Nat.pow_add, hs]; rfl
    have hsp := pow_pos2 s
    -- y, shifted
    have hV1 : nt y * 2 ^ s < W ^ (L + 1) := by
      have h1 : nt y < W ^ L * (d + 1) := by rw [hvy, Nat.mul_succ]; omega
      have h2 : nt y < W ^ L * 2 ^ bsz d := Nat.lt_of_lt_of_le h1 (Nat.mul_le_mul_left _ hds)
      have h3 := Nat.mul_lt_mul_of_pos_right h2 hsp
      rw [Nat.mul_assoc, hp64, ← Nat.pow_succ] at h3
      exact h3
    have hV0 : W ^ L * 2 ^ s ≤ nt y * 2 ^ s := Nat.mul_le_mul_right _ (by
      rw [hvy]
      have := Nat.mul_le_mul_left (W ^ L) (show 1 ≤ d by omega)
      omega)
    have hVL : (tn (nt y * 2 ^ s)).length = L + 1 := by
      have h1 := len_tn hV1
      have h2 := tn_ge (n := nt y * 2 ^ s) (k := L) (Nat.le_trans (Nat.le_mul_of_pos_right _ hsp) hV0)
      omega
    have ev : shlN y (s : Int) = tn (nt y * 2 ^ s) := rfl
    have eX : shlN x (s : Int) = tn (nt x * 2 ^ s) := rfl
    rw [ev, eX, hVL]
    -- x, shifted
    have hxlen : L + 1 ≤ x.length := by
      rcases Nat.lt_or_ge x.length (L + 1) with h | h
      · have := vl_cmp_len W2 cx.1 cy (by omega)
        have h9 : nt x < nt y := this
        omega
      · exact h
    have hX1 : nt x * 2 ^ s < W ^ (x.length + 1) := by
      have h1 : nt x < W ^ x.length := vl_lt cx.1
      have h2 : 2 ^ s ≤ W := by rw [← hp64]; exact Nat.le_mul_of_pos_left _ (pow_pos2 _)
      calc nt x * 2 ^ s < W ^ x.length * 2 ^ s := Nat.mul_lt_mul_of_pos_right h1 hsp
        _ ≤ W ^ x.length * W := Nat.mul_le_mul_left _ h2
        _ = W ^ (x.length + 1) := by rw [Nat.pow_succ]
    have hXl := len_tn hX1
    have hXr := tn_rng (nt x * 2 ^ s)
    have hXv : vl W (tn (nt x * 2 ^ s)) = nt x * 2 ^ s := nt_tn _
    have hVc := tn_can (nt y * 2 ^ s)
    have hVv : nt (tn (nt y * 2 ^ s)) = nt y * 2 ^ s := nt_tn _
    have hXlt : nt x * 2 ^ s < nt y * 2 ^ s * W ^ (x.length - L) := by
      have h1 : nt x < W ^ x.length := vl_lt cx.1
      have h2 : nt x * 2 ^ s < W ^ x.length * 2 ^ s := Nat.mul_lt_mul_of_pos_right h1 hsp
      have h3 : W ^ x.length * 2 ^ s = W ^ L * 2 ^ s * W ^ (x.length - L) := by
        rw [Nat.mul_right_comm, ← Nat.pow_add, show L + (x.length - L) = x.length by omega]
      have h4 := Nat.mul_le_mul_right (W ^ (x.length - L)) hV0
      omega
    have hquo : nt x * 2 ^ s / (nt y * 2 ^ s) = nt x / nt y := Nat.mul_div_mul_right _ _ hsp
    have hmod : nt x * 2 ^ s % (nt y * 2 ^ s) = nt x % nt y * 2 ^ s := Nat.mul_mod_mul_right _ _ _
    have hVp : 0 < nt y * 2 ^ s := Nat.mul_pos hyp hsp
    generalize tn (nt y * 2 ^ s) = v at *
    generalize tn (nt x * 2 ^ s) = X at *
    generalize nt y * 2 ^ s = V at *
    generalize nt x * 2 ^ s = U at *
    have w1 : IntKind.i64.wrap (((L + 1 : Nat) : Int) + 1) = ((L + 2 : Nat) : Int) := by rw [wrap_i64 (by omega) (by omega)]; omega
    have w2 : IntKind.i64.wrap ((x.length : Int) + 1) = ((x.length + 1 : Nat) : Int) := by rw [wrap_i64 (by omega) (by omega)]; omega
    rw [w1, w2]
    have w3 : (if ((L + 2 : Nat) : Int) > ((x.length + 1 : Nat) : Int) then ((L + 2 : Nat) : Int) else ((x.length + 1 : Nat) : Int)) = ((x.length + 1 : Nat) : Int) := if_neg (by omega)
    rw [w3]
    rw [Int.toNat_natCast]
    try rw [List.length_replicate]
    have hu0 : (X.take (x.length + 1)).append ((List.replicate (x.length + 1) (0 : Int)).drop X.length) = X ++ List.replicate (x.length + 1 - X.length) 0 := by
      rw [List.take_of_length_le hXl, List.drop_replicate]; rfl
    have hu0' : X.take (x.length + 1) ++ (List.replicate (x.length + 1) (0 : Int)).drop X.length = X ++ List.replicate (x.length + 1 - X.length) 0 := hu0
    try rw [hu0]
    try rw [hu0']
    have hul : (X ++ List.replicate (x.length + 1 - X.length) (0 : Int)).length = x.length + 1 := by simp; omega
    rw [hul]
    have w4 : IntKind.i64.wrap (((x.length + 1 : Nat) : Int) - ((L + 1 : Nat) : Int)) = ((x.length - L : Nat) : Int) := by rw [wrap_i64 (by omega) (by omega)]; omega
    rw [w4]
    rw [Int.toNat_natCast]
    try rw [List.length_replicate]
    have w5 : IntKind.i64.wrap (((x.length - L : Nat) : Int) - 1) = ((x.length - L : Nat) : Int) - 1 := wrap_i64 (by omega) (by omega)
    rw [w5]
    have sOK : (0 : Int) ≤ (s : Int) ∧ (s : Int) ≤ 1000000000 := ⟨by omega, by omega⟩
    refine ⟨by omega, by omega, ⟨by omega, wd0.2⟩, ⟨oky, sOK⟩, by omega, rfl, by omega, ⟨okx, sOK⟩, by omega, rfl, by omega, ?_⟩
    refine itl_rule (fun st => ∃ k : Nat, st.2.2.1 = (k : Int) - 1 ∧ k ≤ x.length - L ∧ st.1.length = x.length + 1 ∧ rng W st.1 ∧ st.2.1.length = x.length - L ∧ rng W st.2.1 ∧ (∀ j, j < k → st.2.1.getD j 0 = 0) ∧ U = vl W st.1 + V * vl W st.2.1 ∧ vl W st.1 < V * W ^ k)
      (fun st => (st.2.2.1 + 1).toNat) ⟨x.length - L, rfl, Nat.le_refl _, hul, rng_append.2 ⟨hXr, rng_replicate (by decide)⟩, by simp, rng_replicate (by decide), fun j _ => zero_replicate _ 0 j (Nat.zero_le _),
        by simp only; rw [vl_append, vl_replicate, vl_replicate, hXv]; omega, by simp only; rw [vl_append, vl_replicate, hXv]; simpa using hXlt⟩ ?_
    rintro ⟨u, out, i, ⟨⟩⟩ G ⟨k, hi, g1, g2, g3, g4, g5, g6, g7, g8⟩ hG
    simp only at hi g2 g3 g4 g5 g6 g7 g8
    subst hi
    simp only
    refine Br_of (fun hb => ?_) (fun hb => ?_)
    · have hk : 0 < k := by have := of_decide_eq_true hb; omega
      obtain ⟨m, rfl⟩ : ∃ m, k = m + 1 := ⟨k - 1, by omega⟩
      have em : ((m + 1 : Nat) : Int) - 1 = (m : Int) := by omega
      have w6 : IntKind.i64.wrap ((m : Int) + ((L + 1 : Nat) : Int)) = ((m + L + 1 : Nat) : Int) := by rw [wrap_i64 (by omega) (by omega)]; omega
      have w7 : IntKind.i64.wrap (((m + L + 1 : Nat) : Int) + 1) = ((m + L + 2 : Nat) : Int) := by rw [wrap_i64 (by omega) (by omega)]; omega
      have w8 : IntKind.i64.wrap ((m : Int) - 1) = (m : Int) - 1 := wrap_i64 (by omega) (by omega)
      have w9 : ((m + L + 2 : Nat) : Int) - (m : Int) = ((L + 2 : Nat) : Int) := by omega
      simp only [em, w6, w7, w8, w9, Int.toNat_natCast]
      have hwin : winOK u (m : Int) ((L + 2 : Nat) : Int) := ⟨g3, by omega, by omega, by omega, by omega⟩
      obtain ⟨a, ws, c, eu, q2, q3, q4, q5, q6, q7, q8⟩ := win_split hwin
      simp only [Int.toNat_natCast] at q2 q3 q8
      have vu : vl W u = vl W a + W ^ m * (vl W ws + W ^ (L + 2) * vl W c) := by
        rw [eu, List.append_assoc, vl_append, vl_append, q2, q3]
      have hsum : vl W ws + W ^ (L + 2) * vl W c < V * W := by
        have h1 : W ^ m * (vl W ws + W ^ (L + 2) * vl W c) < W ^ m * (V * W) := by
          have h2 : V * W ^ (m + 1) = W ^ m * (V * W) := by rw [Nat.pow_succ, Nat.mul_left_comm]
          omega
        exact Nat.lt_of_mul_lt_mul_left h1
      have hc0 : vl W c = 0 := by
        rcases Nat.eq_zero_or_pos (vl W c) with h | h
        · exact h
        · exfalso
          have h1 := Nat.mul_le_mul_left (W ^ (L + 2)) h
          have h2 : V * W < W ^ (L + 1) * W := Nat.mul_lt_mul_of_pos_right hV1 (by decide)
          have h3 : W ^ (L + 1) * W = W ^ (L + 2) := (Nat.pow_succ W (L + 1)).symm
          rw [h3] at h2
          omega
      rw [hc0, Nat.mul_zero, Nat.add_zero] at vu hsum
      have pre : preR u (m : Int) ((L + 2 : Nat) : Int) v [] := ⟨hwin, ⟨hVc, by unfold LEN; omega⟩, rfl, by omega, by rw [q7, hVv]; exact hsum⟩
      have hqW : vl W ws / V < W := by rw [Nat.div_lt_iff_lt_mul hVp, Nat.mul_comm]; exact hsum
      have eq : quoW u (m : Int) ((L + 2 : Nat) : Int) v = ((vl W ws / V : Nat) : Int) := by unfold quoW; rw [q7, hVv]
      have enew : newR u (m : Int) ((L + 2 : Nat) : Int) v [] = a ++ fdg (L + 2) (vl W ws % V) ++ c := by unfold newR; rw [q8, q7, hVv]
      have hmodlt := Nat.mod_lt (vl W ws) hVp
      have hdm := Nat.div_add_mod (vl W ws) V
      have hfd : vl W (fdg (L + 2) (vl W ws % V)) = vl W ws % V := vl_fdg _ _ (by
        have : W ^ (L + 1) ≤ W ^ (L + 2) := Nat.pow_le_pow_right (by decide) (by omega)
        omega)
      refine ⟨by omega, by omega, by omega, pre, by omega, by omega, by omega, by omega, ?_⟩
      rw [eq, enew]
      have vu' : vl W (a ++ fdg (L + 2) (vl W ws % V) ++ c) = vl W a + W ^ m * (vl W ws % V) := by
        rw [List.append_assoc, vl_append, vl_append, hc0, hfd, q2, Nat.mul_zero, Nat.add_zero]
      have hal := vl_lt q4
      rw [q2] at hal
      refine hG _ ⟨m, rfl, by omega, ?_, rng_append.2 ⟨rng_append.2 ⟨q4, fdg_rng _ _⟩, q6⟩, by simpa using g4, rng_set g5 ⟨Int.natCast_nonneg _, Int.ofNat_lt.2 hqW⟩, fun j hj => ?_, ?_, ?_⟩ ?_
      · show (a ++ fdg (L + 2) (vl W ws % V) ++ c).length = x.length + 1
        rw [← g2, eu]; simp [fdg_len, q3]
      · show (List.set out m ((vl W ws / V : Nat) : Int)).getD j 0 = 0
        rw [getD_set, if_neg (by omega)]
        exact g6 j (by omega)
      · show U = vl W (a ++ fdg (L + 2) (vl W ws % V) ++ c) + V * vl W (List.set out m ((vl W ws / V : Nat) : Int))
        rw [vu', vl_set0 (by omega) (g6 m (by omega)), Int.toNat_natCast, g7, vu, Nat.mul_add]
        have h1 := congrArg (fun z => W ^ m * z) hdm
        simp only [Nat.mul_add] at h1
        have h2 : V * (W ^ m * (vl W ws / V)) = W ^ m * (V * (vl W ws / V)) := Nat.mul_left_comm _ _ _
        omega
      · show vl W (a ++ fdg (L + 2) (vl W ws % V) ++ c) < V * W ^ m
        rw [vu']
        have h1 := Nat.mul_le_mul_left (W ^ m) (Nat.succ_le_of_lt hmodlt)
        rw [Nat.mul_succ, Nat.mul_comm (W ^ m) V] at h1
        omega
      · show ((m : Int) - 1 + 1).toNat < (((m + 1 : Nat) : Int) - 1 + 1).toNat
        omega
    · have hk : k = 0 := by have := of_decide_eq_false hb; omega
      subst hk
      rw [Nat.pow_zero, Nat.mul_one] at g8
      have hq1 : nt x / nt y = vl W out := by rw [← hquo, g7, Nat.add_mul_div_left _ _ hVp, Nat.div_eq_of_lt g8, Nat.zero_add]
      have hq2 : nt x % nt y * 2 ^ s = vl W u := by rw [← hmod, g7, Nat.add_mul_mod_self_left, Nat.mod_eq_of_lt g8]
      have etr : trm u = tn (vl W u) := rfl
      have hlu : (tn (vl W u)).length ≤ x.length + 1 := len_tn (by rw [← g2]; exact vl_lt g3)
      refine ⟨⟨g5, by unfold LEN2; omega⟩, ⟨g3, by unfold LEN2; omega⟩, ⟨by rw [etr]; exact ⟨tn_rng _, by unfold LEN; omega⟩, by omega, by omega⟩, ?_⟩
      show (tn (vl W out), tn (nt (tn (vl W u)) / 2 ^ (s : Int).toNat), ()) = _
      rw [nt_tn, Int.toNat_natCast, ← hq2, Nat.mul_div_cancel _ hsp, hq1]

end Ta
end
section
/- Natural numbers: the greatest common divisor, the root, and what is too large. -/
set_option linter.unusedVariables false
set_option linter.unusedSimpArgs false
set_option maxRecDepth 100000
namespace Ta
open Go Fw Go.Proofs Pl

theorem okM_N {x : List Int} (h : okM x) : okN x := ⟨h.1, by have := h.2; unfold LEN; omega⟩
theorem okM_tn {n k : Nat} (h : n < W ^ k) (hk : k ≤ 100000000) : okM (tn n) := ⟨tn_can n, Nat.le_trans (len_tn h) hk⟩
theorem nt_lt {x : List Int} (h : can W x) : nt x < W ^ x.length := vl_lt h.1
theorem len_pos_nt {x : List Int} (h : can W x) : 0 < x.length ↔ 0 < nt x := by
  constructor
  · intro h1; exact vl_pos W2 h (List.length_pos_iff.1 h1)
  · intro h1
    rcases Nat.eq_zero_or_pos x.length with h0 | h0
    · rw [List.eq_nil_of_length_eq_zero h0] at h1; exact absurd h1 (by decide)
    · exact h0

theorem vc108 : ∀ x, C108.pre x → VC T108 H108 Tryd.f67 C108 x := by
  rintro ⟨(x : List Int), (y : List Int), ⟨⟩⟩ ⟨hx, hy⟩
  refine cast (α := ∃ (n : Nat), itl (fun (G : List Int × List Int × PUnit → Prop) (x_1 : List Int × List Int × PUnit) => Br (decide ((↑(List.length x_1.snd.fst) : Int) > (0 : Int))) ((Pl.okM x_1.1 ∧ Pl.okM x_1.snd.1 ∧ x_1.snd.1 ≠ []) ∧ G (x_1.snd.1, Pl.remN x_1.1 x_1.snd.1, ())) ((x_1.1, ()) = C108.post (x, y, ()))) n (x, y, ())) (by kernel_rfl) ?_
  have e : C108.post (x, y, ()) = (tn (Nat.gcd (nt x) (nt y)), ()) := rfl
  rw [e]
  refine itl_rule (fun s => okM s.1 ∧ okM s.2.1 ∧ Nat.gcd (nt s.1) (nt s.2.1) = Nat.gcd (nt x) (nt y)) (fun s => nt s.2.1) ⟨hx, hy, rfl⟩ ?_
  rintro ⟨a, b, ⟨⟩⟩ G ⟨ha, hb, hg⟩ hG
  simp only at ha hb hg
  simp only
  refine Br_of (fun h => ?_) (fun h => ?_)
  · have h0 : 0 < b.length := by have := of_decide_eq_true h; omega
    have hp := (len_pos_nt hb.1).1 h0
    have hlt := Nat.mod_lt (nt a) hp
    have hok : okM (tn (nt a % nt b)) := okM_tn (Nat.lt_trans hlt (nt_lt hb.1)) hb.2
    refine ⟨⟨ha, hb, List.length_pos_iff.1 h0⟩, hG _ ⟨hb, hok, ?_⟩ ?_⟩
    · show Nat.gcd (nt b) (nt (tn (nt a % nt b))) = _
      rw [nt_tn, Nat.gcd_comm, ← Nat.gcd_rec, Nat.gcd_comm]; exact hg
    · show nt (tn (nt a % nt b)) < nt b
      rw [nt_tn]; exact hlt
  · have h0 : ¬ 0 < b.length := by have := of_decide_eq_false h; omega
    rw [len_pos_nt hb.1] at h0
    have h1 : nt b = 0 := by omega
    rw [h1, Nat.gcd_zero_right] at hg
    rw [← hg, tn_nt (okM_N ha)]

theorem sqrtF_spec : ∀ (k n : Nat), sqrtF k n ≤ k ∧ sqrtF k n * sqrtF k n ≤ n ∧ ∀ j, j ≤ k → j * j ≤ n → j ≤ sqrtF k n
  | 0, n => ⟨Nat.le_refl _, Nat.zero_le _, fun j h _ => h⟩
  | k + 1, n => by
    unfold sqrtF
    by_cases h : (k + 1) * (k + 1) ≤ n
    · rw [if_pos h]
      exact ⟨Nat.le_refl _, h, fun j hj _ => hj⟩
    · rw [if_neg h]
      obtain ⟨h1, h2, h3⟩ := sqrtF_spec k n
      refine ⟨by omega, h2, fun j hj hs => h3 j ?_ hs⟩
      rcases Nat.lt_or_ge k j with h4 | h4
      · have : j = k + 1 := by omega
        subst this; exact absurd hs h
      · exact h4
def sq (n : Nat) : Nat := sqrtF n n
theorem sq_le (n : Nat) : sq n * sq n ≤ n := (sqrtF_spec n n).2.1
theorem le_sq {n j : Nat} (h : j * j ≤ n) : j ≤ sq n := (sqrtF_spec n n).2.2 j (Nat.le_trans (Nat.le_mul_self j) h) h
theorem sq_lt (n : Nat) : n < (sq n + 1) * (sq n + 1) := by
  rcases Nat.lt_or_ge n ((sq n + 1) * (sq n + 1)) with h | h
  · exact h
  · have := le_sq h; omega
/-- A step of Newton's is never below the root. -/
theorem newton {n r : Nat} (hr : 0 < r) : sq n ≤ (r + n / r) / 2 := by
  have h1 : 2 * sq n ≤ r + n / r := by
    rcases Nat.lt_or_ge r (2 * sq n) with h | h
    · have h2 : (2 * sq n - r) ≤ n / r := by
        rw [Nat.le_div_iff_mul_le hr]
        refine Nat.le_trans ?_ (sq_le n)
        generalize sq n = s at h
        obtain ⟨d, hd⟩ : ∃ d, d + r = 2 * s := ⟨2 * s - r, by omega⟩
        have e : 2 * s - r = d := by omega
        rw [e]
        have h4 : 4 * (d * r) ≤ (d + r) * (d + r) := by
          rcases Nat.le_total d r with h5 | h5
          · obtain ⟨t, rfl⟩ : ∃ t, r = d + t := ⟨r - d, by omega⟩
            simp only [Nat.mul_add, Nat.add_mul, Nat.mul_comm t d]; omega
          · obtain ⟨t, rfl⟩ : ∃ t, d = r + t := ⟨d - r, by omega⟩
            simp only [Nat.mul_add, Nat.add_mul, Nat.mul_comm t r]; omega
        rw [hd] at h4
        have h6 : 2 * s * (2 * s) = 4 * (s * s) := by simp only [Nat.mul_left_comm, Nat.mul_assoc, Nat.mul_comm]
        omega
      omega
    · exact Nat.le_trans h (Nat.le_add_right _ _)
  omega

theorem vcx113 : ∀ x, C113.con.pre x → VCX T113 H0 Tryd.f32 C113 x := by
  rintro ⟨(x : List Int), ⟨⟩⟩ (hx : okN x)
  refine cast (α := Pl.okN x ∧ Br (decide (Pl.szN x > (40000 : Int))) (C113.pan (x, ()) = true) (C113.pan (x, ()) = false ∧ (x, ()) = C113.con.post (x, ()))) (by kernel_rfl) ?_
  have ep : C113.pan (x, ()) = decide (40000 < bsz (nt x)) := rfl
  have ec : C113.con.post (x, ()) = (x, ()) := rfl
  have es : szN x = ((bsz (nt x) : Nat) : Int) := rfl
  rw [ep, ec, es]
  refine ⟨hx, Br_of (fun h => ?_) (fun h => ?_)⟩
  · have := of_decide_eq_true h
    exact decide_eq_true (by omega)
  · have := of_decide_eq_false h
    exact ⟨decide_eq_false (by omega), rfl⟩

end Ta
end
section
/- Integers: signs, order, sums, products. -/
set_option linter.unusedVariables false
set_option linter.unusedSimpArgs false
set_option maxRecDepth 100000
namespace Ta
open Go Fw Go.Proofs Pl

theorem wrapi (x : Int) : IntKind.wrap .i64 x = (x + 9223372036854775808) % 18446744073709551616 - 9223372036854775808 := by
  unfold IntKind.wrap
  simp [IntKind.bits, IntKind.signed]
  omega
theorem iv_t (a : List Int) : iv (a, true, ()) = -((nt a : Nat) : Int) := rfl
theorem iv_f (a : List Int) : iv (a, false, ()) = ((nt a : Nat) : Int) := rfl
theorem natAbs_iv (z : Zv) : (iv z).natAbs = nt z.1 := by
  unfold iv; split <;> omega
theorem can_tn' {a : List Int} (h : can W a) : tn (nt a) = a := dg_vl W2 h
theorem nt_zero {a : List Int} (h : can W a) : nt a = 0 ↔ a = [] := by
  constructor
  · intro h0
    rcases List.eq_nil_or_concat a with h1 | ⟨l, x, h1⟩
    · exact h1
    · have := (len_pos_nt h).1 (by rw [h1]; simp)
      omega
  · rintro rfl; rfl
theorem nt_pos {a : List Int} (h : can W a) (h0 : a ≠ []) : 0 < nt a := (len_pos_nt h).1 (List.length_pos_iff.2 h0)
theorem sgn_mk {a : List Int} (h : can W a) (s : Bool) : sgn a s = mkI (if s then -((nt a : Nat) : Int) else ((nt a : Nat) : Int)) := by
  have e : ((if s then -((nt a : Nat) : Int) else ((nt a : Nat) : Int))).natAbs = nt a := by split <;> omega
  unfold mkI sgn
  rw [e, can_tn' h]
  congr 2
  cases s with
  | false =>
    simp only [Bool.false_and, Bool.false_eq_true, if_false]
    exact (decide_eq_false (by omega)).symm
  | true =>
    simp only [Bool.true_and, if_true]
    have := len_pos_nt h
    exact decide_eq_decide.2 ⟨fun k => by have := this.1 (by omega); omega, fun k => by have := this.2 (by omega); omega⟩
theorem sgn_tn (k : Nat) (s : Bool) : sgn (tn k) s = mkI (if s then -((k : Nat) : Int) else ((k : Nat) : Int)) := by
  rw [sgn_mk (tn_can k), nt_tn]
theorem okI_can {a : List Int} {s : Bool} (h : okI (a, s, ())) : can W a := h.1
theorem okI_ne {a : List Int} (h : okI (a, true, ())) : a ≠ [] := h.2.2 rfl
theorem okI_pos {a : List Int} (h : okI (a, true, ())) : 0 < nt a := nt_pos (okI_can h) (okI_ne h)
theorem okI_len {a : List Int} {s : Bool} (h : okI (a, s, ())) : a.length ≤ 10000000 := h.2.1
theorem mk_iv {z : Zv} (h : okI z) : mkI (iv z) = z := by
  obtain ⟨a, s, ⟨⟩⟩ := z
  obtain ⟨h1, h2, h3⟩ := h
  have := sgn_mk h1 s
  have e : mkI (iv (a, s, ())) = sgn a s := by rw [this]; rfl
  rw [e]
  unfold sgn
  cases s with
  | false => rfl
  | true =>
    have h4 : 0 < a.length := List.length_pos_iff.2 (h3 rfl)
    rw [decide_eq_true (by omega)]; rfl
theorem iv_mk (n : Int) : iv (mkI n) = n := by
  unfold iv mkI
  simp only [nt_tn]
  by_cases h : n < 0
  · rw [decide_eq_true h, if_pos rfl]; omega
  · rw [decide_eq_false h]; simp only [Bool.false_eq_true, if_false]; omega
theorem mk0 : mkI 0 = ([], false, ()) := rfl
theorem okI_mk {n : Int} {k : Nat} (h : n.natAbs < W ^ k) (hk : k ≤ 10000000) : okI (mkI n) := by
  refine ⟨tn_can _, Nat.le_trans (len_tn h) hk, fun h1 => ?_⟩
  have h2 : n < 0 := of_decide_eq_true h1
  intro h3
  have : nt (tn n.natAbs) = 0 := by
    have h4 : tn n.natAbs = [] := h3
    rw [h4]; rfl
  rw [nt_tn] at this
  omega
theorem okI_M {z : Zv} (h : okI z) : okM z.1 := ⟨h.1, by have := h.2.1; omega⟩
theorem okI_N {z : Zv} (h : okI z) : okN z.1 := okM_N (okI_M h)
theorem okI_R {z : Zv} (h : okI z) : rgN z.1 := okN_rng (okI_N h)
def Pl.KI : Nat := 10000000
theorem okI_lt {z : Zv} (h : okI z) : nt z.1 < W ^ KI := Nat.lt_of_lt_of_le (nt_lt h.1) (Nat.pow_le_pow_right (by decide) h.2.1)
theorem iv_nil {z : Zv} (h : okI z) : iv z = 0 ↔ z.1 = [] := by
  rw [← nt_zero h.1]
  have := natAbs_iv z
  omega

theorem vc106 : ∀ x, C106.pre x → VC T106 H0 Tryd.f12 C106 x := by
  rintro ⟨(a : List Int), (b : Bool), ⟨⟩⟩ -
  refine cast (α := Br b (((a, decide ((↑a.length : Int) > (0 : Int)), ()), ()) = C106.post (a, b, ())) (((a, false, ()), ()) = C106.post (a, b, ()))) (by kernel_rfl) ?_
  have e : C106.post (a, b, ()) = ((a, b && decide (0 < (a.length : Int)), ()), ()) := rfl
  rw [e]
  cases b <;> rfl

theorem ordI_neg {x : Int} (h : x < 0) : ordI x 0 = -1 := if_pos h
theorem ordI_pos {x : Int} (h : 0 < x) : ordI x 0 = 1 := by unfold ordI; rw [if_neg (by omega), if_pos h]
theorem ordI_zero {x : Int} (h : x = 0) : ordI x 0 = 0 := by subst h; rfl
theorem vc21 : ∀ x, C21.pre x → VC T21 H0 Tryd.f40 C21 x := by
  rintro ⟨⟨(a : List Int), (s : Bool), ⟨⟩⟩, ⟨⟩⟩ (h : okI (a, s, ()))
  refine cast (α := Br s (((-1 : Int), ()) = C21.post ((a, s, ()), ())) (Br (decide ((↑a.length : Int) > (0 : Int))) (((1 : Int), ()) = C21.post ((a, s, ()), ())) (((0 : Int), ()) = C21.post ((a, s, ()), ())))) (by kernel_rfl) ?_
  have e : C21.post ((a, s, ()), ()) = (ordI (iv (a, s, ())) 0, ()) := rfl
  rw [e]
  refine Br_of (fun hs => ?_) (fun hs => Br_of (fun hb => ?_) (fun hb => ?_))
  · subst hs
    rw [ordI_neg (by rw [iv_t]; have := okI_pos h; omega)]
  · subst hs
    have h5 : 0 < a.length := by have := of_decide_eq_true hb; omega
    have h4 : 0 < nt a := (len_pos_nt (okI_can h)).1 h5
    rw [ordI_pos (by rw [iv_f]; omega)]
  · subst hs
    have : a = [] := List.eq_nil_of_length_eq_zero (by have := of_decide_eq_false hb; omega)
    subst this
    rfl

theorem vc50 : ∀ x, C50.pre x → VC T50 H0 Tryd.f66 C50 x := by
  rintro ⟨⟨(a : List Int), (s : Bool), ⟨⟩⟩, ⟨⟩⟩ (h : okI (a, s, ()))
  refine cast (α := True ∧ (((Pl.sgn a !s).1, (Pl.sgn a !s).snd.fst, ()), ()) = C50.post ((a, s, ()), ())) (by kernel_rfl) ?_
  refine ⟨trivial, ?_⟩
  show (sgn a (!s), ()) = (mkI (-(iv (a, s, ()))), ())
  rw [sgn_mk h.1]
  cases s
  · rfl
  · rw [iv_t]; simp

theorem ordI_lt {x y : Int} (h : x < y) : ordI x y = -1 := if_pos h
theorem ordI_gt {x y : Int} (h : y < x) : ordI x y = 1 := by unfold ordI; rw [if_neg (by omega), if_pos h]
theorem ordI_self (x : Int) : ordI x x = 0 := by unfold ordI; rw [if_neg (by omega), if_neg (by omega)]
theorem cmp_ord (a b : List Int) : cmp a b = ordI ((nt a : Nat) : Int) ((nt b : Nat) : Int) := by
  show cmpN (nt a) (nt b) = _
  rcases Nat.lt_trichotomy (nt a) (nt b) with h | h | h
  · rw [cmpN_lt h, ordI_lt (by omega)]
  · rw [h, cmpN_self, ordI_self]
  · rw [cmpN_gt h, ordI_gt (by omega)]
theorem ordI_negs (x y : Int) : ordI (-x) (-y) = ordI y x := by
  rcases Int.lt_trichotomy x y with h | h | h
  · rw [ordI_gt h, ordI_gt (by omega)]
  · rw [h, ordI_self, ordI_self]
  · rw [ordI_lt h, ordI_lt (by omega)]
theorem vc52 : ∀ x, C52.pre x → VC T52 H0 Tryd.f10 C52 x := by
  rintro ⟨⟨(a : List Int), (s : Bool), ⟨⟩⟩, ⟨(b : List Int), (t : Bool), ⟨⟩⟩, ⟨⟩⟩ ⟨(h : okI (a, s, ())), (k : okI (b, t, ()))⟩
  refine cast (α := Br (!s == t) (Br s (((-1 : Int), ()) = C52.post ((a, s, ()), (b, t, ()), ())) (((1 : Int), ()) = C52.post ((a, s, ()), (b, t, ()), ()))) (Br s ((Pl.okN b ∧ Pl.okN a) ∧ (Pl.cmp b a, ()) = C52.post ((a, s, ()), (b, t, ()), ())) ((Pl.okN a ∧ Pl.okN b) ∧ (Pl.cmp a b, ()) = C52.post ((a, s, ()), (b, t, ()), ())))) (by kernel_rfl) ?_
  have e : C52.post ((a, s, ()), (b, t, ()), ()) = (ordI (iv (a, s, ())) (iv (b, t, ())), ()) := rfl
  rw [e]
  cases s <;> cases t
  · refine ⟨⟨okI_N h, okI_N k⟩, ?_⟩
    rw [cmp_ord]; rfl
  · have := okI_pos k
    rw [ordI_gt (by rw [iv_f, iv_t]; omega)]
    rfl
  · have := okI_pos h
    rw [ordI_lt (by rw [iv_f, iv_t]; omega)]
    rfl
  · refine ⟨⟨okI_N k, okI_N h⟩, ?_⟩
    rw [cmp_ord, iv_t, iv_t, ordI_negs]

theorem vc75 : ∀ x, C75.pre x → VC T75 H0 Tryd.f4 C75 x := by
  rintro ⟨(n : Int), ⟨⟩⟩ ⟨h1, h2⟩
  refine cast (α := Br (decide (n < (0 : Int))) (((0 : Int) ≤ IntKind.u64.wrap ((0 : Int) - IntKind.u64.wrap n) ∧ IntKind.u64.wrap ((0 : Int) - IntKind.u64.wrap n) < (18446744073709551616 : Int)) ∧ True ∧ (((Pl.sgn (Pl.tnI (IntKind.u64.wrap ((0 : Int) - IntKind.u64.wrap n))) true).1, (Pl.sgn (Pl.tnI (IntKind.u64.wrap ((0 : Int) - IntKind.u64.wrap n))) true).snd.fst, ()), ()) = C75.post (n, ())) (((0 : Int) ≤ IntKind.u64.wrap n ∧ IntKind.u64.wrap n < (18446744073709551616 : Int)) ∧ True ∧ (((Pl.sgn (Pl.tnI (IntKind.u64.wrap n)) false).1, (Pl.sgn (Pl.tnI (IntKind.u64.wrap n)) false).snd.fst, ()), ()) = C75.post (n, ()))) (by kernel_rfl) ?_
  simp only at h1 h2
  refine Br_of (fun hb => ?_) (fun hb => ?_)
  · have hn := of_decide_eq_true hb
    have e : IntKind.u64.wrap ((0 : Int) - IntKind.u64.wrap n) = -n := by rw [wrap_u64, wrap_u64]; omega
    rw [e]
    refine ⟨⟨by omega, by omega⟩, trivial, ?_⟩
    show (sgn (tn (-n).toNat) true, ()) = (mkI n, ())
    rw [sgn_tn, if_pos rfl]
    congr 2
    omega
  · have hn := of_decide_eq_false hb
    have e : IntKind.u64.wrap n = n := by rw [wrap_u64]; omega
    rw [e]
    refine ⟨⟨by omega, by omega⟩, trivial, ?_⟩
    show (sgn (tn n.toNat) false, ()) = (mkI n, ())
    rw [sgn_tn]
    simp only [Bool.false_eq_true, if_false]
    congr 2
    omega

theorem vc92 : ∀ x, C92.pre x → VC T92 H0 Tryd.f49 C92 x := by
  rintro ⟨⟨(a : List Int), (s : Bool), ⟨⟩⟩, ⟨(b : List Int), (t : Bool), ⟨⟩⟩, ⟨⟩⟩ ⟨(h : okI (a, s, ())), (k : okI (b, t, ()))⟩
  refine cast (α := (Pl.rgN a ∧ Pl.rgN b) ∧ True ∧ (((Pl.sgn (Pl.mulN a b) !s == t).1, (Pl.sgn (Pl.mulN a b) !s == t).snd.fst, ()), ()) = C92.post ((a, s, ()), (b, t, ()), ())) (by kernel_rfl) ?_
  refine ⟨⟨okI_R h, okI_R k⟩, trivial, ?_⟩
  show (sgn (tn (nt a * nt b)) (!(s == t)), ()) = (mkI (iv (a, s, ()) * iv (b, t, ())), ())
  rw [sgn_tn]
  cases s <;> cases t
  · rfl
  · rw [iv_f, iv_t, Int.mul_neg]; rfl
  · rw [iv_f, iv_t, Int.neg_mul]; rfl
  · rw [iv_t, iv_t, Int.neg_mul_neg]; rfl

theorem vc89 : ∀ x, C89.pre x → VC T89 H0 Tryd.f51 C89 x := by
  rintro ⟨⟨(a : List Int), (s : Bool), ⟨⟩⟩, ⟨(b : List Int), (t : Bool), ⟨⟩⟩, ⟨⟩⟩ ⟨(h : okI (a, s, ())), (k : okI (b, t, ()))⟩
  refine cast (α := Br (s == t) ((Pl.rgN a ∧ Pl.rgN b) ∧ True ∧ (((Pl.sgn (Pl.addN a b) s).1, (Pl.sgn (Pl.addN a b) s).snd.fst, ()), ()) = C89.post ((a, s, ()), (b, t, ()), ())) ((Pl.okN a ∧ Pl.okN b) ∧ Br (decide (Pl.cmp a b ≥ (0 : Int))) ((Pl.okN a ∧ Pl.okN b ∧ Pl.leN b a) ∧ True ∧ (((Pl.sgn (Pl.subN a b) s).1, (Pl.sgn (Pl.subN a b) s).snd.fst, ()), ()) = C89.post ((a, s, ()), (b, t, ()), ())) ((Pl.okN b ∧ Pl.okN a ∧ Pl.leN a b) ∧ True ∧ (((Pl.sgn (Pl.subN b a) t).1, (Pl.sgn (Pl.subN b a) t).snd.fst, ()), ()) = C89.post ((a, s, ()), (b, t, ()), ())))) (by kernel_rfl) ?_
  have e : C89.post ((a, s, ()), (b, t, ()), ()) = (mkI (iv (a, s, ()) + iv (b, t, ())), ()) := rfl
  rw [e, cmp_ord]
  refine Br_of (fun hb => ?_) (fun hb => ⟨⟨okI_N h, okI_N k⟩, Br_of (fun hc => ?_) (fun hc => ?_)⟩)
  · have hst : s = t := by simpa using hb
    subst hst
    refine ⟨⟨okI_R h, okI_R k⟩, trivial, ?_⟩
    show (sgn (tn (nt a + nt b)) s, ()) = _
    rw [sgn_tn]
    cases s
    · rfl
    · rw [iv_t, iv_t]
      simp only [if_true]
      congr 2; omega
  · have hle : nt b ≤ nt a := by
      have := of_decide_eq_true hc
      rcases Nat.lt_or_ge (nt a) (nt b) with h1 | h1
      · rw [ordI_lt (by omega)] at this; exact absurd this (by decide)
      · exact h1
    refine ⟨⟨okI_N h, okI_N k, hle⟩, trivial, ?_⟩
    show (sgn (tn (nt a - nt b)) s, ()) = _
    rw [sgn_tn]
    cases s <;> cases t
    · cases hb
    · rw [iv_f, iv_t]
      simp only [Bool.false_eq_true, if_false]
      congr 2; omega
    · rw [iv_f, iv_t]
      simp only [if_true]
      congr 2; omega
    · cases hb
  · have hlt : nt a < nt b := by
      have := of_decide_eq_false hc
      rcases Nat.lt_or_ge (nt a) (nt b) with h1 | h1
      · exact h1
      · exfalso
        apply this
        unfold ordI
        rw [if_neg (by omega)]
        split <;> decide
    refine ⟨⟨okI_N k, okI_N h, Nat.le_of_lt hlt⟩, trivial, ?_⟩
    show (sgn (tn (nt b - nt a)) t, ()) = _
    rw [sgn_tn]
    cases s <;> cases t
    · cases hb
    · rw [iv_f, iv_t]
      simp only [if_true]
      congr 2; omega
    · rw [iv_f, iv_t]
      simp only [Bool.false_eq_true, if_false]
      congr 2; omega
    · cases hb

theorem vcx90 : ∀ x, C90.con.pre x → VCX T90 H0 Tryd.f19 C90 x := by
  rintro ⟨⟨(a : List Int), (s : Bool), ⟨⟩⟩, ⟨⟩⟩ (h : okN a)
  refine cast (α := (∀ (A' : AState), finishX T90 Tryd.f19.results.toList C90 ((a, s, ()), ()) AX.pan A') ∧ (Pl.okN a ∧ C113.pan (a, ()) = true) ∧ True ∨ (Pl.okN a ∧ C113.pan (a, ()) = false) ∧ C90.pan ((a, s, ()), ()) = false ∧ ((a, s, ()), ()) = C90.con.post ((a, s, ()), ())) (by kernel_rfl) ?_
  cases hb : big a with
  | true => exact .inl ⟨fun _ => hb, ⟨h, hb⟩, trivial⟩
  | false => exact .inr ⟨⟨h, hb⟩, hb, rfl⟩

theorem vc48 : ∀ x, C48.pre x → VC T48 H0 Tryd.f5 C48 x := by
  rintro ⟨⟨(a : List Int), (s : Bool), ⟨⟩⟩, ⟨⟩⟩ (h : okI (a, s, ()))
  refine cast (α := (0 : Int) ≤ (0 : Int) ∧ Br (decide ((↑a.length : Int) > (1 : Int))) (((0 : Int), false, ()) = C48.post ((a, s, ()), ())) (Br (decide (Pl.wd a (0 : Int) > (9223372036854775808 : Int))) (((0 : Int), false, ()) = C48.post ((a, s, ()), ())) (Br (Pl.wd a (0 : Int) == (9223372036854775808 : Int)) (Br (!s) (((0 : Int), false, ()) = C48.post ((a, s, ()), ())) (Br s ((IntKind.i64.wrap ((0 : Int) - IntKind.i64.wrap (Pl.wd a (0 : Int))), true, ()) = C48.post ((a, s, ()), ())) ((IntKind.i64.wrap (Pl.wd a (0 : Int)), true, ()) = C48.post ((a, s, ()), ())))) (Br s ((IntKind.i64.wrap ((0 : Int) - IntKind.i64.wrap (Pl.wd a (0 : Int))), true, ()) = C48.post ((a, s, ()), ())) ((IntKind.i64.wrap (Pl.wd a (0 : Int)), true, ()) = C48.post ((a, s, ()), ())))))) (by kernel_rfl) ?_
  have e : C48.post ((a, s, ()), ()) = (if in64 (iv (a, s, ())) then iv (a, s, ()) else 0, in64 (iv (a, s, ())), ()) := rfl
  rw [e]
  have hout : ¬ (-9223372036854775808 ≤ iv (a, s, ()) ∧ iv (a, s, ()) < 9223372036854775808) → ((0 : Int), false, ()) = ((if in64 (iv (a, s, ())) then iv (a, s, ()) else 0), in64 (iv (a, s, ())), ()) := fun hn => by
    have : in64 (iv (a, s, ())) = false := decide_eq_false hn
    rw [this]; rfl
  have hin : ∀ v : Int, v = iv (a, s, ()) → (-9223372036854775808 ≤ iv (a, s, ()) ∧ iv (a, s, ()) < 9223372036854775808) → (v, true, ()) = ((if in64 (iv (a, s, ())) then iv (a, s, ()) else 0), in64 (iv (a, s, ())), ()) := fun v hv hn => by
    have : in64 (iv (a, s, ())) = true := decide_eq_true hn
    rw [this, hv]; rfl
  have habs := natAbs_iv (a, s, ())
  simp only at habs
  refine ⟨Int.le_refl _, Br_of (fun hb => ?_) (fun hb => ?_)⟩
  · have h1 : 1 < a.length := by have := of_decide_eq_true hb; omega
    have h2 : W ^ 1 ≤ nt a := by
      have := vl_ge W2 h.1 (by intro e; rw [show a = [] from e] at h1; exact absurd h1 (by decide))
      refine Nat.le_trans (Nat.pow_le_pow_right (by decide) ?_) this
      show 1 ≤ a.length - 1
      omega
    rw [Nat.pow_one, W_eq] at h2
    exact hout (by omega)
  · have h1 : a.length ≤ 1 := by have := of_decide_eq_false hb; omega
    have hw : nt a = (wd a 0).toNat := by
      match a, h1 with
      | [], _ => rfl
      | [x], _ => show x.toNat + W * 0 = x.toNat; omega
    have hwr : 0 ≤ wd a 0 ∧ wd a 0 < 18446744073709551616 := rngW h.1.1 0
    generalize wd a 0 = y at hw hwr ⊢
    have hs : (s = true → iv (a, s, ()) = -y) ∧ (s = false → iv (a, s, ()) = y) := by
      constructor
      · rintro rfl; rw [iv_t]; omega
      · rintro rfl; rw [iv_f]; omega
    generalize iv (a, s, ()) = v at hout hin habs hs ⊢
    have w1 : y < 9223372036854775808 → IntKind.i64.wrap y = y := fun hy => wrap_i64 (by omega) (by omega)
    have w2 : y ≤ 9223372036854775808 → IntKind.i64.wrap ((0 : Int) - IntKind.i64.wrap y) = -y := fun hy => by rw [wrapi, wrapi]; omega
    refine Br_of (fun hc => hout ?_) (fun hc => Br_of (fun hd => Br_of (fun hs' => hout ?_) (fun hs' => Br_of (fun hs2 => hin _ ?_ ?_) (fun hs2 => ?_))) (fun hd => Br_of (fun hs2 => hin _ ?_ ?_) (fun hs2 => hin _ ?_ ?_)))
    · have := of_decide_eq_true hc
      cases s
      · have := hs.2 rfl; omega
      · have := hs.1 rfl; omega
    · have hy : y = 9223372036854775808 := by simpa using hd
      cases s
      · have := hs.2 rfl; omega
      · cases hs'
    · have hy : y = 9223372036854775808 := by simpa using hd
      rw [w2 (by omega), hs.1 hs2]
    · have hy : y = 9223372036854775808 := by simpa using hd
      have := hs.1 hs2; omega
    · subst hs2; cases hs'
    · have := of_decide_eq_false hc
      rw [w2 (by omega), hs.1 hs2]
    · have := of_decide_eq_false hc
      have := hs.1 hs2; omega
    · have h3 := of_decide_eq_false hc
      have h4 : y ≠ 9223372036854775808 := by simpa using hd
      rw [w1 (by omega), hs.2 hs2]
    · have h3 := of_decide_eq_false hc
      have h4 : y ≠ 9223372036854775808 := by simpa using hd
      have := hs.2 hs2; omega

end Ta
end
section
/- Integers: quotients; factorials and binomials. -/
set_option linter.unusedVariables false
set_option linter.unusedSimpArgs false
set_option maxRecDepth 100000
namespace Ta
open Go Fw Go.Proofs Pl

theorem divmod_of {x y q r : Int} (hy : 0 < y) (h : r + y * q = x) (h0 : 0 ≤ r) (h1 : r < y) : x / y = q ∧ x % y = r := (Int.ediv_emod_unique hy).2 ⟨h, h0, h1⟩
theorem vc76 : ∀ x, C76.pre x → VC T76 H0 Tryd.f41 C76 x := by
  rintro ⟨⟨(a : List Int), (s : Bool), ⟨⟩⟩, ⟨(b : List Int), (t : Bool), ⟨⟩⟩, ⟨⟩⟩ ⟨(h : okI (a, s, ())), (k : okI (b, t, ())), (hb : b ≠ [])⟩
  refine cast (α := (Pl.okM a ∧ Pl.okM b ∧ b ≠ []) ∧ Br s (Br (decide ((↑(Pl.remN a b).length : Int) > (0 : Int))) (((0 : Int) ≤ (1 : Int) ∧ (1 : Int) < (18446744073709551616 : Int)) ∧ (Pl.rgN (Pl.quoN a b) ∧ Pl.rgN (Pl.tnI (1 : Int))) ∧ (Pl.okN b ∧ Pl.okN (Pl.remN a b) ∧ Pl.leN (Pl.remN a b) b) ∧ True ∧ True ∧ (Pl.sgn (Pl.addN (Pl.quoN a b) (Pl.tnI (1 : Int))) !s == t, Pl.sgn (Pl.subN b (Pl.remN a b)) false, ()) = C76.post ((a, s, ()), (b, t, ()), ())) (True ∧ True ∧ (Pl.sgn (Pl.quoN a b) !s == t, Pl.sgn (Pl.remN a b) false, ()) = C76.post ((a, s, ()), (b, t, ()), ()))) (True ∧ True ∧ (Pl.sgn (Pl.quoN a b) !s == t, Pl.sgn (Pl.remN a b) false, ()) = C76.post ((a, s, ()), (b, t, ()), ()))) (by kernel_rfl) ?_
  have e : C76.post ((a, s, ()), (b, t, ()), ()) = (mkI (iv (a, s, ()) / iv (b, t, ())), mkI (iv (a, s, ()) % iv (b, t, ())), ()) := rfl
  rw [e]
  have hB := nt_pos (okI_can k) hb
  have hdm := Nat.div_add_mod (nt a) (nt b)
  have hlt := Nat.mod_lt (nt a) hB
  have hA : nt a < W ^ 10000000 ∨ True := .inr trivial
  have hq : nt a / nt b ≤ nt a := Nat.div_le_self _ _
  have eq1 : quoN a b = tn (nt a / nt b) := rfl
  have er1 : remN a b = tn (nt a % nt b) := rfl
  have hok : ∀ n, n ≤ nt a → okN (tn n) := fun n hn => by
    have h1 := nt_lt (okI_can h)
    have h2 := okI_len h
    exact okM_N (okM_tn (k := a.length) (by omega) (by omega))
  have hokb : ∀ n, n ≤ nt b → okN (tn n) := fun n hn => by
    have h1 := nt_lt (okI_can k)
    have h2 := okI_len k
    exact okM_N (okM_tn (k := b.length) (by omega) (by omega))
  rw [eq1, er1]
  -- what the quotient and the remainder are, by the sign of b
  have fin : ∀ (q r : Int), r + ((nt b : Nat) : Int) * q = iv (a, s, ()) → 0 ≤ r → r < ((nt b : Nat) : Int) → iv (a, s, ()) / iv (b, t, ()) = (if t then -q else q) ∧ iv (a, s, ()) % iv (b, t, ()) = r := fun q r h1 h2 h3 => by
    obtain ⟨k1, k2⟩ := divmod_of (by omega) h1 h2 h3
    cases t
    · exact ⟨k1, k2⟩
    · rw [iv_t]
      exact ⟨by rw [Int.ediv_neg, k1]; rfl, by rw [Int.emod_neg, k2]⟩
  have hmul : ∀ n : Nat, (((nt b) * n : Nat) : Int) = ((nt b : Nat) : Int) * (n : Int) := fun n => Int.natCast_mul _ _
  have hm1 := hmul (nt a / nt b)
  have body : ∀ (hs : s = false ∨ nt a % nt b = 0), ((sgn (tn (nt a / nt b)) !s == t), (sgn (tn (nt a % nt b)) false), ()) = ((mkI (iv (a, s, ()) / iv (b, t, ())), mkI (iv (a, s, ()) % iv (b, t, ())), ()) : Zv × Zv × Unit) := fun hs => by
    rw [sgn_tn, sgn_tn]
    have key := fin (if s then -((nt a / nt b : Nat) : Int) else ((nt a / nt b : Nat) : Int)) ((nt a % nt b : Nat) : Int) (by
      cases s
      · rw [iv_f]; simp only [Bool.false_eq_true, if_false]; rw [← hm1]; omega
      · have h0 := hs.resolve_left (by decide)
        rw [iv_t]; simp only [if_true]; rw [Int.mul_neg, ← hm1, h0]; omega) (by omega) (by omega)
    rw [key.1, key.2]
    cases s <;> cases t <;> simp
  refine ⟨⟨okI_M h, okI_M k, hb⟩, Br_of (fun hs => Br_of (fun hr => ?_) (fun hr => ?_)) (fun hs => ?_)⟩
  · subst hs
    have hr0 : 0 < nt a % nt b := by
      have h1 : 0 < (tn (nt a % nt b)).length := by have := of_decide_eq_true hr; omega
      have := (len_pos_nt (tn_can _)).1 h1
      rwa [nt_tn] at this
    refine ⟨⟨by decide, by decide⟩, ⟨okN_rng (hok _ hq), okN_rng (okM_N (okM_tn (n := 1) (k := 1) (by decide) (by decide)))⟩, ⟨okI_N k, hokb _ (Nat.le_of_lt hlt), ?_⟩, trivial, trivial, ?_⟩
    · show nt (tn (nt a % nt b)) ≤ nt b
      rw [nt_tn]; exact Nat.le_of_lt hlt
    · have e1 : addN (tn (nt a / nt b)) (tnI 1) = tn (nt a / nt b + 1) := by
        show tn (nt (tn (nt a / nt b)) + nt (tn 1)) = _
        rw [nt_tn, nt_tn]
      have e2 : subN b (tn (nt a % nt b)) = tn (nt b - nt a % nt b) := by
        show tn (nt b - nt (tn (nt a % nt b))) = _
        rw [nt_tn]
      rw [e1, e2]
      show (sgn (tn (nt a / nt b + 1)) (!(true == t)), sgn (tn (nt b - nt a % nt b)) false, ()) = _
      rw [sgn_tn, sgn_tn]
      have key := fin (-((nt a / nt b + 1 : Nat) : Int)) ((nt b - nt a % nt b : Nat) : Int) (by
        rw [iv_t, Int.mul_neg, ← hmul, Nat.mul_add]; omega) (by omega) (by omega)
      rw [key.1, key.2]
      cases t <;> simp
  · subst hs
    refine ⟨trivial, trivial, body (.inr ?_)⟩
    have h1 : ¬ 0 < (tn (nt a % nt b)).length := by have := of_decide_eq_false hr; omega
    have h2 := mt (len_pos_nt (tn_can (nt a % nt b))).2 h1
    rw [nt_tn] at h2
    omega
  · exact ⟨trivial, trivial, body (.inl hs)⟩

theorem ordI_eq0 {x : Int} : ordI x 0 = 0 ↔ x = 0 := by
  constructor
  · intro h
    rcases Int.lt_trichotomy x 0 with h1 | h1 | h1
    · rw [ordI_neg h1] at h; exact absurd h (by decide)
    · exact h1
    · rw [ordI_pos h1] at h; exact absurd h (by decide)
  · exact ordI_zero
theorem vc19 : ∀ x, C19.pre x → VC T19 H0 Tryd.f23 C19 x := by
  rintro ⟨⟨(a : List Int), (s : Bool), ⟨⟩⟩, ⟨(b : List Int), (t : Bool), ⟨⟩⟩, ⟨⟩⟩ ⟨(h : okI (a, s, ())), (k : okI (b, t, ()))⟩
  refine cast (α := Pl.okI (b, t, ()) ∧ Br (Pl.sgI (b, t, ()) == (0 : Int)) ((([], false, ()), ([], false, ()), (6 : Int), ()) = C19.post ((a, s, ()), (b, t, ()), ())) ((Pl.okI (a, s, ()) ∧ Pl.okI (b, t, ()) ∧ b ≠ []) ∧ Pl.okN (Pl.quI (a, s, ()) (b, t, ())).1 ∧ Br (decide (Pl.szN (Pl.quI (a, s, ()) (b, t, ())).1 > (40000 : Int))) ((([], false, ()), ([], false, ()), (11 : Int), ()) = C19.post ((a, s, ()), (b, t, ()), ())) ((Pl.quI (a, s, ()) (b, t, ()), Pl.reI (a, s, ()) (b, t, ()), (0 : Int), ()) = C19.post ((a, s, ()), (b, t, ()), ())))) (by kernel_rfl) ?_
  have e : C19.post ((a, s, ()), (b, t, ()), ()) = (dv1 (a, s, ()) (b, t, ()), dv2 (a, s, ()) (b, t, ()), dv3 (a, s, ()) (b, t, ()), ()) := rfl
  rw [e]
  have es : sgI (b, t, ()) = ordI (iv (b, t, ())) 0 := rfl
  rw [es]
  refine ⟨k, Br_of (fun hb => ?_) (fun hb => ?_)⟩
  · have h0 : iv (b, t, ()) = 0 := ordI_eq0.1 (by simpa using hb)
    unfold dv1 dv2 dv3
    rw [if_pos h0, if_pos h0, if_pos h0, mk0]
  · have h0 : iv (b, t, ()) ≠ 0 := fun h1 => by rw [ordI_eq0.2 h1] at hb; exact absurd hb (by decide)
    have hne : b ≠ [] := fun h1 => h0 ((iv_nil k).2 h1)
    have hq : (iv (a, s, ()) / iv (b, t, ())).natAbs ≤ nt a := by
      have := Int.natAbs_ediv_le_natAbs (iv (a, s, ())) (iv (b, t, ()))
      rw [natAbs_iv] at this
      exact this
    have e1 : (quI (a, s, ()) (b, t, ())).1 = tn (iv (a, s, ()) / iv (b, t, ())).natAbs := rfl
    have e2 : szN (quI (a, s, ()) (b, t, ())).1 = ((bsz (iv (a, s, ()) / iv (b, t, ())).natAbs : Nat) : Int) := by
      show ((bsz (nt (tn (iv (a, s, ()) / iv (b, t, ())).natAbs)) : Nat) : Int) = _
      rw [nt_tn]
    refine ⟨⟨h, k, hne⟩, ?_, ?_⟩
    · rw [e1]
      have h1 := nt_lt (okI_can h)
      have h2 := okI_len h
      exact okM_N (okM_tn (k := a.length) (by omega) (by omega))
    · rw [e2]
      unfold dv1 dv2 dv3
      rw [if_neg h0, if_neg h0, if_neg h0]
      refine Br_of (fun hc => ?_) (fun hc => ?_)
      · have hbig : bigI (iv (a, s, ()) / iv (b, t, ())) = true := decide_eq_true (by have := of_decide_eq_true hc; omega)
        rw [hbig]; rfl
      · have hbig : bigI (iv (a, s, ()) / iv (b, t, ())) = false := decide_eq_false (by have := of_decide_eq_false hc; omega)
        rw [hbig]
        rfl

/-! ### Factorials and binomials -/
theorem fac_pos : ∀ n, 0 < fac n
  | 0 => by decide
  | n + 1 => Nat.mul_pos (by omega) (fac_pos n)
theorem fac_le : ∀ n, n ≤ 1000 → fac n ≤ 2 ^ (10 * n)
  | 0, _ => by decide
  | n + 1, h => by
    have h1 := fac_le n (by omega)
    have e : 2 ^ (10 * (n + 1)) = 1024 * 2 ^ (10 * n) := by rw [Nat.mul_add, Nat.pow_add, Nat.mul_comm]
    rw [e]
    exact Nat.mul_le_mul (by omega) h1
theorem cho_le : ∀ n k, cho n k ≤ 2 ^ n
  | n, 0 => by rw [show cho n 0 = 1 by cases n <;> rfl]; exact Nat.two_pow_pos n
  | 0, k + 1 => Nat.zero_le _
  | n + 1, k + 1 => by
    have h1 := cho_le n k
    have h2 := cho_le n (k + 1)
    show cho n k + cho n (k + 1) ≤ _
    rw [Nat.pow_succ]; omega
theorem cho_zero (n : Nat) : cho n 0 = 1 := by cases n <;> rfl
theorem cho_succ (n k : Nat) : cho (n + 1) (k + 1) = cho n k + cho n (k + 1) := rfl
theorem cho_mul : ∀ n k, (n + 1) * cho n k = cho (n + 1) (k + 1) * (k + 1)
  | 0, 0 => rfl
  | 0, k + 1 => by
    show (0 + 1) * 0 = (cho 0 (k + 1) + cho 0 (k + 2)) * (k + 1 + 1)
    rw [show cho 0 (k + 1) = 0 from rfl, show cho 0 (k + 2) = 0 from rfl]
    simp
  | n + 1, 0 => by
    have h := cho_mul n 0
    rw [cho_zero, cho_succ (n + 1) 0, cho_zero] at *
    omega
  | n + 1, k + 1 => by
    have h1 := cho_mul n k
    have h2 := cho_mul n (k + 1)
    have e1 : cho (n + 1 + 1) (k + 1 + 1) = cho (n + 1) (k + 1) + cho (n + 1) (k + 1 + 1) := rfl
    have e2 : cho (n + 1) (k + 1) = cho n k + cho n (k + 1) := rfl
    rw [e1, Nat.add_mul (cho (n + 1) (k + 1)) (cho (n + 1) (k + 1 + 1)) (k + 1 + 1), ← h2]
    have e3 : cho (n + 1) (k + 1) * (k + 1 + 1) = (n + 1) * cho n k + cho (n + 1) (k + 1) := by rw [Nat.mul_succ, ← h1]
    rw [e3, Nat.succ_mul]
    have e4 : (n + 1) * cho (n + 1) (k + 1) = (n + 1) * cho n k + (n + 1) * cho n (k + 1) := by rw [e2, Nat.mul_add]
    omega
theorem cho_right {n k : Nat} (h : k ≤ n) : cho n (k + 1) * (k + 1) = cho n k * (n - k) := by
  have h1 := cho_mul n k
  rw [cho_succ, Nat.add_mul (cho n k) (cho n (k + 1)) (k + 1)] at h1
  have e : (n + 1) * cho n k = cho n k * (n - k) + cho n k * (k + 1) := by
    rw [← Nat.mul_add, show n - k + (k + 1) = n + 1 by omega, Nat.mul_comm]
  omega
theorem cho_fac : ∀ {n k : Nat}, k ≤ n → cho n k * (fac k * fac (n - k)) = fac n
  | n, 0, _ => by rw [cho_zero]; simp [fac]
  | n, k + 1, h => by
    have h1 := cho_fac (n := n) (k := k) (by omega)
    obtain ⟨m, hm⟩ : ∃ m, n - k = m + 1 := ⟨n - k - 1, by omega⟩
    have h2 := cho_right (n := n) (k := k) (by omega)
    rw [hm] at h1 h2
    rw [show n - (k + 1) = m by omega, ← h1]
    have e1 : fac (k + 1) = (k + 1) * fac k := rfl
    have e2 : fac (m + 1) = (m + 1) * fac m := rfl
    rw [e1, e2]
    have e3 : cho n (k + 1) * ((k + 1) * fac k * fac m) = cho n (k + 1) * (k + 1) * (fac k * fac m) := by simp only [Nat.mul_assoc]
    have e4 : cho n k * (fac k * ((m + 1) * fac m)) = cho n k * (m + 1) * (fac k * fac m) := by
      rw [Nat.mul_assoc, Nat.mul_left_comm (m + 1)]
    rw [e3, e4, h2]
theorem cho_sym {n k : Nat} (h : k ≤ n) : cho n (n - k) = cho n k := by
  have h1 := cho_fac h
  have h2 := cho_fac (n := n) (k := n - k) (by omega)
  rw [show n - (n - k) = k by omega, Nat.mul_comm (fac (n - k)), ← h1] at h2
  exact Nat.eq_of_mul_eq_mul_right (Nat.mul_pos (fac_pos k) (fac_pos _)) h2

theorem pow_WX {m : Nat} (k : Nat) (h : m ≤ 64 * k) : 2 ^ m ≤ W ^ k := by
  have : (W : Nat) = 2 ^ 64 := by decide
  rw [this, ← Nat.pow_mul]
  exact Nat.pow_le_pow_right (by decide) h
theorem tnI_nat (n : Nat) : tnI (n : Int) = tn n := by
  show tn ((n : Int)).toNat = _
  rw [Int.toNat_natCast]
theorem mulN_tn (a b : Nat) : mulN (tn a) (tn b) = tn (a * b) := by
  show tn (nt (tn a) * nt (tn b)) = _
  rw [nt_tn, nt_tn]
end Ta
end
section
/- Integers from texts. -/
set_option linter.unusedVariables false
set_option linter.unusedSimpArgs false
set_option maxRecDepth 100000
namespace Ta
open Go Fw Go.Proofs Pl

theorem bl_ba (l : List UInt8) : bl (ba l) = l := rfl
theorem ba_bl (s : ByteArray) : ba (bl s) = s := Lib.mk_data s
theorem size_bl (s : ByteArray) : s.size = (bl s).length := Lib.size_eq s
theorem bt_bl (s : ByteArray) (i : Nat) : bt s (i : Int) = ((((bl s).getD i 0).toNat : Nat) : Int) := by
  obtain ⟨⟨l⟩⟩ := s
  unfold bt
  rw [Int.toNat_natCast]
  split
  · rename_i h
    have h' : i < l.length := h
    show ((l[i].toNat : Nat) : Int) = (((l.getD i 0).toNat : Nat) : Int)
    rw [List.getD_eq_getElem?_getD, List.getElem?_eq_getElem h']; rfl
  · rename_i h
    have h' : l.length ≤ i := Nat.le_of_not_lt h
    show (0 : Int) = (((l.getD i 0).toNat : Nat) : Int)
    rw [List.getD_eq_getElem?_getD, List.getElem?_eq_none h']; rfl
theorem bt_ba (l : List UInt8) (i : Nat) : bt (ba l) (i : Int) = (((l.getD i 0).toNat : Nat) : Int) := bt_bl (ba l) i
theorem trim_unsg (s : ByteArray) : trimS s { data := #[(45 : UInt8)] } = ba (unsg (bl s)) := rfl
theorem isDig_iff {b : UInt8} : isDig b = true ↔ 48 ≤ b.toNat ∧ b.toNat ≤ 57 := by unfold isDig; exact decide_eq_true_iff
theorem u8_eq {b : UInt8} {n : Nat} (hn : n < 256) : b = UInt8.ofNat n ↔ b.toNat = n := by
  constructor
  · rintro rfl; simp; omega
  · intro h
    apply UInt8.toNat_inj.1
    rw [h]; simp; omega

theorem vc97 : ∀ x, C97.pre x → VC T97 H97 Tryd.f15 C97 x := by
  rintro ⟨(s : ByteArray), ⟨⟩⟩ (hsz : s.size ≤ 9000000000000000000)
  refine cast (α := True ∧ Br ((Pl.trimS s (ByteArray.mk #[(45 : UInt8)])).toList == (ByteArray.mk #[]).toList) ((false, ()) = C97.post (s, ())) ((0 : Int) ≤ (0 : Int) ∧ (0 : Int) < (↑(Pl.trimS s (ByteArray.mk #[(45 : UInt8)])).size : Int) ∧ Br (bt (Pl.trimS s (ByteArray.mk #[(45 : UInt8)])) (0 : Int) == (48 : Int)) (Br (!s.toList == (ByteArray.mk #[(48 : UInt8)]).toList) ((false, ()) = C97.post (s, ())) (∃ (n : Nat), itl (fun (G : Int × PUnit → Prop) (x : Int × PUnit) => Br (decide (x.fst < (↑(Pl.trimS s (ByteArray.mk #[(45 : UInt8)])).size : Int))) ((0 : Int) ≤ x.fst ∧ x.fst < (↑(Pl.trimS s (ByteArray.mk #[(45 : UInt8)])).size : Int) ∧ Br (decide (bt (Pl.trimS s (ByteArray.mk #[(45 : UInt8)])) x.fst < (48 : Int))) ((false, ()) = C97.post (s, ())) ((0 : Int) ≤ x.fst ∧ x.fst < (↑(Pl.trimS s (ByteArray.mk #[(45 : UInt8)])).size : Int) ∧ Br (decide (bt (Pl.trimS s (ByteArray.mk #[(45 : UInt8)])) x.fst > (57 : Int))) ((false, ()) = C97.post (s, ())) (G (IntKind.i64.wrap (x.fst + (1 : Int)), ())))) ((true, ()) = C97.post (s, ()))) n ((0 : Int), ()))) (∃ (n : Nat), itl (fun (G : Int × PUnit → Prop) (x : Int × PUnit) => Br (decide (x.fst < (↑(Pl.trimS s (ByteArray.mk #[(45 : UInt8)])).size : Int))) ((0 : Int) ≤ x.fst ∧ x.fst < (↑(Pl.trimS s (ByteArray.mk #[(45 : UInt8)])).size : Int) ∧ Br (decide (bt (Pl.trimS s (ByteArray.mk #[(45 : UInt8)])) x.fst < (48 : Int))) ((false, ()) = C97.post (s, ())) ((0 : Int) ≤ x.fst ∧ x.fst < (↑(Pl.trimS s (ByteArray.mk #[(45 : UInt8)])).size : Int) ∧ Br (decide (bt (Pl.trimS s (ByteArray.mk #[(45 : UInt8)])) x.fst > (57 : Int))) ((false, ()) = C97.post (s, ())) (G (IntKind.i64.wrap (x.fst + (1 : Int)), ())))) ((true, ()) = C97.post (s, ()))) n ((0 : Int), ())))) (by kernel_rfl) ?_
  have e : C97.post (s, ()) = (isFl (bl s), ()) := rfl
  rw [e, trim_unsg]
  have hdl : (unsg (bl s)).length ≤ 9000000000000000000 := by
    rw [size_bl] at hsz
    unfold unsg Lib.trimPrefix
    split
    · rw [List.length_drop]; omega
    · exact hsz
  have hF : isFl (bl s) = (decide (unsg (bl s) ≠ []) && (decide ((unsg (bl s)).head? ≠ some 48) || decide (bl s = [48])) && (unsg (bl s)).all isDig) := rfl
  have hsd : (s.toList == ({ data := #[(48 : UInt8)] } : ByteArray).toList) = decide (bl s = [48]) := by
    rw [Lib.toList_data, Lib.toList_data]
    show (bl s == [48]) = _
    rw [Bool.eq_iff_iff]; simp
  rw [hsd]
  generalize unsg (bl s) = d at hF hdl ⊢
  have hes : ((ba d).toList == ({ data := #[] } : ByteArray).toList) = decide (d = []) := by
    rw [Lib.toList_data, Lib.toList_data]
    show (d == []) = _
    rw [Bool.eq_iff_iff]; simp
  have hsz' : ((ba d).size : Int) = (d.length : Int) := rfl
  rw [hes, hsz']
  have loop : isFl (bl s) = d.all isDig → ∃ n : Nat, itl (fun (G : Int × PUnit → Prop) (x : Int × PUnit) =>
      Br (decide (x.fst < (d.length : Int)))
        ((0 : Int) ≤ x.fst ∧ x.fst < (d.length : Int) ∧
          Br (decide (bt (ba d) x.fst < (48 : Int))) ((false, ()) = (isFl (bl s), ()))
            ((0 : Int) ≤ x.fst ∧ x.fst < (d.length : Int) ∧
              Br (decide (bt (ba d) x.fst > (57 : Int))) ((false, ()) = (isFl (bl s), ())) (G (IntKind.i64.wrap (x.fst + (1 : Int)), ()))))
        ((true, ()) = (isFl (bl s), ()))) n ((0 : Int), ()) := by
    intro hall
    rw [hall]
    refine itl_rule (fun x => ∃ i : Nat, x = ((i : Int), ()) ∧ i ≤ d.length ∧ (d.take i).all isDig = true) (fun x => d.length - x.1.toNat) ⟨0, rfl, Nat.zero_le _, rfl⟩ ?_
    rintro _ G ⟨i, rfl, hi, ht⟩ hG
    simp only
    refine Br_of (fun hb => ?_) (fun hb => ?_)
    · have hlt : i < d.length := by have := of_decide_eq_true hb; omega
      have hg : d.getD i 0 = d[i] := by rw [List.getD_eq_getElem?_getD, List.getElem?_eq_getElem hlt]; rfl
      rw [bt_ba, hg]
      have bad : isDig d[i] = false → ((false, ()) : Bool × Unit) = (d.all isDig, ()) := fun h => by
        have : d.all isDig = false := List.all_eq_false.2 ⟨d[i], List.getElem_mem hlt, by rw [h]; decide⟩
        rw [this]
      refine ⟨by omega, by omega, Br_of (fun hc => bad ?_) (fun hc => ⟨by omega, by omega, Br_of (fun hd => bad ?_) (fun hd => ?_)⟩)⟩
      · have := of_decide_eq_true hc
        exact decide_eq_false (by omega)
      · have := of_decide_eq_true hd
        exact decide_eq_false (by omega)
      · have h1 := of_decide_eq_false hc
        have h2 := of_decide_eq_false hd
        rw [wrap_i64 (by omega) (by omega)]
        refine hG _ ⟨i + 1, by simp, hlt, ?_⟩ (by simp only; omega)
        rw [List.take_succ_eq_append_getElem hlt, List.all_append, ht]
        simp only [List.all_cons, List.all_nil, Bool.and_true, Bool.true_and]
        exact decide_eq_true (by omega)
    · have hge : i = d.length := by have := of_decide_eq_false hb; omega
      subst hge
      rw [List.take_length] at ht
      rw [ht]
  refine ⟨trivial, Br_of (fun hb => ?_) (fun hb => ?_)⟩
  · have := of_decide_eq_true hb
    subst this
    rw [hF]; rfl
  · have hne := of_decide_eq_false hb
    have hp := List.length_pos_iff.2 hne
    have h0 : bt (ba d) (0 : Int) = (((d.getD 0 0).toNat : Nat) : Int) := bt_ba d 0
    have hh : d.head? = some (d.getD 0 0) := by
      cases d with
      | nil => exact absurd rfl hne
      | cons x l => rfl
    rw [h0]
    rw [decide_eq_true hne, Bool.true_and, hh] at hF
    refine ⟨by omega, by omega, Br_of (fun hc => ?_) (fun hc => ?_)⟩
    · have h48 : d.getD 0 0 = 48 := (u8_eq (n := 48) (by decide)).2 (by have : (((d.getD 0 0).toNat : Nat) : Int) = 48 := by simpa using hc
                                                                        omega)
      rw [h48] at hF
      simp only [ne_eq, not_true_eq_false, decide_false, Bool.false_or] at hF
      refine Br_of (fun hz => ?_) (fun hz => loop ?_)
      · have : decide (bl s = [48]) = false := by simpa using hz
        rw [this] at hF
        rw [hF]; rfl
      · have : decide (bl s = [48]) = true := by simpa using hz
        rw [this] at hF
        rw [hF]; rfl
    · have h48 : d.getD 0 0 ≠ 48 := fun h => by
        have : (d.getD 0 0).toNat = 48 := by rw [h]; rfl
        rw [this] at hc
        exact absurd hc (by decide)
      refine loop ?_
      rw [hF, decide_eq_true (by simpa using h48)]
      simp

/-! ### Decimal digits -/
theorem decV_append (a b : List UInt8) : decV (a ++ b) = decV a * 10 ^ b.length + decV b := by
  have key : ∀ (b : List UInt8) (v : Nat), b.foldl (fun v b => 10 * v + (b.toNat - 48)) v = v * 10 ^ b.length + decV b := by
    intro b
    induction b with
    | nil => intro v; simp [decV]
    | cons x l ih =>
      intro v
      simp only [List.foldl_cons, List.length_cons]
      have e : decV (x :: l) = (10 * 0 + (x.toNat - 48)) * 10 ^ l.length + decV l := ih _
      rw [ih, e, Nat.pow_succ, Nat.add_mul, Nat.add_mul, Nat.mul_comm (10 ^ l.length) 10, ← Nat.mul_assoc, Nat.mul_comm v 10]
      omega
  unfold decV
  rw [List.foldl_append]
  exact key b _
theorem decV_one (x : UInt8) : decV [x] = x.toNat - 48 := by show 10 * 0 + (x.toNat - 48) = _; omega
theorem decV_lt : ∀ {l : List UInt8}, l.all isDig = true → decV l < 10 ^ l.length
  | [], _ => by decide
  | x :: l, h => by
    rw [List.all_cons, Bool.and_eq_true] at h
    have h1 := decV_lt h.2
    have h2 := isDig_iff.1 h.1
    have e := decV_append [x] l
    rw [List.singleton_append, decV_one] at e
    rw [e, List.length_cons, Nat.pow_succ]
    have h3 : (x.toNat - 48 + 1) * 10 ^ l.length ≤ 10 * 10 ^ l.length := Nat.mul_le_mul_right _ (by omega)
    rw [Nat.add_mul] at h3
    omega
theorem pow10_W (k : Nat) : 10 ^ k ≤ W ^ k := Nat.pow_le_pow_left (by decide) k
theorem all_take {l : List UInt8} (h : l.all isDig = true) (n : Nat) : (l.take n).all isDig = true := List.all_eq_true.2 fun x hx => List.all_eq_true.1 h x (List.mem_of_mem_take hx)
theorem all_drop {l : List UInt8} (h : l.all isDig = true) (n : Nat) : (l.drop n).all isDig = true := List.all_eq_true.2 fun x hx => List.all_eq_true.1 h x (List.mem_of_mem_drop hx)
theorem okM_dec {l : List UInt8} (h : l.all isDig = true) (hl : l.length ≤ 100000000) : okM (tn (decV l)) := okM_tn (k := l.length) (Nat.lt_of_lt_of_le (decV_lt h) (pow10_W _)) hl

theorem vc128 : ∀ x, C128.pre x → VC T128 H128 Tryd.f31 C128 x := by
  rintro ⟨(s : ByteArray), ⟨⟩⟩ ⟨(hsz : s.size ≤ 2000000), (hall : (bl s).all isDig = true)⟩
  refine cast (α := ∃ (n : Nat), itl (fun (G : List Int × Int × PUnit → Prop) (x : List Int × Int × PUnit) => Br (decide (x.snd.fst < (↑s.size : Int))) ((19 : Int) ≠ (0 : Int) ∧ (0 : Int) ≤ x.snd.fst ∧ x.snd.fst ≤ IntKind.i64.wrap (x.snd.fst + IntKind.i64.wrap ((IntKind.i64.wrap (IntKind.i64.wrap ((↑s.size : Int) - x.snd.fst) - (1 : Int))).tmod (19 : Int) + (1 : Int))) ∧ IntKind.i64.wrap (x.snd.fst + IntKind.i64.wrap ((IntKind.i64.wrap (IntKind.i64.wrap ((↑s.size : Int) - x.snd.fst) - (1 : Int))).tmod (19 : Int) + (1 : Int))) ≤ (↑s.size : Int) ∧ ∃ (n : Nat), itl (fun (G_1 : Int × (ByteArray × Nat) × PUnit → Prop) (x_1 : Int × (ByteArray × Nat) × PUnit) => Br (decide (x_1.snd.fst.snd < x_1.snd.fst.fst.size)) (bt x_1.snd.fst.fst (↑x_1.snd.fst.snd : Int) < (128 : Int) ∧ G_1 (IntKind.u64.wrap (IntKind.u64.wrap ((10 : Int) * x_1.fst) + IntKind.u64.wrap (IntKind.i32.wrap (bt x_1.snd.fst.fst (↑x_1.snd.fst.snd : Int) - (48 : Int)))), (x_1.snd.fst.fst, x_1.snd.fst.snd + (1 : Nat)), ())) (((0 : Int) ≤ (10000000000000000000 : Int) ∧ (10000000000000000000 : Int) < (18446744073709551616 : Int)) ∧ (Pl.rgN x.1 ∧ Pl.rgN (Pl.tnI (10000000000000000000 : Int))) ∧ ((0 : Int) ≤ x_1.fst ∧ x_1.fst < (18446744073709551616 : Int)) ∧ (Pl.rgN (Pl.mulN x.1 (Pl.tnI (10000000000000000000 : Int))) ∧ Pl.rgN (Pl.tnI x_1.fst)) ∧ G (Pl.addN (Pl.mulN x.1 (Pl.tnI (10000000000000000000 : Int))) (Pl.tnI x_1.fst), IntKind.i64.wrap (x.snd.fst + IntKind.i64.wrap ((IntKind.i64.wrap (IntKind.i64.wrap ((↑s.size : Int) - x.snd.fst) - (1 : Int))).tmod (19 : Int) + (1 : Int))), ()))) n ((0 : Int), (s.extract (Int.toNat x.snd.fst) (IntKind.i64.wrap (x.snd.fst + IntKind.i64.wrap ((IntKind.i64.wrap (IntKind.i64.wrap ((↑s.size : Int) - x.snd.fst) - (1 : Int))).tmod (19 : Int) + (1 : Int)))).toNat, (0 : Nat)), ())) ((x.1, ()) = C128.post (s, ()))) n ([], (0 : Int), ())) (by kernel_rfl) ?_
  have e : C128.post (s, ()) = (tn (decV (bl s)), ()) := rfl
  rw [e, size_bl]
  rw [size_bl] at hsz
  have hex : ∀ a b : Nat, s.extract a b = ba (((bl s).drop a).take (b - a)) := fun a b => Lib.extract_eq s a b
  generalize bl s = l at hsz hall hex ⊢
  refine itl_rule (fun x => ∃ i : Nat, x.2.1 = (i : Int) ∧ i ≤ l.length ∧ x.1 = tn (decV (l.take i)) ∧ (i = 0 ∨ (l.length - i) % 19 = 0)) (fun x => l.length - x.2.1.toNat) ⟨0, rfl, Nat.zero_le _, rfl, .inl rfl⟩ ?_
  rintro ⟨x, ii, ⟨⟩⟩ G ⟨i, hi, hle, hx, hm⟩ hG
  simp only at hi hx
  subst hi hx
  simp only
  refine Br_of (fun hb => ?_) (fun hb => ?_)
  · have hlt : i < l.length := by have := of_decide_eq_true hb; omega
    have w1 : IntKind.i64.wrap (IntKind.i64.wrap ((l.length : Int) - (i : Int)) - 1) = ((l.length - i - 1 : Nat) : Int) := by
      rw [wrap_i64 (x := (l.length : Int) - (i : Int)) (by omega) (by omega), wrap_i64 (by omega) (by omega)]; omega
    have w2 : IntKind.i64.wrap ((((l.length - i - 1 : Nat) : Int)).tmod 19 + 1) = (((l.length - i - 1) % 19 + 1 : Nat) : Int) := by
      rw [tmod_nn (by omega), wrap_i64 (by omega) (by omega)]; omega
    obtain ⟨n, hn⟩ : ∃ n, n = (l.length - i - 1) % 19 + 1 := ⟨_, rfl⟩
    rw [w1, w2, ← hn]
    have w3 : IntKind.i64.wrap ((i : Int) + (n : Int)) = ((i + n : Nat) : Int) := by rw [wrap_i64 (by omega) (by omega)]; omega
    rw [w3, Int.toNat_natCast, Int.toNat_natCast, hex, Nat.add_sub_cancel_left]
    have hin : i + n ≤ l.length := by omega
    have hn19 : n ≤ 19 := by omega
    have hsub : ((l.drop i).take n).length = n := by rw [List.length_take, List.length_drop]; omega
    have hsd : ((l.drop i).take n).all isDig = true := all_take (all_drop hall i) n
    have htk : l.take (i + n) = l.take i ++ (l.drop i).take n := List.take_add
    generalize (l.drop i).take n = sub at hsub hsd htk ⊢
    refine ⟨by decide, by omega, by omega, by omega, ?_⟩
    refine itl_rule (fun y => ∃ p : Nat, y = (((decV (sub.take p) : Nat) : Int), (ba sub, p), ()) ∧ p ≤ n) (fun y => n - y.2.1.2) ⟨0, rfl, Nat.zero_le _⟩ ?_
    rintro _ G1 ⟨p, rfl, hp⟩ hG1
    simp only
    have hd1 : decV (sub.take p) < 10 ^ p := by
      have := decV_lt (all_take hsd p)
      rw [List.length_take, Nat.min_eq_left (by omega)] at this
      exact this
    refine Br_of (fun hc => ?_) (fun hc => ?_)
    · have hpl : p < sub.length := by
        have h1 : p < (ba sub).size := of_decide_eq_true hc
        rw [size_bl, bl_ba] at h1; exact h1
      have hg : sub.getD p 0 = sub[p] := by rw [List.getD_eq_getElem?_getD, List.getElem?_eq_getElem hpl]; rfl
      rw [bt_ba, hg]
      have hdg := isDig_iff.1 (List.all_eq_true.1 hsd _ (List.getElem_mem hpl))
      have hlt18 : 10 ^ p ≤ 10 ^ 18 := Nat.pow_le_pow_right (by decide) (by omega)
      have hlt18' : decV (sub.take p) < 1000000000000000000 := Nat.lt_of_lt_of_le hd1 hlt18
      have hnew : decV (sub.take (p + 1)) = decV (sub.take p) * 10 + (sub[p].toNat - 48) := by
        rw [List.take_succ_eq_append_getElem hpl, decV_append]
        show _ * 10 ^ 1 + (10 * 0 + (sub[p].toNat - 48)) = _
        omega
      have ev : IntKind.u64.wrap (IntKind.u64.wrap ((10 : Int) * ((decV (sub.take p) : Nat) : Int)) + IntKind.u64.wrap (IntKind.i32.wrap (((sub[p].toNat : Nat) : Int) - 48))) = ((decV (sub.take (p + 1)) : Nat) : Int) := by
        have e1 : IntKind.i32.wrap (((sub[p].toNat : Nat) : Int) - 48) = ((sub[p].toNat - 48 : Nat) : Int) := by
          unfold IntKind.wrap
          simp [IntKind.bits, IntKind.signed]
          omega
        rw [e1, hnew]
        generalize decV (sub.take p) = D at hlt18' ⊢
        generalize hq : sub[p].toNat - 48 = q
        have hq9 : q ≤ 9 := by omega
        rw [wrap_u64, wrap_u64, wrap_u64]
        omega
      rw [ev]
      exact ⟨by omega, hG1 _ ⟨p + 1, rfl, by omega⟩ (by simp only; omega)⟩
    · have hpe : p = n := by
        have h1 : ¬ p < (ba sub).size := of_decide_eq_false hc
        rw [size_bl, bl_ba] at h1; omega
      subst hpe
      have htp : sub.take p = sub := List.take_of_length_le (by omega)
      rw [htp] at hd1 ⊢
      have hlt19 : 10 ^ p ≤ 10 ^ 19 := Nat.pow_le_pow_right (by decide) hn19
      have hlt19' : decV sub < 10000000000000000000 := Nat.lt_of_lt_of_le hd1 hlt19
      have t1 : tnI (10000000000000000000 : Int) = tn 10000000000000000000 := rfl
      have t2 : tnI ((decV sub : Nat) : Int) = tn (decV sub) := by show tn ((decV sub : Nat) : Int).toNat = _; rw [Int.toNat_natCast]
      have hm1 : mulN (tn (decV (l.take i))) (tn 10000000000000000000) = tn (decV (l.take i) * 10000000000000000000) := by
        show tn (nt (tn (decV (l.take i))) * nt (tn 10000000000000000000)) = _
        rw [nt_tn, nt_tn]
      have ha1 : addN (tn (decV (l.take i) * 10000000000000000000)) (tn (decV sub)) = tn (decV (l.take i) * 10000000000000000000 + decV sub) := by
        show tn (nt (tn (decV (l.take i) * 10000000000000000000)) + nt (tn (decV sub))) = _
        rw [nt_tn, nt_tn]
      rw [t1, t2, hm1, ha1]
      have o1 : ∀ z, z < W ^ 1 → rgN (tn z) := fun z hz => okN_rng (okM_N (okM_tn hz (by decide)))
      have ox := okM_dec (all_take hall i) (by rw [List.length_take]; omega)
      have hxl : decV (l.take i) < W ^ i := by
        have := decV_lt (all_take hall i)
        rw [List.length_take, Nat.min_eq_left hle] at this
        exact Nat.lt_of_lt_of_le this (pow10_W i)
      have om : okM (tn (decV (l.take i) * 10000000000000000000)) := by
        refine okM_tn (k := i + 1) ?_ (by omega)
        rw [Nat.pow_succ]
        exact Nat.mul_lt_mul'' hxl (by decide)
      refine ⟨⟨by decide, by decide⟩, ⟨okN_rng (okM_N ox), o1 _ (by decide)⟩, ⟨by omega, by omega⟩, ⟨okN_rng (okM_N om), o1 _ (by rw [Nat.pow_one, W_eq]; omega)⟩, hG _ ⟨i + p, rfl, hin, ?_, ?_⟩ (by simp only; omega)⟩
      · rw [htk, decV_append, hsub]
        rcases hm with h0 | h0
        · subst h0
          show tn (decV [] * 10000000000000000000 + decV sub) = tn (decV [] * 10 ^ p + decV sub)
          rw [show decV [] = 0 from rfl, Nat.zero_mul, Nat.zero_mul]
        · have : p = 19 := by omega
          subst this
          rfl
      · exact .inr (by omega)
  · have : i = l.length := by have := of_decide_eq_false hb; omega
    subst this
    rw [List.take_length]

theorem unsg_len (l : List UInt8) : (unsg l).length ≤ l.length := by
  unfold unsg Lib.trimPrefix
  split
  · rw [List.length_drop]; omega
  · omega
theorem isFl_parts {l : List UInt8} (h : isFl l = true) : unsg l ≠ [] ∧ (unsg l).all isDig = true := by
  unfold isFl at h
  simp only [Bool.and_eq_true, decide_eq_true_eq] at h
  exact ⟨h.1.1, h.2⟩
theorem vc98 : ∀ x, C98.pre x → VC T98 H0 Tryd.f18 C98 x := by
  rintro ⟨(s : ByteArray), ⟨⟩⟩ ⟨(hsz : s.size ≤ 2000000), (hF : isFl (bl s) = true)⟩
  refine cast (α := True ∧ ((Pl.trimS s (ByteArray.mk #[(45 : UInt8)])).size ≤ (2000000 : Nat) ∧ Pl.allD (Pl.trimS s (ByteArray.mk #[(45 : UInt8)])) = true) ∧ (0 : Int) ≤ (0 : Int) ∧ (0 : Int) < (↑s.size : Int) ∧ True ∧ (((Pl.sgn (Pl.decN (Pl.trimS s (ByteArray.mk #[(45 : UInt8)]))) (bt s (0 : Int) == (45 : Int))).1, (Pl.sgn (Pl.decN (Pl.trimS s (ByteArray.mk #[(45 : UInt8)]))) (bt s (0 : Int) == (45 : Int))).snd.fst, ()), ()) = C98.post (s, ())) (by kernel_rfl) ?_
  obtain ⟨h1, h2⟩ := isFl_parts hF
  have hl := unsg_len (bl s)
  have hp := List.length_pos_iff.2 h1
  rw [trim_unsg]
  have h0 : bt s (0 : Int) = ((((bl s).getD 0 0).toNat : Nat) : Int) := bt_bl s 0
  refine ⟨trivial, ⟨by rw [size_bl, bl_ba]; rw [size_bl] at hsz; omega, h2⟩, by omega, by rw [size_bl]; omega, trivial, ?_⟩
  show (sgn (tn (decV (unsg (bl s)))) (bt s (0 : Int) == (45 : Int)), ()) = (mkI (parV (bl s)), ())
  rw [sgn_tn, h0]
  unfold parV
  have hh : (bl s).head? = some ((bl s).getD 0 0) := by
    generalize bl s = l at hl hp
    cases l with
    | nil => rw [List.length_nil] at hl; omega
    | cons x l => rfl
  rw [hh]
  by_cases hc : (bl s).getD 0 0 = 45
  · rw [hc]; rfl
  · have : (((((bl s).getD 0 0).toNat : Nat) : Int) == 45) = false := by
      rw [beq_eq_false_iff_ne]
      intro h
      exact hc ((u8_eq (n := 45) (by decide)).2 (by omega))
    rw [this, if_neg (fun h => hc (Option.some.inj h))]
    rfl

end Ta
end
section
/- Integers: what may be refused as too large. -/
set_option linter.unusedVariables false
set_option linter.unusedSimpArgs false
set_option maxRecDepth 100000
set_option exponentiation.threshold 6000000
namespace Ta
open Go Fw Go.Proofs Pl

theorem pow_le_W {m n : Nat} (h : m ≤ n) : W ^ m ≤ W ^ n := Nat.pow_le_pow_right (by decide) h
theorem okN_tn {n k : Nat} (h : n < W ^ k) (hk : k ≤ 1000000000) : okN (tn n) := ⟨tn_can n, by unfold LEN; exact Nat.le_trans (len_tn h) hk⟩
theorem add_lt_W {x y k : Nat} (hx : x < W ^ k) (hy : y < W ^ k) : x + y < W ^ (k + 1) := by
  have e : W ^ (k + 1) = W ^ k * W := Nat.pow_succ ..
  have h2 : W ^ k * 2 ≤ W ^ k * W := Nat.mul_le_mul_left _ W2
  omega
theorem mul_lt_W {x y k l : Nat} (hx : x < W ^ k) (hy : y < W ^ l) : x * y < W ^ (k + l) := by
  rw [Nat.pow_add]; exact Nat.mul_lt_mul'' hx hy
theorem okI_abs {z : Zv} (h : okI z) : (iv z).natAbs < W ^ KI := by rw [natAbs_iv]; exact okI_lt h
theorem big_mk (n : Int) : big (mkI n).1 = bigI n := by
  show decide (40000 < bsz (nt (tn n.natAbs))) = _
  rw [nt_tn]; rfl
theorem big_tn (n : Nat) : big (tn n) = decide (40000 < bsz n) := by unfold big; rw [nt_tn]
theorem bsz_mono {m n : Nat} (h : m ≤ n) : bsz m ≤ bsz n := bsz_le.2 (Nat.lt_of_le_of_lt h (bsz_le.1 (Nat.le_refl _)))
theorem KI_eq : KI = 10000000 := rfl

theorem parV_abs (l : List UInt8) : (parV l).natAbs = decV (unsg l) := by unfold parV; split <;> omega
theorem decV_W {l : List UInt8} (h : l.all isDig = true) : decV l < W ^ l.length := Nat.lt_of_lt_of_le (decV_lt h) (pow10_W _)
theorem vcx102 : ∀ x, C102.con.pre x → VCX T102 H0 Tryd.f17 C102 x := by
  rintro ⟨d, ⟨⟩⟩ ⟨⟨s, rfl⟩, (h : isF s = true), (k : s.size ≤ 40000)⟩
  refine cast (α := (s.size ≤ (2000000 : Nat) ∧ Pl.isF s = true) ∧ Pl.okN (Pl.froI s).1 ∧ Br (C90.pan (((Pl.froI s).1, (Pl.froI s).snd.fst, ()), ())) (C102.pan (D.rptr [D.str s], ()) = true) (C102.pan (D.rptr [D.str s], ()) = false ∧ (((Pl.froI s).1, (Pl.froI s).snd.fst, ()), ()) = C102.con.post (D.rptr [D.str s], ()))) (by kernel_rfl) ?_
  have hok : okN (froI s).1 := by
    have hp := isFl_parts h
    have hl := unsg_len (bl s)
    rw [size_bl] at k
    refine okN_tn (k := (unsg (bl s)).length) ?_ (by omega)
    show (parV (bl s)).natAbs < _
    rw [parV_abs]
    exact decV_W hp.2
  refine ⟨⟨by omega, h⟩, hok, Br_of (fun hb => hb) (fun hb => ⟨hb, rfl⟩)⟩

theorem ivpow_abs (z : Zv) (n : Nat) : (iv z ^ n).natAbs = nt z.1 ^ n := by rw [Int.natAbs_pow, natAbs_iv]
theorem neg_pow_even {x : Int} {n : Nat} (h : n % 2 = 0) : (-x) ^ n = x ^ n := by
  obtain ⟨m, rfl⟩ : ∃ m, n = 2 * m := ⟨n / 2, by omega⟩
  rw [Int.pow_mul, Int.pow_mul]
  congr 1
  simp [Int.pow_succ, Int.neg_mul_neg]
theorem neg_pow_odd {x : Int} {n : Nat} (h : n % 2 = 1) : (-x) ^ n = -(x ^ n) := by
  obtain ⟨m, rfl⟩ : ∃ m, n = m + 1 := ⟨n - 1, by omega⟩
  rw [Int.pow_succ, Int.pow_succ, neg_pow_even (by omega), Int.mul_neg]
theorem bigI_pow {z : Zv} {n : Nat} : bigI (iv z ^ n) = decide (40000 < bsz (nt z.1 ^ n)) := by unfold bigI; rw [ivpow_abs]
theorem bsz_W {m : Nat} (h : bsz m ≤ 40000) : m < W ^ 625 := by
  have := bsz_le.1 h
  have e : (W : Nat) ^ 625 = 2 ^ 40000 := by
    have e : (W : Nat) = 2 ^ 64 := by decide
    rw [e, ← Nat.pow_mul]
  rw [e]; exact this
end Ta
end
section
/- What is left by a panic is caught (attempt). -/
set_option linter.unusedVariables false
set_option linter.unusedSimpArgs false
set_option maxRecDepth 100000
namespace Ta
open Go Fw Go.Proofs Go.RowKit Pl

theorem catch125_idle (p q : Addr) (w : World) :
    CallsD Tryd.prog 30 #[.pointer (some p), .pointer (some q)] .returning w fun e u' w' => e = .returned (.tuple #[]) ∧ u' = .returning ∧ w' = w := by
  have t3 := Tryd.underlying3; have a3 := Tryd.isAgg3; have z3 := Tryd.sizeOf3; have v3 := Tryd.zeroValue3
  have t4 := Tryd.underlying4; have a4 := Tryd.isAgg4; have z4 := Tryd.sizeOf4; have v4 := Tryd.zeroValue4
  have t20 := Tryd.underlying20; have a20 := Tryd.isAgg20; have z20 := Tryd.sizeOf20; have v20 := Tryd.zeroValue20
  have t25 := Tryd.underlying25; have a25 := Tryd.isAgg25; have z25 := Tryd.sizeOf25; have v25 := Tryd.zeroValue25
  have t33 := Tryd.underlying29; have a33 := Tryd.isAgg29; have z33 := Tryd.sizeOf29; have v33 := Tryd.zeroValue29
  have t130 := Tryd.underlying64; have a130 := Tryd.isAgg64; have z130 := Tryd.sizeOf64; have v130 := Tryd.zeroValue64
  refine callsD_of_wpS Tryd.func30 rfl fun c₀ cs hu => ?_
  apply wpS_seq
  apply wpS_region
  simp [wpOpsS, go_sem, recoverD, hu, Tryd.ntmps30, Exit.thenS]
  show Code.wpS _ _ _ (⟨#[.pointer (some p), .pointer (some q), .nilIface, undef, undef, undef, .nilIface, undef, undef, undef, undef, undef, undef, undef, undef, undef, undef, undef], []⟩ : Act) _ _
  refine wpS_of_wp ?_
  go_wp2
  cases c₀
  simp_all [bodyPostS, results, Tryd.results30]

theorem assert130 (w : World) : (Instr.typeAssert (Value.iface 64 (Value.agg #[])) 20 64 true).run Tryd.prog w = .ok (.tuple #[.agg #[], .bool true]) w := by
  have t130 := Tryd.underlying64
  simp [Instr.typeAssert, go_sem]

/-- Behind a panic that was caught. -/
def caught (w : World) (n : Nat) : World :=
  ((((w.alloc (.cells #[] 64)).alloc (.cells #[.slice none 0 0, .bool false] 25)).setCell ⟨n, 0, none⟩ (.slice none 0 0)).setCell ⟨n, 1, none⟩ (.bool false)).setCell ⟨n + 1, 0, none⟩ (.int .i64 11)
theorem heap_set_same {w : World} {b off : Nat} {cs : Array Value} {T : TypeId} {fz : Nat × Nat} {v : Value} (h : w.heap[b]? = some (.cells cs T fz)) :
    (w.setCell ⟨b, off, none⟩ v).heap[b]? = some (.cells (cs.setIfInBounds off v) T fz) := by
  simp only [World.setCell, Array.getElem?_modify, if_pos, h, Option.map_some]
  rfl
theorem heap_set_other {w : World} {b b' off : Nat} {v : Value} (h : b ≠ b') : (w.setCell ⟨b, off, none⟩ v).heap[b']? = w.heap[b']? := by
  simp only [World.setCell, Array.getElem?_modify]
  rw [if_neg h]
theorem cell_at {w : World} {b off : Nat} {cs : Array Value} {T : TypeId} {fz : Nat × Nat} (h : w.heap[b]? = some (.cells cs T fz)) : w.cell? ⟨b, off, none⟩ = cs[off]? := by
  simp [World.cell?, h]
theorem frozen_at {w : World} {b off : Nat} {cs : Array Value} {T : TypeId} (h : w.heap[b]? = some (.cells cs T (0, 0))) : w.frozen? ⟨b, off, none⟩ = false := by
  simp [World.frozen?, h]
theorem heap_alloc_old {w : World} {o : Go.Obj} {b : Nat} {x : Go.Obj} (h : w.heap[b]? = some x) : (w.alloc o).heap[b]? = some x := by
  rw [Below.heap_alloc _ _ _ (Array.getElem?_eq_some_iff.1 h).1]; exact h

set_option maxHeartbeats 1000000 in
theorem catch125 (n : Nat) (older : List PanicEntry) (w : World) {a0 a1 c0 : Value} {T T' : TypeId} (hn : w.heap[n]? = some (.cells #[a0, a1] T (0, 0))) (hn1 : w.heap[n + 1]? = some (.cells #[c0] T' (0, 0))) :
    CallsD Tryd.prog 30 #[.pointer (some ⟨n, 0, none⟩), .pointer (some ⟨n + 1, 0, none⟩)] (.panicking ({ v := .iface 64 (.agg #[]), recovered := false } :: older)) w fun e u' w' =>
      e = .returned (.tuple #[]) ∧ u' = .panicking ({ v := .iface 64 (.agg #[]), recovered := true } :: older) ∧ w' = caught w n := by
  have hta := assert130
  have k0 : ((w.alloc (.cells #[] 64)).alloc (.cells #[.slice none 0 0, .bool false] 25)).heap[n]? = some (.cells #[a0, a1] T (0, 0)) := heap_alloc_old (heap_alloc_old hn)
  have k1 : ((w.alloc (.cells #[] 64)).alloc (.cells #[.slice none 0 0, .bool false] 25)).heap[n + 1]? = some (.cells #[c0] T' (0, 0)) := heap_alloc_old (heap_alloc_old hn1)
  have f0 := cell_at (off := 0) k0
  have f1 := frozen_at (off := 0) k0
  have k2 := heap_set_same (off := 0) (v := .slice none 0 0) k0
  have f2 := cell_at (off := 1) k2
  have f3 := frozen_at (off := 1) k2
  have k3 : ((((w.alloc (.cells #[] 64)).alloc (.cells #[.slice none 0 0, .bool false] 25)).setCell ⟨n, 0, none⟩ (.slice none 0 0)).setCell ⟨n, 1, none⟩ (.bool false)).heap[n + 1]? = some (.cells #[c0] T' (0, 0)) := by
    rw [heap_set_other (by omega), heap_set_other (by omega)]; exact k1
  have f4 := cell_at (off := 0) k3
  have f5 := frozen_at (off := 0) k3
  have g0 : (#[a0, a1] : Array Value)[0]? = some a0 := rfl
  have g1 : ((#[a0, a1] : Array Value).setIfInBounds 0 (.slice none 0 0))[1]? = some a1 := rfl
  have g2 : (#[c0] : Array Value)[0]? = some c0 := rfl
  rw [g0] at f0
  rw [g1] at f2
  rw [g2] at f4
  clear k0 k1 k2 k3 g0 g1 g2
  have t3 := Tryd.underlying3; have a3 := Tryd.isAgg3; have z3 := Tryd.sizeOf3; have v3 := Tryd.zeroValue3
  have t4 := Tryd.underlying4; have a4 := Tryd.isAgg4; have z4 := Tryd.sizeOf4; have v4 := Tryd.zeroValue4
  have t20 := Tryd.underlying20; have a20 := Tryd.isAgg20; have z20 := Tryd.sizeOf20; have v20 := Tryd.zeroValue20
  have t25 := Tryd.underlying25; have a25 := Tryd.isAgg25; have z25 := Tryd.sizeOf25; have v25 := Tryd.zeroValue25
  have t33 := Tryd.underlying29; have a33 := Tryd.isAgg29; have z33 := Tryd.sizeOf29; have v33 := Tryd.zeroValue29
  have t130 := Tryd.underlying64; have a130 := Tryd.isAgg64; have z130 := Tryd.sizeOf64; have v130 := Tryd.zeroValue64
  refine callsD_of_wpS Tryd.func30 rfl fun c₀ cs hu => ?_
  apply wpS_seq
  apply wpS_region
  simp [wpOpsS, go_sem, recoverD, hu, Tryd.ntmps30, Exit.thenS]
  show Code.wpS _ _ _ (⟨#[.pointer (some ⟨n, 0, none⟩), .pointer (some ⟨n + 1, 0, none⟩), .iface 64 (.agg #[]), undef, undef, undef, .iface 64 (.agg #[]), undef, undef, undef, undef, undef, undef, undef, undef, undef, undef, undef], []⟩ : Act) _ _
  refine wpS_of_wp ?_
  go_wp2
  simp [bodyPostS, results, Tryd.results30, caught]

theorem alloc_at0 (w : World) (o o' : Go.Obj) : ((w.alloc o).alloc o').heap[w.heap.size]? = some o := by
  rw [Below.heap_alloc _ _ _ (show w.heap.size < (w.heap.push o).size by rw [Array.size_push]; omega)]
  show (w.heap.push o)[w.heap.size]? = some o
  rw [Array.getElem?_push, if_pos rfl]
theorem alloc_at1 (w : World) (o o' : Go.Obj) : ((w.alloc o).alloc o').heap[w.heap.size + 1]? = some o' := by
  show ((w.heap.push o).push o')[w.heap.size + 1]? = some o'
  rw [Array.getElem?_push, if_pos (by rw [Array.size_push])]
theorem caught_at {w : World} {n : Nat} {a0 a1 c0 : Value} {T T' : TypeId} (hn : w.heap[n]? = some (.cells #[a0, a1] T (0, 0))) (hn1 : w.heap[n + 1]? = some (.cells #[c0] T' (0, 0))) :
    (caught w n).heap[n]? = some (.cells #[.slice none 0 0, .bool false] T (0, 0)) ∧ (caught w n).heap[n + 1]? = some (.cells #[.int .i64 11] T' (0, 0)) := by
  have k0 : ((w.alloc (.cells #[] 64)).alloc (.cells #[.slice none 0 0, .bool false] 25)).heap[n]? = some (.cells #[a0, a1] T (0, 0)) := heap_alloc_old (heap_alloc_old hn)
  have k1 : ((w.alloc (.cells #[] 64)).alloc (.cells #[.slice none 0 0, .bool false] 25)).heap[n + 1]? = some (.cells #[c0] T' (0, 0)) := heap_alloc_old (heap_alloc_old hn1)
  have k2 := heap_set_same (off := 1) (v := .bool false) (heap_set_same (off := 0) (v := .slice none 0 0) k0)
  unfold caught
  constructor
  · rw [heap_set_other (by omega)]; exact k2
  · have k3 : ((((w.alloc (.cells #[] 64)).alloc (.cells #[.slice none 0 0, .bool false] 25)).setCell ⟨n, 0, none⟩ (.slice none 0 0)).setCell ⟨n, 1, none⟩ (.bool false)).heap[n + 1]? = some (.cells #[c0] T' (0, 0)) := by
      rw [heap_set_other (by omega), heap_set_other (by omega)]; exact k1
    exact heap_set_same (off := 0) (v := .int .i64 11) k3

set_option maxHeartbeats 1000000 in
theorem attempt87 (g : FuncId) (caps : Array Value) (w : World) (Rr : Ending → World → Prop)
    (hrun : (callFunc g caps).run Tryd.prog ((w.alloc (.cells #[.slice none 0 0, .bool false] 25)).alloc (.cells #[.int .i64 0] 29)) = .ok (.enter g caps) ((w.alloc (.cells #[.slice none 0 0, .bool false] 25)).alloc (.cells #[.int .i64 0] 29)))
    (hcall : Calls Tryd.prog g caps ((w.alloc (.cells #[.slice none 0 0, .bool false] 25)).alloc (.cells #[.int .i64 0] 29)) Rr)
    (hR : ∀ e w', Rr e w' → (e = .panicked (panChain 64) ∧ Below (w.heap.size + 2) ((w.alloc (.cells #[.slice none 0 0, .bool false] 25)).alloc (.cells #[.int .i64 0] 29)) w') ∨
      ∃ u0 u1, e = .returned (.agg #[u0, u1]) ∧ ((∃ p l c, u0 = .slice p l c) ∧ ∃ b, u1 = .bool b) ∧ Below (w.heap.size + 2) ((w.alloc (.cells #[.slice none 0 0, .bool false] 25)).alloc (.cells #[.int .i64 0] 29)) w') :
    Calls Tryd.prog 16 #[.func (.func g) #[] caps] w fun e w' =>
      (∃ w1, Rr (.panicked (panChain 64)) w1 ∧ e = .returned (.tuple #[.agg #[.slice none 0 0, .bool false], .int .i64 11]) ∧ w' = caught w1 w.heap.size) ∨
      (∃ w1 u0 u1, Rr (.returned (.agg #[u0, u1])) w1 ∧ e = .returned (.tuple #[.agg #[u0, u1], .int .i64 0]) ∧ w' = ((w1.setCell ⟨w.heap.size, 0, none⟩ u0).setCell ⟨w.heap.size, 1, none⟩ u1).setCell ⟨w.heap.size + 1, 0, none⟩ (.int .i64 0)) := by
  have mixed : Tryd.prog.follows .mixedOrders = true := by kernel_rfl
  have hmf : ∀ (fn : Fn) (first cap : Array Value) (w : World), (Instr.makeFunc fn first cap).run Tryd.prog w = .ok (.func fn first cap) w := fun _ _ _ _ => rfl
  have t3 := Tryd.underlying3; have a3 := Tryd.isAgg3; have z3 := Tryd.sizeOf3; have v3 := Tryd.zeroValue3
  have t25 := Tryd.underlying25; have a25 := Tryd.isAgg25; have z25 := Tryd.sizeOf25; have v25 := Tryd.zeroValue25
  have t33 := Tryd.underlying29; have a33 := Tryd.isAgg29; have z33 := Tryd.sizeOf29; have v33 := Tryd.zeroValue29
  have HR := Lib.hid hR
  have HC := Lib.hid hcall
  clear hR hcall
  go_enter_defers Tryd.func16, Tryd.ntmps16
  go_wp2
  refine HC.out.mono ?_
  intro e w1 hr
  have ho : ∀ x, w1.heap[w.heap.size]? = some x ↔ ((w.alloc (.cells #[.slice none 0 0, .bool false] 25)).alloc (.cells #[.int .i64 0] 29)).heap[w.heap.size]? = some x := fun x => by
    rcases HR.out e w1 hr with ⟨_, hb⟩ | ⟨_, _, _, _, hb⟩ <;> rw [hb.block _ (by omega)]
  have ho' : ∀ x, w1.heap[w.heap.size + 1]? = some x ↔ ((w.alloc (.cells #[.slice none 0 0, .bool false] 25)).alloc (.cells #[.int .i64 0] 29)).heap[w.heap.size + 1]? = some x := fun x => by
    rcases HR.out e w1 hr with ⟨_, hb⟩ | ⟨_, _, _, _, hb⟩ <;> rw [hb.block _ (by omega)]
  have hn : w1.heap[w.heap.size]? = some (.cells #[.slice none 0 0, .bool false] 25 (0, 0)) := (ho _).2 (alloc_at0 w _ _)
  have hn1 : w1.heap[w.heap.size + 1]? = some (.cells #[.int .i64 0] 29 (0, 0)) := (ho' _).2 (alloc_at1 w _ _)
  clear ho ho'
  rcases HR.out e w1 hr with ⟨rfl, hb⟩ | ⟨_, _, rfl, ⟨⟨p, l, c, rfl⟩, b, rfl⟩, hb⟩
  · show Leaves _ _ _ _ _ _ _
    refine leaves_cons (f := 30) (args := #[.pointer (some ⟨w.heap.size, 0, none⟩), .pointer (some ⟨w.heap.size + 1, 0, none⟩)]) (by simp) (by simp [go_sem]) ?_
    refine (catch125 w.heap.size [] w1 hn hn1).mono ?_
    rintro e u' w'' ⟨rfl, rfl, rfl⟩
    obtain ⟨k0, k1⟩ := caught_at hn hn1
    have f0 := cell_at (off := 0) k0
    have f1 := cell_at (off := 1) k0
    have f2 := cell_at (off := 0) k1
    refine ⟨.tuple #[.agg #[.slice none 0 0, .bool false], .int .i64 11], ?_, .inl ⟨w1, hr, rfl, rfl⟩⟩
    generalize caught w1 w.heap.size = W at f0 f1 f2 ⊢
    simp [results, Tryd.results16, go_sem, f0, f1, f2]
  · have f0 : w1.cell? ⟨w.heap.size, 0, none⟩ = some (.slice none 0 0) := cell_at (off := 0) hn
    have f1 := frozen_at (off := 0) hn
    have k2 := heap_set_same (off := 0) (v := (.slice p l c)) hn
    have f2 : (w1.setCell ⟨w.heap.size, 0, none⟩ (.slice p l c)).cell? ⟨w.heap.size, 1, none⟩ = some (.bool false) := cell_at (off := 1) k2
    have f3 := frozen_at (off := 1) k2
    have k4 := heap_set_same (off := 1) (v := (.bool b)) k2
    have k3 : ((w1.setCell ⟨w.heap.size, 0, none⟩ (.slice p l c)).setCell ⟨w.heap.size, 1, none⟩ (.bool b)).heap[w.heap.size + 1]? = some (.cells #[.int .i64 0] 29 (0, 0)) := by
      rw [heap_set_other (by omega), heap_set_other (by omega)]; exact hn1
    have f4 : ((w1.setCell ⟨w.heap.size, 0, none⟩ (.slice p l c)).setCell ⟨w.heap.size, 1, none⟩ (.bool b)).cell? ⟨w.heap.size + 1, 0, none⟩ = some (.int .i64 0) := cell_at (off := 0) k3
    have f5 := frozen_at (off := 0) k3
    have K2 := Lib.hid k2
    have K3 := Lib.hid k3
    have K4 := Lib.hid k4
    have HN := Lib.hid hn
    have HN1 := Lib.hid hn1
    have HRR := Lib.hid hr
    have HB := Lib.hid hb
    clear k2 k3 k4 hn hn1 hr hb
    go_wp2
    show Leaves _ _ _ _ _ _ _
    refine leaves_cons (f := 30) (args := #[.pointer (some ⟨w.heap.size, 0, none⟩), .pointer (some ⟨w.heap.size + 1, 0, none⟩)]) (by simp) (by simp [go_sem]) ?_
    refine (catch125_idle ⟨w.heap.size, 0, none⟩ ⟨w.heap.size + 1, 0, none⟩ _).mono ?_
    rintro e u' w'' ⟨rfl, rfl, rfl⟩
    have q4 : (((w1.setCell ⟨w.heap.size, 0, none⟩ (.slice p l c)).setCell ⟨w.heap.size, 1, none⟩ (.bool b)).setCell ⟨w.heap.size + 1, 0, none⟩ (.int .i64 0)).heap[w.heap.size]? = some (.cells #[(.slice p l c), (.bool b)] 25 (0, 0)) := by
      rw [heap_set_other (by omega)]; exact K4.out
    have q3 := heap_set_same (off := 0) (v := .int .i64 0) K3.out
    have p0 : (((w1.setCell ⟨w.heap.size, 0, none⟩ (.slice p l c)).setCell ⟨w.heap.size, 1, none⟩ (.bool b)).setCell ⟨w.heap.size + 1, 0, none⟩ (.int .i64 0)).cell? ⟨w.heap.size, 0, none⟩ = some (.slice p l c) := cell_at (off := 0) q4
    have p1 : (((w1.setCell ⟨w.heap.size, 0, none⟩ (.slice p l c)).setCell ⟨w.heap.size, 1, none⟩ (.bool b)).setCell ⟨w.heap.size + 1, 0, none⟩ (.int .i64 0)).cell? ⟨w.heap.size, 1, none⟩ = some (.bool b) := cell_at (off := 1) q4
    have p2 : (((w1.setCell ⟨w.heap.size, 0, none⟩ (.slice p l c)).setCell ⟨w.heap.size, 1, none⟩ (.bool b)).setCell ⟨w.heap.size + 1, 0, none⟩ (.int .i64 0)).cell? ⟨w.heap.size + 1, 0, none⟩ = some (.int .i64 0) := cell_at (off := 0) q3
    refine ⟨.tuple #[.agg #[(.slice p l c), (.bool b)], .int .i64 0], ?_, .inr ⟨w1, (.slice p l c), (.bool b), HRR.out, rfl, rfl⟩⟩
    clear q4 q3
    generalize ((w1.setCell ⟨w.heap.size, 0, none⟩ (.slice p l c)).setCell ⟨w.heap.size, 1, none⟩ (.bool b)).setCell ⟨w.heap.size + 1, 0, none⟩ (.int .i64 0) = W at p0 p1 p2 ⊢
    simp [results, Tryd.results16, go_sem, p0, p1, p2]

end Ta
end
section
/- What comes of an attempt. -/
set_option linter.unusedVariables false
set_option linter.unusedSimpArgs false
set_option maxRecDepth 100000
namespace Ta
open Go Fw Go.Proofs Go.RowKit Pl

theorem below_set {B : Nat} {w w' : World} (h : Below B w w') {b off : Nat} {v : Value} (hb : B ≤ b) : Below B w (w'.setCell ⟨b, off, none⟩ v) := h.setCell hb v
theorem below_caught {B n : Nat} {w w1 : World} (h : Below B w w1) (hn : B ≤ n) (hs : B ≤ w1.heap.size) : Below B w (caught w1 n) := by
  unfold caught
  refine below_set (below_set (below_set ((h.alloc hs _).alloc ?_ _) hn) hn) (by omega)
  exact Nat.le_trans hs (by show _ ≤ (w1.heap.push _).size; rw [Array.size_push]; omega)
theorem alloc_size (w : World) (o : Go.Obj) : (w.alloc o).heap.size = w.heap.size + 1 := Array.size_push _
theorem two_below (w : World) (o o' : Go.Obj) : Below w.heap.size w ((w.alloc o).alloc o') :=
  ((Below.refl w.heap.size w).alloc (Nat.le_refl _) o).alloc (by rw [alloc_size]; omega) o'

/-- The blocks of a call that makes two. -/
def two (O : Nat → Prop) (w : World) (b : Nat) : Prop := O b ∨ b = w.heap.size ∨ b = w.heap.size + 1
theorem two_keeps {O : Nat → Prop} {w : World} {o o' : Go.Obj} : Keeps w O ((w.alloc o).alloc o') (two O w) := by
  refine ⟨fun b hb _ => (two_below w o o').block b hb, fun b hb hn h => ?_⟩
  rcases h with h | h | h
  · exact hn h
  · omega
  · omega
theorem two_oko {O : Nat → Prop} {w : World} {o o' : Go.Obj} (h : OKO O w) : OKO (two O w) ((w.alloc o).alloc o') := by
  refine ⟨fun b hb => ?_, h.2.below (two_below w o o')⟩
  rw [alloc_size, alloc_size]
  rcases hb with hb | hb | hb
  · have := h.1 b hb; omega
  · omega
  · omega
theorem nil_rep {w : World} {O : Nat → Prop} {t : Ty} : VRep w O (.slc false t []) (.slice none 0 0) :=
  ⟨⟨none, 0, rfl, Nat.le_refl _, fun h => absurd h (Nat.lt_irrefl 0)⟩, fun h => by cases h⟩

theorem att87 {args : List Ar} {pre : Ars args → Prop} {post : Ars args → Zv × Unit} {pan : Ars args → Bool} {g : FuncId} (hS : SoundX Tryd.prog 64 g ⟨⟨args, [ZI], pre, post, none⟩, pan⟩)
    {y : Ars args} (hy : pre y) {w : World} {O : Nat → Prop} (hO : OKO O w) {caps : Array Value} (hl : LRep w O (encs args y) caps.toList) {z : Zv} {c : Int}
    (hz1 : pan y = true → z = ([], false, ()) ∧ c = 11) (hz2 : pan y = false → z = (post y).1 ∧ c = 0) :
    Calls Tryd.prog 16 #[.func (.func g) #[] caps] w fun e w' => ∃ v, e = .returned v ∧ Below w.heap.size w w' ∧ ∀ ι, ARep w' O ι (resAV (encs [ZI, E] (z, c, ()))) v := by
  have hl1 := LRep.keeps (two_keeps (o := .cells #[.slice none 0 0, .bool false] 25) (o' := .cells #[.int .i64 0] 29)) _ _ hl
  obtain ⟨hrun, hcall⟩ := hS y hy _ _ caps (two_oko hO) hl1
  refine (attempt87 g caps w _ hrun hcall ?_).mono ?_
  · rintro e w' (⟨_, rfl, hb⟩ | ⟨_, v, rfl, hb, hv, _⟩)
    · rw [alloc_size, alloc_size] at hb
      exact .inl ⟨rfl, hb⟩
    · rw [alloc_size, alloc_size] at hb
      refine .inr ?_
      obtain ⟨vs, rfl, us⟩ := hv (fun _ => undef)
      obtain ⟨u0, us0, e0, h0, u1, us1, e1, h1, e2⟩ := us
      subst e2 e1
      have ev : vs = #[u0, u1] := arr_eq e0
      subst ev
      obtain ⟨⟨a, cc, rfl, _⟩, _⟩ := h0
      exact ⟨_, _, rfl, ⟨⟨_, _, _, rfl⟩, _, h1⟩, hb⟩
  · rintro e w' (⟨w1, hx, rfl, rfl⟩ | ⟨w1, u0, u1, hx, rfl, rfl⟩)
    · rcases hx with ⟨hp, _, hb⟩ | ⟨_, v, hv, _⟩
      · obtain ⟨rfl, rfl⟩ := hz1 hp
        have hb1 : Below w.heap.size w w1 := (two_below w _ _).trans (hb.mono (by rw [alloc_size, alloc_size]; omega))
        refine ⟨_, rfl, below_caught hb1 (Nat.le_refl _) hb1.size, fun ι => ?_⟩
        exact ⟨_, rfl, _, _, rfl, ⟨_, rfl, _, _, rfl, nil_rep, _, _, rfl, rfl, rfl⟩, _, _, rfl, rfl, rfl⟩
      · cases hv
    · rcases hx with ⟨_, hv, _⟩ | ⟨hp, v, hv, hb, hrep, _⟩
      · cases hv
      · injection hv with hv
        subst hv
        obtain ⟨rfl, rfl⟩ := hz2 hp
        have hb1 : Below w.heap.size w w1 := (two_below w _ _).trans (hb.mono (by rw [alloc_size, alloc_size]; omega))
        refine ⟨_, rfl, below_set (below_set (below_set hb1 (Nat.le_refl _)) (Nat.le_refl _)) (by omega), fun ι => ?_⟩
        have hk : Keeps w1 (two O w) (((w1.setCell ⟨w.heap.size, 0, none⟩ u0).setCell ⟨w.heap.size, 1, none⟩ u1).setCell ⟨w.heap.size + 1, 0, none⟩ (.int .i64 0)) O := by
          refine ⟨fun b _ hn => ?_, fun b _ hn h => hn (.inl h)⟩
          have n1 : w.heap.size ≠ b := fun e => hn (.inr (.inl e.symm))
          have n2 : w.heap.size + 1 ≠ b := fun e => hn (.inr (.inr e.symm))
          rw [heap_set_other n2, heap_set_other n1, heap_set_other n1]
        have hr := hrep ι
        have hr' : VRep w1 (two O w) (ZI.enc (post y).1) (.agg #[u0, u1]) := hr
        exact ⟨_, rfl, _, _, rfl, VRep.keeps hk _ _ hr', _, _, rfl, rfl, rfl⟩

end Ta
end
section
/- The quotient of two words by one (math/bits.Div64). -/
set_option linter.unusedVariables false
set_option linter.unusedSimpArgs false
set_option maxRecDepth 100000
namespace Ta
open Go Fw Go.Proofs Pl

def T139 : Ctx := ⟨tt, [(64, C122)], [], none, [], 0, [], [], 64⟩
def H139 : Hints := ⟨[], [], [(0, ⟨[2, 8, 9, 10, 11, 13, 14], [(15, su), (16, su)]⟩), (2, ⟨[2, 8, 9, 10, 14, 15, 17], [(16, su), (18, su)]⟩)], []⟩

abbrev wu (x : Int) : Int := IntKind.u64.wrap x
/-- A digit of the quotient is mended: the loop, with what comes behind it. -/
def mend (v1 v0 un1 : Int) (K : Int → Prop) (G : Int × Int × Unit → Prop) (x : Int × Int × Unit) : Prop :=
  Br (decide (x.fst ≥ 4294967296))
    (Br (decide (wu (x.snd.fst + v1) ≥ 4294967296)) (K (wu (x.fst - 1))) (G (wu (x.fst - 1), wu (x.snd.fst + v1), ())))
    (Br (decide (wu (x.fst * v0) > wu (wu (4294967296 * x.snd.fst) + un1)))
      (Br (decide (wu (x.snd.fst + v1) ≥ 4294967296)) (K (wu (x.fst - 1))) (G (wu (x.fst - 1), wu (x.snd.fst + v1), ())))
      (K x.fst))
def sw (x : Int × Int × Unit) : Int × Int × Unit := (x.2.1, x.1, ())
theorem sw_sw (x : Int × Int × Unit) : sw (sw x) = x := rfl
theorem itl_sw (F : (Int × Int × Unit → Prop) → Int × Int × Unit → Prop) : ∀ (n : Nat) (x : Int × Int × Unit), itl (fun G y => F (fun z => G (sw z)) (sw y)) n x = itl F n (sw x)
  | 0, x => rfl
  | n + 1, x => by
    have e : (fun z => itl (fun G y => F (fun z => G (sw z)) (sw y)) n (sw z)) = itl F n := funext fun z => by rw [itl_sw F n (sw z), sw_sw]
    show F (fun z => itl (fun G y => F (fun z => G (sw z)) (sw y)) n (sw z)) (sw x) = F (itl F n) (sw x)
    rw [e]

/-! ### The digits -/
structure Dg (v1 v0 un un1 : Nat) : Prop where
  v1a : 2147483648 ≤ v1
  v1b : v1 < 4294967296
  v0b : v0 < 4294967296
  u1b : un1 < 4294967296
  lt : un < v1 * 4294967296 + v0
theorem wuN {n : Nat} (h : n < 18446744073709551616) : wu (n : Int) = n := by
  unfold wu; rw [wrap_u64]; omega
theorem mend_ok {v1 v0 un un1 : Nat} (d : Dg v1 v0 un un1) {K : Int → Prop} (hK : K (((un * 4294967296 + un1) / (v1 * 4294967296 + v0) : Nat) : Int)) :
    ∃ n : Nat, itl (mend v1 v0 un1 K) n (((un / v1 : Nat) : Int), ((un % v1 : Nat) : Int), ()) := by
  obtain ⟨a1, a2, a3, a4, a5⟩ := d
  have hV : 0 < v1 * 4294967296 + v0 := by omega
  have hq1 := Nat.div_mul_le_self (un * 4294967296 + un1) (v1 * 4294967296 + v0)
  have hq2 : ∀ q, q * (v1 * 4294967296 + v0) ≤ un * 4294967296 + un1 → q ≤ (un * 4294967296 + un1) / (v1 * 4294967296 + v0) := fun q h => (Nat.le_div_iff_mul_le hV).2 h
  generalize (un * 4294967296 + un1) / (v1 * 4294967296 + v0) = Q at *
  have hQ : Q < 4294967296 := by
    rcases Nat.lt_or_ge Q 4294967296 with h | h
    · exact h
    · have := Nat.mul_le_mul_right (v1 * 4294967296 + v0) h
      omega
  have hm : ∀ q : Nat, q * (v1 * 4294967296 + v0) = q * v1 * 4294967296 + q * v0 := fun q => by rw [Nat.mul_add, Nat.mul_assoc]
  have hv0 : ∀ q : Nat, q ≤ 4294967297 → q * v0 ≤ 4294967297 * 4294967295 := fun q h => Nat.mul_le_mul h (by omega)
  have h0 := Nat.div_add_mod un v1
  have h0' := Nat.mod_lt un (show 0 < v1 by omega)
  refine itl_rule (fun x => ∃ q r : Nat, x = ((q : Int), (r : Int), ()) ∧ Q ≤ q ∧ q ≤ 4294967297 ∧ q * v1 + r = un ∧ r < 4294967296) (fun x => x.1.toNat)
    ⟨un / v1, un % v1, rfl, ?_, ?_, by rw [Nat.mul_comm]; exact h0, by omega⟩ ?_
  · rw [Nat.le_div_iff_mul_le (by omega)]
    rw [hm] at hq1
    omega
  · have : un / v1 < 4294967298 := by
      rw [Nat.div_lt_iff_lt_mul (by omega)]; omega
    omega
  · rintro _ G ⟨q, r, rfl, g1, g2, g3, g4⟩ hG
    unfold mend
    simp only
    have e1 : wu ((r : Int) + (v1 : Int)) = ((r + v1 : Nat) : Int) := wuN (n := r + v1) (by omega)
    have hvq := hv0 q g2
    have e2 : wu ((q : Int) * (v0 : Int)) = ((q * v0 : Nat) : Int) := wuN (n := q * v0) (by omega)
    have e3 : wu (wu (4294967296 * (r : Int)) + (un1 : Int)) = ((4294967296 * r + un1 : Nat) : Int) := by
      have e : wu (4294967296 * (r : Int)) = ((4294967296 * r : Nat) : Int) := wuN (n := 4294967296 * r) (by omega)
      rw [e]
      exact wuN (n := 4294967296 * r + un1) (by omega)
    rw [e1, e2, e3]
    have dec : Q + 1 ≤ q → Br (decide (((r + v1 : Nat) : Int) ≥ 4294967296)) (K (wu ((q : Int) - 1))) (G (wu ((q : Int) - 1), ((r + v1 : Nat) : Int), ())) := fun h => by
      obtain ⟨p, rfl⟩ : ∃ p, q = p + 1 := ⟨q - 1, by omega⟩
      have ep : wu (((p + 1 : Nat) : Int) - 1) = (p : Int) := by
        have : ((p + 1 : Nat) : Int) - 1 = (p : Int) := by omega
        rw [this]; exact wuN (by omega)
      rw [ep]
      have g3' : p * v1 + (r + v1) = un := by rw [Nat.add_mul] at g3; omega
      refine Br_of (fun hb => ?_) (fun hb => ?_)
      · have hr : 4294967296 ≤ r + v1 := by have := of_decide_eq_true hb; omega
        have h1 : p * v0 ≤ 4294967296 * 4294967295 := Nat.mul_le_mul (by omega) (by omega)
        have h2 : p ≤ Q := hq2 p (by rw [hm]; omega)
        have : p = Q := by omega
        rw [this]; exact hK
      · have hr : r + v1 < 4294967296 := by have := of_decide_eq_false hb; omega
        exact hG _ ⟨p, r + v1, rfl, by omega, by omega, g3', hr⟩ (by simp only; omega)
    refine Br_of (fun hb => dec ?_) (fun hb => Br_of (fun hc => dec ?_) (fun hc => ?_))
    · have := of_decide_eq_true hb; omega
    · have h1 : 4294967296 * r + un1 < q * v0 := by have := of_decide_eq_true hc; omega
      have h2 : ¬ q ≤ Q := fun h => by
        have := Nat.mul_le_mul_right (v1 * 4294967296 + v0) h
        rw [hm] at this
        omega
      omega
    · have h1 : q * v0 ≤ 4294967296 * r + un1 := by have := of_decide_eq_false hc; omega
      have h2 : q ≤ Q := hq2 q (by rw [hm]; omega)
      have : q = Q := by omega
      rw [this]; exact hK

def fin139 (s yy un10 un21 un0 q1 : Int) (r : Int × Int × Unit) (q0 : Int) : Prop :=
  (0 : Int) ≤ s ∧ (wu (wu (q1 * 4294967296) + q0), (wu (wu (wu (un21 * 4294967296) + un0) - wu (q0 * yy))).fdiv ((2 : Int) ^ min s.toNat IntKind.u64.bits), ()) = r
def mid139 (s yy v1 v0 un10 un32 un1 un0 : Int) (r : Int × Int × Unit) (q1 : Int) : Prop :=
  v1 ≠ 0 ∧ ∃ n : Nat, itl (fun G x => mend v1 v0 un0 (fin139 s yy un10 (wu (wu (wu (un32 * 4294967296) + un1) - wu (q1 * yy))) un0 q1 r) (fun z => G (sw z)) (sw x)) n
    (wu (wu (wu (wu (un32 * 4294967296) + un1) - wu (q1 * yy)) - wu (wu ((wu (wu (wu (un32 * 4294967296) + un1) - wu (q1 * yy))).tdiv v1) * v1)), wu ((wu (wu (wu (un32 * 4294967296) + un1) - wu (q1 * yy))).tdiv v1), ())
def all139 (a b c s yy v1 v0 un10 un32 un1 un0 : Int) (r : Int × Int × Unit) : Prop :=
  Br (c == 0) False (Br (decide (c ≤ a)) False (Br (a == 0) (c ≠ 0 ∧ c ≠ 0 ∧ (wu (b.tdiv c), b.tmod c, ()) = r)
    ((0 ≤ c ∧ c < 18446744073709551616) ∧ 0 ≤ s ∧ (0 : Int) ≤ 32 ∧ 0 ≤ s ∧ 0 ≤ wu (64 - s) ∧ 0 ≤ s ∧ (0 : Int) ≤ 32 ∧ v1 ≠ 0 ∧
      ∃ n : Nat, itl (mend v1 v0 un1 (mid139 s yy v1 v0 un10 un32 un1 un0 r)) n (wu (un32.tdiv v1), wu (un32 - wu (wu (un32.tdiv v1) * v1)), ()))))

theorem bitsv_or_comm (x y : Int) : bitsv .or .u64 x y = bitsv .or .u64 y x := by
  unfold bitsv
  simp only [BitVec.or_comm]
theorem or_add' {a b s : Nat} (ha : a < 2 ^ s) (hb : b * 2 ^ s < 18446744073709551616) (ha' : a < 18446744073709551616) : bitsv .or .u64 ((b * 2 ^ s : Nat) : Int) (a : Int) = ((a + b * 2 ^ s : Nat) : Int) := by
  rw [bitsv_or_comm]; exact or_add ha hb ha'
theorem and32 {x : Nat} (h : x < 18446744073709551616) : bitsv .and .u64 (x : Int) 4294967295 = ((x % 4294967296 : Nat) : Int) := by
  have e : (BitVec.ofInt 64 (x : Int) &&& BitVec.ofInt 64 ((4294967295 : Nat) : Int)).toNat = x % 4294967296 := by
    rw [BitVec.toNat_and, BitVec.ofInt_natCast, BitVec.ofInt_natCast, BitVec.toNat_ofNat, BitVec.toNat_ofNat, Nat.mod_eq_of_lt (by simpa using h)]
    exact Nat.and_two_pow_sub_one_eq_mod x 32
  show IntKind.wrap .u64 ((BitVec.ofInt 64 (x : Int) &&& BitVec.ofInt 64 ((4294967295 : Nat) : Int)).toNat : Int) = _
  rw [e]
  exact wuN (by omega)

theorem subm_eq {x q z Y : Nat} (hY1 : Y < 18446744073709551616) (hY0 : 0 < Y) (h1 : (x * 4294967296 + z) % Y + q * Y = x * 4294967296 + z) (h2 : z < 4294967296) :
    wu (wu (wu ((x : Int) * 4294967296) + (z : Int)) - wu ((q : Int) * (Y : Int))) = (((x * 4294967296 + z) % Y : Nat) : Int) := by
  have h3 := Nat.mod_lt (x * 4294967296 + z) hY0
  generalize (x * 4294967296 + z) % Y = m at h1 h3 ⊢
  have h4 : (q : Int) * (Y : Int) = ((q * Y : Nat) : Int) := rfl
  rw [h4]
  generalize q * Y = p at h1 ⊢
  simp only [wu, wrap_u64]
  omega
theorem tot_eq {un ub un1 un0 Y Q1 R1 Q0 R0 : Nat} (h1 : R1 + Q1 * Y = un * 4294967296 + un1) (h0 : R0 + Q0 * Y = R1 * 4294967296 + un0) (hu : 4294967296 * un1 + un0 = ub) :
    un * 18446744073709551616 + ub = R0 + Y * (Q1 * 4294967296 + Q0) := by
  have e : Y * (Q1 * 4294967296 + Q0) = Q1 * Y * 4294967296 + Q0 * Y := by rw [Nat.mul_add, ← Nat.mul_assoc, Nat.mul_comm Y Q1, Nat.mul_comm Y Q0]
  rw [e]
  generalize Q1 * Y = p at h1 ⊢
  generalize Q0 * Y = q at h0 ⊢
  omega

theorem vc139 : ∀ x, C139.pre x → VC T139 H139 Tryd.f55 C139 x := by
  rintro ⟨(a : Int), (b : Int), (c : Int), ⟨⟩⟩ hx
  refine cast (α := all139 a b c (wu (lz c)) (wu (c * (2 : Int) ^ min (wu (lz c)).toNat IntKind.u64.bits)) ((wu (c * (2 : Int) ^ min (wu (lz c)).toNat IntKind.u64.bits)).fdiv ((2 : Int) ^ min (Int.toNat 32) IntKind.u64.bits)) (bitsv .and .u64 (wu (c * (2 : Int) ^ min (wu (lz c)).toNat IntKind.u64.bits)) 4294967295) (wu (b * (2 : Int) ^ min (wu (lz c)).toNat IntKind.u64.bits)) (bitsv .or .u64 (wu (a * (2 : Int) ^ min (wu (lz c)).toNat IntKind.u64.bits)) (b.fdiv ((2 : Int) ^ min (wu (64 - wu (lz c))).toNat IntKind.u64.bits))) ((wu (b * (2 : Int) ^ min (wu (lz c)).toNat IntKind.u64.bits)).fdiv ((2 : Int) ^ min (Int.toNat 32) IntKind.u64.bits)) (bitsv .and .u64 (wu (b * (2 : Int) ^ min (wu (lz c)).toNat IntKind.u64.bits)) 4294967295) (C139.post (a, b, c, ()))) (by kernel_rfl) ?_
  obtain ⟨⟨ha0, hac⟩, ⟨hb0, hb1⟩, hc1⟩ := hx
  simp only at ha0 hac hb0 hb1 hc1
  obtain ⟨a, rfl⟩ := nat_of ha0
  obtain ⟨b, rfl⟩ := nat_of hb0
  obtain ⟨c, rfl⟩ := nat_of (Int.le_trans ha0 (Int.le_of_lt hac))
  have hac' : a < c := by omega
  have hcpos : 0 < c := by omega
  obtain ⟨NN, hNN⟩ : ∃ NN : Nat, NN = a * 18446744073709551616 + b := ⟨_, rfl⟩
  have hpost : C139.post ((a : Int), (b : Int), (c : Int), ()) = (((NN / c : Nat) : Int), ((NN % c : Nat) : Int), ()) := by
    have h : (a : Int) * 18446744073709551616 + b = (NN : Int) := by omega
    show (((a : Int) * 18446744073709551616 + b) / c, ((a : Int) * 18446744073709551616 + b) % c, ()) = _
    rw [h]; rfl
  rw [hpost]
  have hc0 : c ≠ 0 := by omega
  have hb64 : bsz c ≤ 64 := bsz_le.2 (by omega)
  have hb1' : 1 ≤ bsz c := by rw [bsz_pos hc0]; omega
  obtain ⟨s, hs, hs64⟩ : ∃ s : Nat, bsz c + s = 64 ∧ s < 64 := ⟨64 - bsz c, by omega, by omega⟩
  have elz : wu (lz ((c : Nat) : Int)) = (s : Int) := by
    have : lz ((c : Nat) : Int) = (s : Int) := by
      show 64 - (bsz c : Int) = _
      omega
    rw [this]; exact wuN (by omega)
  have e64 : wu (64 - (s : Int)) = ((64 - s : Nat) : Int) := by
    have : (64 : Int) - (s : Int) = ((64 - s : Nat) : Int) := by omega
    rw [this]; exact wuN (by omega)
  have hp64 : 2 ^ bsz c * 2 ^ s = 18446744073709551616 := by rw [← Nat.pow_add, hs]
  have hp64' : 2 ^ (64 - s) * 2 ^ s = 18446744073709551616 := pow_split (by omega)
  have hsp := pow_pos2 s
  have hcs : c < 2 ^ bsz c := bsz_le.1 (Nat.le_refl _)
  have hcs2 : 2 ^ bsz c ≤ 2 * c := by
    rcases Nat.lt_or_ge (2 * c) (2 ^ bsz c) with h | h
    · have e : 2 ^ bsz c = 2 * 2 ^ (bsz c - 1) := by
        have : bsz c = (bsz c - 1) + 1 := by omega
        conv => lhs; rw [this, Nat.pow_succ, Nat.mul_comm]
      rw [e] at h
      have := bsz_le.2 (show c < 2 ^ (bsz c - 1) by omega)
      omega
    · exact h
  rw [elz, e64]
  simp only [Int.toNat_natCast]
  have hY1 : c * 2 ^ s < 18446744073709551616 := by rw [← hp64]; exact Nat.mul_lt_mul_of_pos_right hcs hsp
  have hY0 : 18446744073709551616 ≤ 2 * (c * 2 ^ s) := by
    have := Nat.mul_le_mul_right (2 ^ s) hcs2
    rw [hp64, Nat.mul_assoc] at this
    exact this
  have hA1 : (a + 1) * 2 ^ s ≤ c * 2 ^ s := Nat.mul_le_mul_right _ hac'
  have modN : ∀ x : Nat, x * 2 ^ s < 18446744073709551616 → (x % 2 ^ (64 - s)) * 2 ^ s = x * 2 ^ s := fun x hx => by
    rw [Nat.mod_eq_of_lt]
    rw [← hp64'] at hx
    exact Nat.lt_of_mul_lt_mul_right hx
  have eY : wu ((c : Int) * 2 ^ (min s IntKind.u64.bits)) = ((c * 2 ^ s : Nat) : Int) := by
    rw [show wu ((c : Int) * 2 ^ (min s IntKind.u64.bits)) = _ from shl_val (by omega), modN c hY1]
  have eA : wu ((a : Int) * 2 ^ (min s IntKind.u64.bits)) = ((a * 2 ^ s : Nat) : Int) := by
    rw [show wu ((a : Int) * 2 ^ (min s IntKind.u64.bits)) = _ from shl_val (by omega), modN a (by rw [Nat.add_mul] at hA1; omega)]
  have eB : wu ((b : Int) * 2 ^ (min s IntKind.u64.bits)) = (((b % 2 ^ (64 - s)) * 2 ^ s : Nat) : Int) := shl_val (by omega)
  have eR : (b : Int).fdiv ((2 : Int) ^ (min (64 - s) IntKind.u64.bits)) = ((b / 2 ^ (64 - s) : Nat) : Int) := shr_val (by omega)
  have hBl := mod_bound (d := b) (s := s) (by omega)
  have hBs := shift_split (d := b) (s := s) (by omega)
  rw [W_eq] at hBs
  have hRlt : b / 2 ^ (64 - s) < 2 ^ s := by
    rw [Nat.div_lt_iff_lt_mul (pow_pos2 _), Nat.mul_comm, hp64']; omega
  rw [eY, eA, eB, eR]
  generalize hB : b % 2 ^ (64 - s) * 2 ^ s = ub at hBl hBs ⊢
  generalize b / 2 ^ (64 - s) = br at hRlt hBs ⊢
  have eO : bitsv .or .u64 ((a * 2 ^ s : Nat) : Int) (br : Int) = ((br + a * 2 ^ s : Nat) : Int) := or_add' hRlt (by rw [Nat.add_mul] at hA1; omega) (by
    have : 2 ^ s ≤ 18446744073709551616 := Nat.pow_le_pow_right (n := 2) (by decide) (show s ≤ 64 by omega)
    omega)
  have e32 : Int.toNat 32 = 32 := rfl
  have sh32 : ∀ x : Nat, (x : Int).fdiv ((2 : Int) ^ (min 32 IntKind.u64.bits)) = ((x / 4294967296 : Nat) : Int) := fun x => shr_val (s := 32) (by decide)
  rw [eO, e32, sh32, sh32, and32 hY1, and32 hBl]
  have hun : br + a * 2 ^ s < c * 2 ^ s := by rw [Nat.add_mul] at hA1; omega
  have hN : (br + a * 2 ^ s) * 18446744073709551616 + ub = NN * 2 ^ s := by
    rw [hNN, Nat.add_mul, Nat.add_mul, ← hBs, Nat.mul_right_comm]
    omega
  have hquo : ((br + a * 2 ^ s) * 18446744073709551616 + ub) / (c * 2 ^ s) = NN / c := by rw [hN]; exact Nat.mul_div_mul_right _ _ hsp
  have hrem : ((br + a * 2 ^ s) * 18446744073709551616 + ub) % (c * 2 ^ s) = NN % c * 2 ^ s := by rw [hN]; exact Nat.mul_mod_mul_right _ _ _
  have hql : NN / c < 18446744073709551616 := by
    rw [Nat.div_lt_iff_lt_mul hcpos, Nat.mul_comm]
    omega
  unfold all139
  refine Br_of (fun h => ?_) (fun _ => Br_of (fun h => ?_) (fun _ => Br_of (fun h => ?_) (fun _ => ?_)))
  · have : (c : Int) = 0 := by simpa using h
    omega
  · have := of_decide_eq_true h; omega
  · have ha : (a : Int) = 0 := by simpa using h
    have ha : a = 0 := by omega
    have hNb : NN = b := by omega
    rw [hNb]
    refine ⟨by omega, by omega, ?_⟩
    rw [tdiv_nn (by omega), tmod_nn (by omega)]
    have : wu ((b : Int) / (c : Int)) = ((b / c : Nat) : Int) := wuN (n := b / c) (Nat.lt_of_le_of_lt (Nat.div_le_self _ _) (by omega))
    rw [this]; rfl
  generalize NN / c = Q at hquo hql ⊢
  generalize NN % c = R at hrem ⊢
  clear eY eA eB eR eO hpost modN
  generalize br + a * 2 ^ s = un at hun hN hquo hrem ⊢
  generalize c * 2 ^ s = Y at hY1 hY0 hun hquo hrem ⊢
  have dY := Nat.div_add_mod Y 4294967296
  have dY' := Nat.mod_lt Y (show 0 < 4294967296 by decide)
  have dU := Nat.div_add_mod ub 4294967296
  have dU' := Nat.mod_lt ub (show 0 < 4294967296 by decide)
  generalize Y / 4294967296 = v1 at dY ⊢
  generalize Y % 4294967296 = v0 at dY dY' ⊢
  generalize ub / 4294967296 = un1 at dU ⊢
  generalize ub % 4294967296 = un0 at dU dU' ⊢
  have hv1 : 2147483648 ≤ v1 ∧ v1 < 4294967296 := by omega
  have hYe : v1 * 4294967296 + v0 = Y := by rw [Nat.mul_comm]; exact dY
  have initQ : ∀ x : Nat, x < 18446744073709551616 → wu ((x : Int).tdiv (v1 : Int)) = ((x / v1 : Nat) : Int) ∧ wu ((x : Int) - wu (wu ((x : Int).tdiv (v1 : Int)) * (v1 : Int))) = ((x % v1 : Nat) : Int) := fun x hx => by
    have h1 : (x : Int).tdiv (v1 : Int) = ((x / v1 : Nat) : Int) := by rw [tdiv_nn (by omega)]; rfl
    have h2 := Nat.div_le_self x v1
    have h3 := Nat.div_add_mod x v1
    have h4 : wu ((x / v1 : Nat) : Int) = ((x / v1 : Nat) : Int) := wuN (by omega)
    have h5 : ((x / v1 : Nat) : Int) * (v1 : Int) = ((v1 * (x / v1) : Nat) : Int) := by rw [Nat.mul_comm]; rfl
    rw [h1, h4, h5, wuN (n := v1 * (x / v1)) (by omega)]
    refine ⟨rfl, ?_⟩
    have h6 : (x : Int) - ((v1 * (x / v1) : Nat) : Int) = ((x % v1 : Nat) : Int) := by omega
    rw [h6]; exact wuN (by have := Nat.mod_le x v1; omega)
  have subm := fun x q z => subm_eq (x := x) (q := q) (z := z) hY1 (show 0 < Y by omega)
  have divm : ∀ x : Nat, x % Y + x / Y * Y = x := fun x => by
    have := Nat.div_add_mod x Y
    rw [Nat.mul_comm] at this; omega
  refine ⟨⟨by omega, by omega⟩, by omega, by omega, by omega, by omega, by omega, by omega, by omega, ?_⟩
  rw [(initQ un (by omega)).1, show wu ((un : Int) - wu (((un / v1 : Nat) : Int) * (v1 : Int))) = ((un % v1 : Nat) : Int) from by rw [← (initQ un (by omega)).1]; exact (initQ un (by omega)).2]
  refine mend_ok ⟨hv1.1, hv1.2, dY', by omega, by omega⟩ ?_
  rw [hYe]
  have hm1 := divm (un * 4294967296 + un1)
  have es := subm un ((un * 4294967296 + un1) / Y) un1 hm1 (by omega)
  have hR1 := Nat.mod_lt (un * 4294967296 + un1) (show 0 < Y by omega)
  unfold mid139
  rw [es]
  generalize (un * 4294967296 + un1) / Y = Q1 at hm1 ⊢
  generalize (un * 4294967296 + un1) % Y = R1 at hm1 hR1 ⊢
  clear es
  refine ⟨by omega, ?_⟩
  rw [(initQ R1 (by omega)).1, show wu ((R1 : Int) - wu (((R1 / v1 : Nat) : Int) * (v1 : Int))) = ((R1 % v1 : Nat) : Int) from by rw [← (initQ R1 (by omega)).1]; exact (initQ R1 (by omega)).2]
  have key := mend_ok (v1 := v1) (v0 := v0) (un := R1) (un1 := un0) ⟨hv1.1, hv1.2, dY', dU', by omega⟩ (K := fin139 (s : Int) (Y : Int) (ub : Int) (R1 : Int) (un0 : Int) (Q1 : Int) ((Q : Int), (R : Int), ())) ?_
  · obtain ⟨n, hn⟩ := key
    refine ⟨n, ?_⟩
    rw [itl_sw]
    exact hn
  rw [hYe]
  have hm0 := divm (R1 * 4294967296 + un0)
  have es0 := subm R1 ((R1 * 4294967296 + un0) / Y) un0 hm0 dU'
  unfold fin139
  rw [es0]
  have hR0 := Nat.mod_lt (R1 * 4294967296 + un0) (show 0 < Y by omega)
  clear es0
  generalize (R1 * 4294967296 + un0) / Y = Q0 at hm0 ⊢
  generalize (R1 * 4294967296 + un0) % Y = R0 at hm0 hR0 ⊢
  have htot := tot_eq hm1 hm0 dU
  have hYp : 0 < Y := by omega
  have hq : Q = Q1 * 4294967296 + Q0 := by rw [← hquo, htot, Nat.add_mul_div_left _ _ hYp, Nat.div_eq_of_lt hR0, Nat.zero_add]
  have hr : R * 2 ^ s = R0 := by rw [← hrem, htot, Nat.add_mul_mod_self_left, Nat.mod_eq_of_lt hR0]
  refine ⟨by omega, ?_⟩
  rw [Int.toNat_natCast, shr_val (by omega), ← hr, Nat.mul_div_cancel _ hsp]
  have h1 : wu ((Q1 : Int) * 4294967296) = ((Q1 * 4294967296 : Nat) : Int) := wuN (n := Q1 * 4294967296) (by omega)
  rw [h1]
  have h2 : wu (((Q1 * 4294967296 : Nat) : Int) + (Q0 : Int)) = ((Q1 * 4294967296 + Q0 : Nat) : Int) := wuN (n := Q1 * 4294967296 + Q0) (by omega)
  rw [h2, hq]

end Ta
end
section
/- The functions of natural numbers are sound. -/
set_option linter.unusedVariables false
set_option linter.unusedSimpArgs false
set_option maxRecDepth 100000
namespace Ta
open Go Fw Go.Proofs

theorem mixed : Tryd.prog.follows .mixedOrders = true := by kernel_rfl
theorem tokg {T : Ctx} (hfs : AllS Tryd.prog T.fs) (hpts : AllP Tryd.prog T.pts) (hpan : AllX Tryd.prog T.pt T.pan) (h1 : T.tt = tt := by rfl) (h2 : T.invs = [] := by rfl) (h3 : T.cv = none := by rfl) : Tok Tryd.prog T :=
  ⟨mixed, by rw [h1]; exact tt_all.spec, hfs.spec, fun n C h => (by rw [h2] at h; cases h), fun C h => (by rw [h3] at h; cases h), hpts.spec, hpan.spec⟩

theorem ptw_cases {K base : Nat} {pre : List Int → Int → Int → List Int → List D → Prop} {res : List Int → Int → Int → List Int → List D → List D} {new : List Int → Int → Int → List Int → List D → List Int}
    {avs : List AV} {h : Hp} {p : Prop} {v : AV} {h' : Hp} (e : (ptW K base pre res new).fn avs h = some (p, v, h')) :
    ∃ (f : Bool) (lo n : Int) (vv : List Int) (ds : List D) (rest : List AV) (xs : List Int), avs = .win K 1 lo n :: .d (.slc f (.int .u64) vv) :: rest ∧ h = upd h K (some (.row 44 (.int .u64) xs)) ∧ qmakeFunc.datas rest = some ds ∧
      p = pre xs lo n vv ds ∧ v = resAV (res xs lo n vv ds) ∧ h' = upd h K (some (.row 44 (.int .u64) (new xs lo n vv ds))) := by
  unfold ptW at e
  simp only at e
  split at e
  · rename_i K' lo n f vv rest
    split at e
    · rename_i xs ds hk hrow hds
      have := Nat.eq_of_beq_eq_true hk
      subst this
      injection e with e
      injection e with e1 e2
      injection e2 with e2 e3
      refine ⟨f, lo, n, vv, _, rest, _, rfl, ?_, hds, e1.symm, e2.symm, e3.symm⟩
      funext id
      rw [upd_eq]
      split
      · rename_i e; subst e; exact hrow
      · rfl
    · cases e
  · cases e
theorem datas_nil : ∀ {rest : List AV}, qmakeFunc.datas rest = some [] → rest = []
  | [], _ => rfl
  | x :: l, h => by
    unfold qmakeFunc.datas at h
    split at h
    · rename_i e; cases e
    · split at h
      · injection h with h; cases h
      · cases h
    · cases h
theorem datas_int {rest : List AV} {q : Int} (h : qmakeFunc.datas rest = some [.int .u64 q]) : rest = [.d (.int .u64 q)] := by
  unfold qmakeFunc.datas at h
  split at h
  · injection h with h; cases h
  · split at h
    · rename_i d l ds hds
      injection h with h
      injection h with h1 h2
      subst h1 h2
      rw [datas_nil hds]
    · cases h
  · cases h
theorem qD_int {ds : List D} (h : 0 ≤ Pl.qD ds) : ∃ q, ds = [.int .u64 q] := by
  unfold Pl.qD at h
  split at h
  · exact ⟨_, rfl⟩
  · omega

theorem vc130 : ∀ x, C130.pre x → VC T130 H0 Tryd.f34 C130 x := by
  rintro ⟨(u : Int), (b : Int), ⟨⟩⟩ hx
  refine cast (α := (((0 : Int) ≤ u ∧ u < (18446744073709551616 : Int)) ∧ b = (10 : Int)) ∧ (Pl.decS u, ()) = C130.post (u, b, ())) (by kernel_rfl) ?_
  exact ⟨hx, rfl⟩

theorem snd130 : Sound Tryd.prog 34 C130 := fn_sound (T := T130) (fn := Tryd.f34) (tokg (T := T130) ⟨snd148, trivial⟩ trivial trivial) Tryd.func34 (by kernel_rfl) H0 vc130 (by kernel_rfl)
theorem snd134 : Sound Tryd.prog 38 C134 := fn_sound (T := T0) (fn := Tryd.f38) (tokg (T := T0) trivial trivial trivial) Tryd.func38 (by kernel_rfl) H0 vc134 (by kernel_rfl)
theorem snd135 : Sound Tryd.prog 39 C135 := fn_sound (T := T0) (fn := Tryd.f39) (tokg (T := T0) trivial trivial trivial) Tryd.func39 (by kernel_rfl) H0 vc135 (by kernel_rfl)
theorem snd136 : Sound Tryd.prog 28 C136 := fn_sound (T := T0) (fn := Tryd.f28) (tokg (T := T0) trivial trivial trivial) Tryd.func28 (by kernel_rfl) H136 vc136 (by kernel_rfl)
theorem snd111 : Sound Tryd.prog 13 C111 := fn_sound (T := T111) (fn := Tryd.f13) (tokg (T := T111) ⟨snd136, trivial⟩ trivial trivial) Tryd.func13 (by kernel_rfl) H0 vc111 (by kernel_rfl)
theorem snd105 : Sound Tryd.prog 14 C105 := fn_sound (T := T0) (fn := Tryd.f14) (tokg (T := T0) trivial trivial trivial) Tryd.func14 (by kernel_rfl) H0 vc105 (by kernel_rfl)
theorem snd107 : Sound Tryd.prog 22 C107 := fn_sound (T := T107) (fn := Tryd.f22) (tokg (T := T107) ⟨snd134, snd135, trivial⟩ trivial trivial) Tryd.func22 (by kernel_rfl) H107 vc107 (by kernel_rfl)
theorem snd120 : Sound Tryd.prog 54 C120 := fn_sound (T := T120) (fn := Tryd.f54) (tokg (T := T120) ⟨snd105, snd138, snd136, trivial⟩ trivial trivial) Tryd.func54 (by kernel_rfl) H120 vc120 (by kernel_rfl)
theorem snd121 : Sound Tryd.prog 63 C121 := fn_sound (T := T121) (fn := Tryd.f63) (tokg (T := T121) ⟨snd105, snd144, snd136, trivial⟩ trivial trivial) Tryd.func63 (by kernel_rfl) H121 vc121 (by kernel_rfl)
theorem snd112 : Sound Tryd.prog 53 C112 := fn_sound (T := T112) (fn := Tryd.f53) (tokg (T := T112) ⟨snd137, snd138, snd136, trivial⟩ trivial trivial) Tryd.func53 (by kernel_rfl) H112 vc112 (by kernel_rfl)
theorem snd77 : Sound Tryd.prog 42 C77 := fn_sound (T := T77) (fn := Tryd.f42) (tokg (T := T77) ⟨snd122, trivial⟩ trivial trivial) Tryd.func42 (by kernel_rfl) H0 vc77 (by kernel_rfl)
theorem snd139 : Sound Tryd.prog 55 C139 := fn_sound (T := T139) (fn := Tryd.f55) (tokg (T := T139) ⟨snd122, trivial⟩ trivial trivial) Tryd.func55 (by kernel_rfl) H139 vc139 (by kernel_rfl)
theorem snd114 : Sound Tryd.prog 33 C114 := fn_sound (T := T114) (fn := Tryd.f33) (tokg (T := T114) ⟨snd139, snd136, trivial⟩ trivial trivial) Tryd.func33 (by kernel_rfl) H114 vc114 (by kernel_rfl)
theorem snd140 : Sound Tryd.prog 79 C140 := fn_sound (T := T111) (fn := Tryd.f79) (tokg (T := T111) ⟨snd136, trivial⟩ trivial trivial) Tryd.func79 (by kernel_rfl) H140 vc140 (by kernel_rfl)
theorem snd143 : Sound Tryd.prog 81 C143 := fn_sound (T := T143) (fn := Tryd.f81) (tokg (T := T143) ⟨snd105, snd136, trivial⟩ trivial trivial) Tryd.func81 (by kernel_rfl) H143 vc143 (by kernel_rfl)
theorem snd154 : SoundPT Tryd.prog 90 pt154 := pt_sound (T := T154) (fn := Tryd.f90) (tokg (T := T154) ⟨snd105, snd137, snd138, snd144, trivial⟩ trivial trivial) Tryd.func90 (by kernel_rfl) H154 (fun avs h p v h' e hp => by
  obtain ⟨f, lo, n, vv, ds, rest, xs, rfl, eh, hd, rfl, rfl, rfl⟩ := ptw_cases e
  obtain ⟨q, rfl⟩ := qD_int hp.2.2.1
  obtain rfl := datas_int hd
  rw [eh]
  exact vcp154 hp) (by kernel_rfl)
theorem snd155 : SoundPT Tryd.prog 91 pt155 := pt_sound (T := T155) (fn := Tryd.f91) (tokg (T := T155) ⟨snd105, snd137, snd138, trivial⟩ trivial trivial) Tryd.func91 (by kernel_rfl) H155 (fun avs h p v h' e hp => by
  obtain ⟨f, lo, n, vv, ds, rest, xs, rfl, eh, hd, rfl, rfl, rfl⟩ := ptw_cases e
  obtain ⟨q, rfl⟩ := qD_int hp.2.2.1
  obtain rfl := datas_int hd
  rw [eh]
  exact vcp155 hp) (by kernel_rfl)
theorem snd142 : SoundPT Tryd.prog 80 pt142 := pt_sound (T := T142) (fn := Tryd.f80) (tokg (T := T142) ⟨snd139, trivial⟩ ⟨snd154, snd155, trivial⟩ trivial) Tryd.func80 (by kernel_rfl) H142 (fun avs h p v h' e hp => by
  obtain ⟨f, lo, n, vv, ds, rest, xs, rfl, eh, hd, rfl, rfl, rfl⟩ := ptw_cases e
  obtain rfl := hp.2.2.1
  obtain rfl := datas_nil hd
  rw [eh]
  exact vcp142 hp) (by kernel_rfl)
theorem snd119 : Sound Tryd.prog 62 C119 := fn_sound (T := T119) (fn := Tryd.f62) (tokg (T := T119) ⟨snd107, snd114, snd111, snd122, snd140, snd136, snd143, trivial⟩ ⟨snd142, trivial⟩ trivial) Tryd.func62 (by kernel_rfl) H119 vc119 (by kernel_rfl)
theorem snd108 : Sound Tryd.prog 67 C108 := fn_sound (T := T108) (fn := Tryd.f67) (tokg (T := T108) ⟨snd119, trivial⟩ trivial trivial) Tryd.func67 (by kernel_rfl) H108 vc108 (by kernel_rfl)
theorem snd113 : SoundX Tryd.prog 64 32 C113 := fnx_sound (T := T113) (fn := Tryd.f32) (tokg (T := T113) ⟨snd77, trivial⟩ trivial trivial) Tryd.func32 (by kernel_rfl) H0 vcx113 (by kernel_rfl)

end Ta
end
