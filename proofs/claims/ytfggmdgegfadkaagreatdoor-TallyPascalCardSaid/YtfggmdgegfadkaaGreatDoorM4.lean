import Derived.Tactics
import Derived.Tactics2
import Derived.WalkKit
import Derived.Laws.Pointers
import Derived.Lib.Builder
import Derived.Lib.Walk
import Derived.BigCall
import Derived.Test.YtfggmdgegfadkaaGreatDoorM3
section
/- The quotient of two words by one (math/bits.Div64). -/
set_option linter.unusedVariables false
set_option linter.unusedSimpArgs false
set_option maxRecDepth 100000
namespace Ta
open Go Fw Go.Proofs Pl

def T139 : Ctx := ⟨tt, [(122, C122)], [], none, [], 0, [], [], 130⟩
def H139 : Hints := ⟨[], [], [(0, ⟨[2, 8, 9, 10, 11, 13, 14], [(15, su), (16, su)]⟩), (2, ⟨[2, 8, 9, 10, 14, 15, 17], [(16, su), (18, su)]⟩)], []⟩

abbrev wu (x : Int) : Int := IntKind.u64.wrap x
/-- A digit of the quotient is mended: the loop, with what comes behind it. -/
def mend (v1 v0 un1 : Int) (K : Int → Prop) (G : Int × Int × Unit → Prop) (x : Int × Int × Unit) : Prop :=
  Br (decide (x.fst ≥ 4294967296))
    (Br (decide (wu (x.snd.fst + v1) ≥ 4294967296)) (K (wu (x.fst - 1))) (G (wu (x.fst - 1), wu (x.snd.fst + v1), ())))
    (Br (decide (wu (x.fst * v0) > wu (wu (4294967296 * x.snd.fst) + un1)))
      (Br (decide (wu (x.snd.fst + v1) ≥ 4294967296)) (K (wu (x.fst - 1))) (G (wu (x.fst - 1), wu (x.snd.fst + v1), ())))
      (K x.fst))
def sw (x : Int × Int × Unit) : Int × Int × Unit := (x.2.1, x.1, ())
theorem sw_sw (x : Int × Int × Unit) : sw (sw x) = x := rfl
theorem itl_sw (F : (Int × Int × Unit → Prop) → Int × Int × Unit → Prop) : ∀ (n : Nat) (x : Int × Int × Unit), itl (fun G y => F (fun z => G (sw z)) (sw y)) n x = itl F n (sw x)
  | 0, x => rfl
  | n + 1, x => by
    have e : (fun z => itl (fun G y => F (fun z => G (sw z)) (sw y)) n (sw z)) = itl F n := funext fun z => by rw [itl_sw F n (sw z), sw_sw]
    show F (fun z => itl (fun G y => F (fun z => G (sw z)) (sw y)) n (sw z)) (sw x) = F (itl F n) (sw x)
    rw [e]

/-! ### The digits -/
structure Dg (v1 v0 un un1 : Nat) : Prop where
  v1a : 2147483648 ≤ v1
  v1b : v1 < 4294967296
  v0b : v0 < 4294967296
  u1b : un1 < 4294967296
  lt : un < v1 * 4294967296 + v0
theorem wuN {n : Nat} (h : n < 18446744073709551616) : wu (n : Int) = n := by
  unfold wu; rw [wrap_u64]; omega
theorem mend_ok {v1 v0 un un1 : Nat} (d : Dg v1 v0 un un1) {K : Int → Prop} (hK : K (((un * 4294967296 + un1) / (v1 * 4294967296 + v0) : Nat) : Int)) :
    ∃ n : Nat, itl (mend v1 v0 un1 K) n (((un / v1 : Nat) : Int), ((un % v1 : Nat) : Int), ()) := by
  obtain ⟨a1, a2, a3, a4, a5⟩ := d
  have hV : 0 < v1 * 4294967296 + v0 := by omega
  have hq1 := Nat.div_mul_le_self (un * 4294967296 + un1) (v1 * 4294967296 + v0)
  have hq2 : ∀ q, q * (v1 * 4294967296 + v0) ≤ un * 4294967296 + un1 → q ≤ (un * 4294967296 + un1) / (v1 * 4294967296 + v0) := fun q h => (Nat.le_div_iff_mul_le hV).2 h
  generalize (un * 4294967296 + un1) / (v1 * 4294967296 + v0) = Q at *
  have hQ : Q < 4294967296 := by
    rcases Nat.lt_or_ge Q 4294967296 with h | h
    · exact h
    · have := Nat.mul_le_mul_right (v1 * 4294967296 + v0) h
      omega
  have hm : ∀ q : Nat, q * (v1 * 4294967296 + v0) = q * v1 * 4294967296 + q * v0 := fun q => by rw [Nat.mul_add, Nat.mul_assoc]
  have hv0 : ∀ q : Nat, q ≤ 4294967297 → q * v0 ≤ 4294967297 * 4294967295 := fun q h => Nat.mul_le_mul h (by omega)
  have h0 := Nat.div_add_mod un v1
  have h0' := Nat.mod_lt un (show 0 < v1 by omega)
  refine itl_rule (fun x => ∃ q r : Nat, x = ((q : Int), (r : Int), ()) ∧ Q ≤ q ∧ q ≤ 4294967297 ∧ q * v1 + r = un ∧ r < 4294967296) (fun x => x.1.toNat)
    ⟨un / v1, un % v1, rfl, ?_, ?_, by rw [Nat.mul_comm]; exact h0, by omega⟩ ?_
  · rw [Nat.le_div_iff_mul_le (by omega)]
    rw [hm] at hq1
    omega
  · have : un / v1 < 4294967298 := by
      rw [Nat.div_lt_iff_lt_mul (by omega)]; omega
    omega
  · rintro _ G ⟨q, r, rfl, g1, g2, g3, g4⟩ hG
    unfold mend
    simp only
    have e1 : wu ((r : Int) + (v1 : Int)) = ((r + v1 : Nat) : Int) := wuN (n := r + v1) (by omega)
    have hvq := hv0 q g2
    have e2 : wu ((q : Int) * (v0 : Int)) = ((q * v0 : Nat) : Int) := wuN (n := q * v0) (by omega)
    have e3 : wu (wu (4294967296 * (r : Int)) + (un1 : Int)) = ((4294967296 * r + un1 : Nat) : Int) := by
      have e : wu (4294967296 * (r : Int)) = ((4294967296 * r : Nat) : Int) := wuN (n := 4294967296 * r) (by omega)
      rw [e]
      exact wuN (n := 4294967296 * r + un1) (by omega)
    rw [e1, e2, e3]
    have dec : Q + 1 ≤ q → Br (decide (((r + v1 : Nat) : Int) ≥ 4294967296)) (K (wu ((q : Int) - 1))) (G (wu ((q : Int) - 1), ((r + v1 : Nat) : Int), ())) := fun h => by
      obtain ⟨p, rfl⟩ : ∃ p, q = p + 1 := ⟨q - 1, by omega⟩
      have ep : wu (((p + 1 : Nat) : Int) - 1) = (p : Int) := by
        have : ((p + 1 : Nat) : Int) - 1 = (p : Int) := by omega
        rw [this]; exact wuN (by omega)
      rw [ep]
      have g3' : p * v1 + (r + v1) = un := by rw [Nat.add_mul] at g3; omega
      refine Br_of (fun hb => ?_) (fun hb => ?_)
      · have hr : 4294967296 ≤ r + v1 := by have := of_decide_eq_true hb; omega
        have h1 : p * v0 ≤ 4294967296 * 4294967295 := Nat.mul_le_mul (by omega) (by omega)
        have h2 : p ≤ Q := hq2 p (by rw [hm]; omega)
        have : p = Q := by omega
        rw [this]; exact hK
      · have hr : r + v1 < 4294967296 := by have := of_decide_eq_false hb; omega
        exact hG _ ⟨p, r + v1, rfl, by omega, by omega, g3', hr⟩ (by simp only; omega)
    refine Br_of (fun hb => dec ?_) (fun hb => Br_of (fun hc => dec ?_) (fun hc => ?_))
    · have := of_decide_eq_true hb; omega
    · have h1 : 4294967296 * r + un1 < q * v0 := by have := of_decide_eq_true hc; omega
      have h2 : ¬ q ≤ Q := fun h => by
        have := Nat.mul_le_mul_right (v1 * 4294967296 + v0) h
        rw [hm] at this
        omega
      omega
    · have h1 : q * v0 ≤ 4294967296 * r + un1 := by have := of_decide_eq_false hc; omega
      have h2 : q ≤ Q := hq2 q (by rw [hm]; omega)
      have : q = Q := by omega
      rw [this]; exact hK

def fin139 (s yy un10 un21 un0 q1 : Int) (r : Int × Int × Unit) (q0 : Int) : Prop :=
  (0 : Int) ≤ s ∧ (wu (wu (q1 * 4294967296) + q0), (wu (wu (wu (un21 * 4294967296) + un0) - wu (q0 * yy))).fdiv ((2 : Int) ^ min s.toNat IntKind.u64.bits), ()) = r
def mid139 (s yy v1 v0 un10 un32 un1 un0 : Int) (r : Int × Int × Unit) (q1 : Int) : Prop :=
  v1 ≠ 0 ∧ ∃ n : Nat, itl (fun G x => mend v1 v0 un0 (fin139 s yy un10 (wu (wu (wu (un32 * 4294967296) + un1) - wu (q1 * yy))) un0 q1 r) (fun z => G (sw z)) (sw x)) n
    (wu (wu (wu (wu (un32 * 4294967296) + un1) - wu (q1 * yy)) - wu (wu ((wu (wu (wu (un32 * 4294967296) + un1) - wu (q1 * yy))).tdiv v1) * v1)), wu ((wu (wu (wu (un32 * 4294967296) + un1) - wu (q1 * yy))).tdiv v1), ())
def all139 (a b c s yy v1 v0 un10 un32 un1 un0 : Int) (r : Int × Int × Unit) : Prop :=
  Br (c == 0) False (Br (decide (c ≤ a)) False (Br (a == 0) (c ≠ 0 ∧ c ≠ 0 ∧ (wu (b.tdiv c), b.tmod c, ()) = r)
    ((0 ≤ c ∧ c < 18446744073709551616) ∧ 0 ≤ s ∧ (0 : Int) ≤ 32 ∧ 0 ≤ s ∧ 0 ≤ wu (64 - s) ∧ 0 ≤ s ∧ (0 : Int) ≤ 32 ∧ v1 ≠ 0 ∧
      ∃ n : Nat, itl (mend v1 v0 un1 (mid139 s yy v1 v0 un10 un32 un1 un0 r)) n (wu (un32.tdiv v1), wu (un32 - wu (wu (un32.tdiv v1) * v1)), ()))))

theorem bitsv_or_comm (x y : Int) : bitsv .or .u64 x y = bitsv .or .u64 y x := by
  unfold bitsv
  simp only [BitVec.or_comm]
theorem or_add' {a b s : Nat} (ha : a < 2 ^ s) (hb : b * 2 ^ s < 18446744073709551616) (ha' : a < 18446744073709551616) : bitsv .or .u64 ((b * 2 ^ s : Nat) : Int) (a : Int) = ((a + b * 2 ^ s : Nat) : Int) := by
  rw [bitsv_or_comm]; exact or_add ha hb ha'
theorem and32 {x : Nat} (h : x < 18446744073709551616) : bitsv .and .u64 (x : Int) 4294967295 = ((x % 4294967296 : Nat) : Int) := by
  have e : (BitVec.ofInt 64 (x : Int) &&& BitVec.ofInt 64 ((4294967295 : Nat) : Int)).toNat = x % 4294967296 := by
    rw [BitVec.toNat_and, BitVec.ofInt_natCast, BitVec.ofInt_natCast, BitVec.toNat_ofNat, BitVec.toNat_ofNat, Nat.mod_eq_of_lt (by simpa using h)]
    exact Nat.and_two_pow_sub_one_eq_mod x 32
  show IntKind.wrap .u64 ((BitVec.ofInt 64 (x : Int) &&& BitVec.ofInt 64 ((4294967295 : Nat) : Int)).toNat : Int) = _
  rw [e]
  exact wuN (by omega)

theorem subm_eq {x q z Y : Nat} (hY1 : Y < 18446744073709551616) (hY0 : 0 < Y) (h1 : (x * 4294967296 + z) % Y + q * Y = x * 4294967296 + z) (h2 : z < 4294967296) :
    wu (wu (wu ((x : Int) * 4294967296) + (z : Int)) - wu ((q : Int) * (Y : Int))) = (((x * 4294967296 + z) % Y : Nat) : Int) := by
  have h3 := Nat.mod_lt (x * 4294967296 + z) hY0
  generalize (x * 4294967296 + z) % Y = m at h1 h3 ⊢
  have h4 : (q : Int) * (Y : Int) = ((q * Y : Nat) : Int) := rfl
  rw [h4]
  generalize q * Y = p at h1 ⊢
  simp only [wu, wrap_u64]
  omega
theorem tot_eq {un ub un1 un0 Y Q1 R1 Q0 R0 : Nat} (h1 : R1 + Q1 * Y = un * 4294967296 + un1) (h0 : R0 + Q0 * Y = R1 * 4294967296 + un0) (hu : 4294967296 * un1 + un0 = ub) :
    un * 18446744073709551616 + ub = R0 + Y * (Q1 * 4294967296 + Q0) := by
  have e : Y * (Q1 * 4294967296 + Q0) = Q1 * Y * 4294967296 + Q0 * Y := by rw [Nat.mul_add, ← Nat.mul_assoc, Nat.mul_comm Y Q1, Nat.mul_comm Y Q0]
  rw [e]
  generalize Q1 * Y = p at h1 ⊢
  generalize Q0 * Y = q at h0 ⊢
  omega

theorem vc139 : ∀ x, C139.pre x → VC T139 H139 Tryz.f139 C139 x := by
  rintro ⟨(a : Int), (b : Int), (c : Int), ⟨⟩⟩ hx
  refine cast (α := all139 a b c (wu (lz c)) (wu (c * (2 : Int) ^ min (wu (lz c)).toNat IntKind.u64.bits)) ((wu (c * (2 : Int) ^ min (wu (lz c)).toNat IntKind.u64.bits)).fdiv ((2 : Int) ^ min (Int.toNat 32) IntKind.u64.bits)) (bitsv .and .u64 (wu (c * (2 : Int) ^ min (wu (lz c)).toNat IntKind.u64.bits)) 4294967295) (wu (b * (2 : Int) ^ min (wu (lz c)).toNat IntKind.u64.bits)) (bitsv .or .u64 (wu (a * (2 : Int) ^ min (wu (lz c)).toNat IntKind.u64.bits)) (b.fdiv ((2 : Int) ^ min (wu (64 - wu (lz c))).toNat IntKind.u64.bits))) ((wu (b * (2 : Int) ^ min (wu (lz c)).toNat IntKind.u64.bits)).fdiv ((2 : Int) ^ min (Int.toNat 32) IntKind.u64.bits)) (bitsv .and .u64 (wu (b * (2 : Int) ^ min (wu (lz c)).toNat IntKind.u64.bits)) 4294967295) (C139.post (a, b, c, ()))) (by kernel_rfl) ?_
  obtain ⟨⟨ha0, hac⟩, ⟨hb0, hb1⟩, hc1⟩ := hx
  simp only at ha0 hac hb0 hb1 hc1
  obtain ⟨a, rfl⟩ := nat_of ha0
  obtain ⟨b, rfl⟩ := nat_of hb0
  obtain ⟨c, rfl⟩ := nat_of (Int.le_trans ha0 (Int.le_of_lt hac))
  have hac' : a < c := by omega
  have hcpos : 0 < c := by omega
  obtain ⟨NN, hNN⟩ : ∃ NN : Nat, NN = a * 18446744073709551616 + b := ⟨_, rfl⟩
  have hpost : C139.post ((a : Int), (b : Int), (c : Int), ()) = (((NN / c : Nat) : Int), ((NN % c : Nat) : Int), ()) := by
    have h : (a : Int) * 18446744073709551616 + b = (NN : Int) := by omega
    show (((a : Int) * 18446744073709551616 + b) / c, ((a : Int) * 18446744073709551616 + b) % c, ()) = _
    rw [h]; rfl
  rw [hpost]
  have hc0 : c ≠ 0 := by omega
  have hb64 : bsz c ≤ 64 := bsz_le.2 (by omega)
  have hb1' : 1 ≤ bsz c := by rw [bsz_pos hc0]; omega
  obtain ⟨s, hs, hs64⟩ : ∃ s : Nat, bsz c + s = 64 ∧ s < 64 := ⟨64 - bsz c, by omega, by omega⟩
  have elz : wu (lz ((c : Nat) : Int)) = (s : Int) := by
    have : lz ((c : Nat) : Int) = (s : Int) := by
      show 64 - (bsz c : Int) = _
      omega
    rw [this]; exact wuN (by omega)
  have e64 : wu (64 - (s : Int)) = ((64 - s : Nat) : Int) := by
    have : (64 : Int) - (s : Int) = ((64 - s : Nat) : Int) := by omega
    rw [this]; exact wuN (by omega)
  have hp64 : 2 ^ bsz c * 2 ^ s = 18446744073709551616 := by rw [← Nat.pow_add, hs]
  have hp64' : 2 ^ (64 - s) * 2 ^ s = 18446744073709551616 := pow_split (by omega)
  have hsp := pow_pos2 s
  have hcs : c < 2 ^ bsz c := bsz_le.1 (Nat.le_refl _)
  have hcs2 : 2 ^ bsz c ≤ 2 * c := by
    rcases Nat.lt_or_ge (2 * c) (2 ^ bsz c) with h | h
    · have e : 2 ^ bsz c = 2 * 2 ^ (bsz c - 1) := by
        have : bsz c = (bsz c - 1) + 1 := by omega
        conv => lhs; rw [this, Nat.pow_succ, Nat.mul_comm]
      rw [e] at h
      have := bsz_le.2 (show c < 2 ^ (bsz c - 1) by omega)
      omega
    · exact h
  rw [elz, e64]
  simp only [Int.toNat_natCast]
  have hY1 : c * 2 ^ s < 18446744073709551616 := by rw [← hp64]; exact Nat.mul_lt_mul_of_pos_right hcs hsp
  have hY0 : 18446744073709551616 ≤ 2 * (c * 2 ^ s) := by
    have := Nat.mul_le_mul_right (2 ^ s) hcs2
    rw [hp64, Nat.mul_assoc] at this
    exact this
  have hA1 : (a + 1) * 2 ^ s ≤ c * 2 ^ s := Nat.mul_le_mul_right _ hac'
  have modN : ∀ x : Nat, x * 2 ^ s < 18446744073709551616 → (x % 2 ^ (64 - s)) * 2 ^ s = x * 2 ^ s := fun x hx => by
    rw [Nat.mod_eq_of_lt]
    rw [← hp64'] at hx
    exact Nat.lt_of_mul_lt_mul_right hx
  have eY : wu ((c : Int) * 2 ^ (min s IntKind.u64.bits)) = ((c * 2 ^ s : Nat) : Int) := by
    rw [show wu ((c : Int) * 2 ^ (min s IntKind.u64.bits)) = _ from shl_val (by omega), modN c hY1]
  have eA : wu ((a : Int) * 2 ^ (min s IntKind.u64.bits)) = ((a * 2 ^ s : Nat) : Int) := by
    rw [show wu ((a : Int) * 2 ^ (min s IntKind.u64.bits)) = _ from shl_val (by omega), modN a (by rw [Nat.add_mul] at hA1; omega)]
  have eB : wu ((b : Int) * 2 ^ (min s IntKind.u64.bits)) = (((b % 2 ^ (64 - s)) * 2 ^ s : Nat) : Int) := shl_val (by omega)
  have eR : (b : Int).fdiv ((2 : Int) ^ (min (64 - s) IntKind.u64.bits)) = ((b / 2 ^ (64 - s) : Nat) : Int) := shr_val (by omega)
  have hBl := mod_bound (d := b) (s := s) (by omega)
  have hBs := shift_split (d := b) (s := s) (by omega)
  rw [W_eq] at hBs
  have hRlt : b / 2 ^ (64 - s) < 2 ^ s := by
    rw [Nat.div_lt_iff_lt_mul (pow_pos2 _), Nat.mul_comm, hp64']; omega
  rw [eY, eA, eB, eR]
  generalize hB : b % 2 ^ (64 - s) * 2 ^ s = ub at hBl hBs ⊢
  generalize b / 2 ^ (64 - s) = br at hRlt hBs ⊢
  have eO : bitsv .or .u64 ((a * 2 ^ s : Nat) : Int) (br : Int) = ((br + a * 2 ^ s : Nat) : Int) := or_add' hRlt (by rw [Nat.add_mul] at hA1; omega) (by
    have : 2 ^ s ≤ 18446744073709551616 := Nat.pow_le_pow_right (n := 2) (by decide) (show s ≤ 64 by omega)
    omega)
  have e32 : Int.toNat 32 = 32 := rfl
  have sh32 : ∀ x : Nat, (x : Int).fdiv ((2 : Int) ^ (min 32 IntKind.u64.bits)) = ((x / 4294967296 : Nat) : Int) := fun x => shr_val (s := 32) (by decide)
  rw [eO, e32, sh32, sh32, and32 hY1, and32 hBl]
  have hun : br + a * 2 ^ s < c * 2 ^ s := by rw [Nat.add_mul] at hA1; omega
  have hN : (br + a * 2 ^ s) * 18446744073709551616 + ub = NN * 2 ^ s := by
    rw [hNN, Nat.add_mul, Nat.add_mul, ← hBs, Nat.mul_right_comm]
    omega
  have hquo : ((br + a * 2 ^ s) * 18446744073709551616 + ub) / (c * 2 ^ s) = NN / c := by rw [hN]; exact Nat.mul_div_mul_right _ _ hsp
  have hrem : ((br + a * 2 ^ s) * 18446744073709551616 + ub) % (c * 2 ^ s) = NN % c * 2 ^ s := by rw [hN]; exact Nat.mul_mod_mul_right _ _ _
  have hql : NN / c < 18446744073709551616 := by
    rw [Nat.div_lt_iff_lt_mul hcpos, Nat.mul_comm]
    omega
  unfold all139
  refine Br_of (fun h => ?_) (fun _ => Br_of (fun h => ?_) (fun _ => Br_of (fun h => ?_) (fun _ => ?_)))
  · have : (c : Int) = 0 := by simpa using h
    omega
  · have := of_decide_eq_true h; omega
  · have ha : (a : Int) = 0 := by simpa using h
    have ha : a = 0 := by omega
    have hNb : NN = b := by omega
    rw [hNb]
    refine ⟨by omega, by omega, ?_⟩
    rw [tdiv_nn (by omega), tmod_nn (by omega)]
    have : wu ((b : Int) / (c : Int)) = ((b / c : Nat) : Int) := wuN (n := b / c) (Nat.lt_of_le_of_lt (Nat.div_le_self _ _) (by omega))
    rw [this]; rfl
  generalize NN / c = Q at hquo hql ⊢
  generalize NN % c = R at hrem ⊢
  clear eY eA eB eR eO hpost modN
  generalize br + a * 2 ^ s = un at hun hN hquo hrem ⊢
  generalize c * 2 ^ s = Y at hY1 hY0 hun hquo hrem ⊢
  have dY := Nat.div_add_mod Y 4294967296
  have dY' := Nat.mod_lt Y (show 0 < 4294967296 by decide)
  have dU := Nat.div_add_mod ub 4294967296
  have dU' := Nat.mod_lt ub (show 0 < 4294967296 by decide)
  generalize Y / 4294967296 = v1 at dY ⊢
  generalize Y % 4294967296 = v0 at dY dY' ⊢
  generalize ub / 4294967296 = un1 at dU ⊢
  generalize ub % 4294967296 = un0 at dU dU' ⊢
  have hv1 : 2147483648 ≤ v1 ∧ v1 < 4294967296 := by omega
  have hYe : v1 * 4294967296 + v0 = Y := by rw [Nat.mul_comm]; exact dY
  have initQ : ∀ x : Nat, x < 18446744073709551616 → wu ((x : Int).tdiv (v1 : Int)) = ((x / v1 : Nat) : Int) ∧ wu ((x : Int) - wu (wu ((x : Int).tdiv (v1 : Int)) * (v1 : Int))) = ((x % v1 : Nat) : Int) := fun x hx => by
    have h1 : (x : Int).tdiv (v1 : Int) = ((x / v1 : Nat) : Int) := by rw [tdiv_nn (by omega)]; rfl
    have h2 := Nat.div_le_self x v1
    have h3 := Nat.div_add_mod x v1
    have h4 : wu ((x / v1 : Nat) : Int) = ((x / v1 : Nat) : Int) := wuN (by omega)
    have h5 : ((x / v1 : Nat) : Int) * (v1 : Int) = ((v1 * (x / v1) : Nat) : Int) := by rw [Nat.mul_comm]; rfl
    rw [h1, h4, h5, wuN (n := v1 * (x / v1)) (by omega)]
    refine ⟨rfl, ?_⟩
    have h6 : (x : Int) - ((v1 * (x / v1) : Nat) : Int) = ((x % v1 : Nat) : Int) := by omega
    rw [h6]; exact wuN (by have := Nat.mod_le x v1; omega)
  have subm := fun x q z => subm_eq (x := x) (q := q) (z := z) hY1 (show 0 < Y by omega)
  have divm : ∀ x : Nat, x % Y + x / Y * Y = x := fun x => by
    have := Nat.div_add_mod x Y
    rw [Nat.mul_comm] at this; omega
  refine ⟨⟨by omega, by omega⟩, by omega, by omega, by omega, by omega, by omega, by omega, by omega, ?_⟩
  rw [(initQ un (by omega)).1, show wu ((un : Int) - wu (((un / v1 : Nat) : Int) * (v1 : Int))) = ((un % v1 : Nat) : Int) from by rw [← (initQ un (by omega)).1]; exact (initQ un (by omega)).2]
  refine mend_ok ⟨hv1.1, hv1.2, dY', by omega, by omega⟩ ?_
  rw [hYe]
  have hm1 := divm (un * 4294967296 + un1)
  have es := subm un ((un * 4294967296 + un1) / Y) un1 hm1 (by omega)
  have hR1 := Nat.mod_lt (un * 4294967296 + un1) (show 0 < Y by omega)
  unfold mid139
  rw [es]
  generalize (un * 4294967296 + un1) / Y = Q1 at hm1 ⊢
  generalize (un * 4294967296 + un1) % Y = R1 at hm1 hR1 ⊢
  clear es
  refine ⟨by omega, ?_⟩
  rw [(initQ R1 (by omega)).1, show wu ((R1 : Int) - wu (((R1 / v1 : Nat) : Int) * (v1 : Int))) = ((R1 % v1 : Nat) : Int) from by rw [← (initQ R1 (by omega)).1]; exact (initQ R1 (by omega)).2]
  have key := mend_ok (v1 := v1) (v0 := v0) (un := R1) (un1 := un0) ⟨hv1.1, hv1.2, dY', dU', by omega⟩ (K := fin139 (s : Int) (Y : Int) (ub : Int) (R1 : Int) (un0 : Int) (Q1 : Int) ((Q : Int), (R : Int), ())) ?_
  · obtain ⟨n, hn⟩ := key
    refine ⟨n, ?_⟩
    rw [itl_sw]
    exact hn
  rw [hYe]
  have hm0 := divm (R1 * 4294967296 + un0)
  have es0 := subm R1 ((R1 * 4294967296 + un0) / Y) un0 hm0 dU'
  unfold fin139
  rw [es0]
  have hR0 := Nat.mod_lt (R1 * 4294967296 + un0) (show 0 < Y by omega)
  clear es0
  generalize (R1 * 4294967296 + un0) / Y = Q0 at hm0 ⊢
  generalize (R1 * 4294967296 + un0) % Y = R0 at hm0 hR0 ⊢
  have htot := tot_eq hm1 hm0 dU
  have hYp : 0 < Y := by omega
  have hq : Q = Q1 * 4294967296 + Q0 := by rw [← hquo, htot, Nat.add_mul_div_left _ _ hYp, Nat.div_eq_of_lt hR0, Nat.zero_add]
  have hr : R * 2 ^ s = R0 := by rw [← hrem, htot, Nat.add_mul_mod_self_left, Nat.mod_eq_of_lt hR0]
  refine ⟨by omega, ?_⟩
  rw [Int.toNat_natCast, shr_val (by omega), ← hr, Nat.mul_div_cancel _ hsp]
  have h1 : wu ((Q1 : Int) * 4294967296) = ((Q1 * 4294967296 : Nat) : Int) := wuN (n := Q1 * 4294967296) (by omega)
  rw [h1]
  have h2 : wu (((Q1 * 4294967296 : Nat) : Int) + (Q0 : Int)) = ((Q1 * 4294967296 + Q0 : Nat) : Int) := wuN (n := Q1 * 4294967296 + Q0) (by omega)
  rw [h2, hq]

end Ta
end
section
/- The functions of natural numbers are sound. -/
set_option linter.unusedVariables false
set_option linter.unusedSimpArgs false
set_option maxRecDepth 100000
namespace Ta
open Go Fw Go.Proofs

theorem mixed : Tryz.prog.follows .mixedOrders = true := by kernel_rfl
theorem tokg {T : Ctx} (hfs : AllS Tryz.prog T.fs) (hpts : AllP Tryz.prog T.pts) (hpan : AllX Tryz.prog T.pt T.pan) (h1 : T.tt = tt := by rfl) (h2 : T.invs = [] := by rfl) (h3 : T.cv = none := by rfl) : Tok Tryz.prog T :=
  ⟨mixed, by rw [h1]; exact tt_all.spec, hfs.spec, fun n C h => (by rw [h2] at h; cases h), fun C h => (by rw [h3] at h; cases h), hpts.spec, hpan.spec⟩

theorem ptw_cases {K base : Nat} {pre : List Int → Int → Int → List Int → List D → Prop} {res : List Int → Int → Int → List Int → List D → List D} {new : List Int → Int → Int → List Int → List D → List Int}
    {avs : List AV} {h : Hp} {p : Prop} {v : AV} {h' : Hp} (e : (ptW K base pre res new).fn avs h = some (p, v, h')) :
    ∃ (f : Bool) (lo n : Int) (vv : List Int) (ds : List D) (rest : List AV) (xs : List Int), avs = .win K 1 lo n :: .d (.slc f (.int .u64) vv) :: rest ∧ h = upd h K (some (.row 112 (.int .u64) xs)) ∧ qmakeFunc.datas rest = some ds ∧
      p = pre xs lo n vv ds ∧ v = resAV (res xs lo n vv ds) ∧ h' = upd h K (some (.row 112 (.int .u64) (new xs lo n vv ds))) := by
  unfold ptW at e
  simp only at e
  split at e
  · rename_i K' lo n f vv rest
    split at e
    · rename_i xs ds hk hrow hds
      have := Nat.eq_of_beq_eq_true hk
      subst this
      injection e with e
      injection e with e1 e2
      injection e2 with e2 e3
      refine ⟨f, lo, n, vv, _, rest, _, rfl, ?_, hds, e1.symm, e2.symm, e3.symm⟩
      funext id
      rw [upd_eq]
      split
      · rename_i e; subst e; exact hrow
      · rfl
    · cases e
  · cases e
theorem datas_nil : ∀ {rest : List AV}, qmakeFunc.datas rest = some [] → rest = []
  | [], _ => rfl
  | x :: l, h => by
    unfold qmakeFunc.datas at h
    split at h
    · rename_i e; cases e
    · split at h
      · injection h with h; cases h
      · cases h
    · cases h
theorem datas_int {rest : List AV} {q : Int} (h : qmakeFunc.datas rest = some [.int .u64 q]) : rest = [.d (.int .u64 q)] := by
  unfold qmakeFunc.datas at h
  split at h
  · injection h with h; cases h
  · split at h
    · rename_i d l ds hds
      injection h with h
      injection h with h1 h2
      subst h1 h2
      rw [datas_nil hds]
    · cases h
  · cases h
theorem qD_int {ds : List D} (h : 0 ≤ Pl.qD ds) : ∃ q, ds = [.int .u64 q] := by
  unfold Pl.qD at h
  split at h
  · exact ⟨_, rfl⟩
  · omega

theorem vc130 : ∀ x, C130.pre x → VC T130 H0 Tryz.f130 C130 x := by
  rintro ⟨(u : Int), (b : Int), ⟨⟩⟩ hx
  refine cast (α := (((0 : Int) ≤ u ∧ u < (18446744073709551616 : Int)) ∧ b = (10 : Int)) ∧ (Pl.decS u, ()) = C130.post (u, b, ())) (by kernel_rfl) ?_
  exact ⟨hx, rfl⟩

theorem snd130 : Sound Tryz.prog 130 C130 := fn_sound (T := T130) (fn := Tryz.f130) (tokg (T := T130) ⟨snd148, trivial⟩ trivial trivial) Tryz.func130 (by kernel_rfl) H0 vc130 (by kernel_rfl)
theorem snd134 : Sound Tryz.prog 134 C134 := fn_sound (T := T0) (fn := Tryz.f134) (tokg (T := T0) trivial trivial trivial) Tryz.func134 (by kernel_rfl) H0 vc134 (by kernel_rfl)
theorem snd135 : Sound Tryz.prog 135 C135 := fn_sound (T := T0) (fn := Tryz.f135) (tokg (T := T0) trivial trivial trivial) Tryz.func135 (by kernel_rfl) H0 vc135 (by kernel_rfl)
theorem snd136 : Sound Tryz.prog 136 C136 := fn_sound (T := T0) (fn := Tryz.f136) (tokg (T := T0) trivial trivial trivial) Tryz.func136 (by kernel_rfl) H136 vc136 (by kernel_rfl)
theorem snd111 : Sound Tryz.prog 111 C111 := fn_sound (T := T111) (fn := Tryz.f111) (tokg (T := T111) ⟨snd136, trivial⟩ trivial trivial) Tryz.func111 (by kernel_rfl) H0 vc111 (by kernel_rfl)
theorem snd105 : Sound Tryz.prog 105 C105 := fn_sound (T := T0) (fn := Tryz.f105) (tokg (T := T0) trivial trivial trivial) Tryz.func105 (by kernel_rfl) H0 vc105 (by kernel_rfl)
theorem snd107 : Sound Tryz.prog 107 C107 := fn_sound (T := T107) (fn := Tryz.f107) (tokg (T := T107) ⟨snd134, snd135, trivial⟩ trivial trivial) Tryz.func107 (by kernel_rfl) H107 vc107 (by kernel_rfl)
theorem snd120 : Sound Tryz.prog 120 C120 := fn_sound (T := T120) (fn := Tryz.f120) (tokg (T := T120) ⟨snd105, snd138, snd136, trivial⟩ trivial trivial) Tryz.func120 (by kernel_rfl) H120 vc120 (by kernel_rfl)
theorem snd121 : Sound Tryz.prog 121 C121 := fn_sound (T := T121) (fn := Tryz.f121) (tokg (T := T121) ⟨snd105, snd144, snd136, trivial⟩ trivial trivial) Tryz.func121 (by kernel_rfl) H121 vc121 (by kernel_rfl)
theorem snd112 : Sound Tryz.prog 112 C112 := fn_sound (T := T112) (fn := Tryz.f112) (tokg (T := T112) ⟨snd137, snd138, snd136, trivial⟩ trivial trivial) Tryz.func112 (by kernel_rfl) H112 vc112 (by kernel_rfl)
theorem snd77 : Sound Tryz.prog 77 C77 := fn_sound (T := T77) (fn := Tryz.f77) (tokg (T := T77) ⟨snd122, trivial⟩ trivial trivial) Tryz.func77 (by kernel_rfl) H0 vc77 (by kernel_rfl)
theorem snd139 : Sound Tryz.prog 139 C139 := fn_sound (T := T139) (fn := Tryz.f139) (tokg (T := T139) ⟨snd122, trivial⟩ trivial trivial) Tryz.func139 (by kernel_rfl) H139 vc139 (by kernel_rfl)
theorem snd114 : Sound Tryz.prog 114 C114 := fn_sound (T := T114) (fn := Tryz.f114) (tokg (T := T114) ⟨snd139, snd136, trivial⟩ trivial trivial) Tryz.func114 (by kernel_rfl) H114 vc114 (by kernel_rfl)
theorem snd140 : Sound Tryz.prog 140 C140 := fn_sound (T := T111) (fn := Tryz.f140) (tokg (T := T111) ⟨snd136, trivial⟩ trivial trivial) Tryz.func140 (by kernel_rfl) H140 vc140 (by kernel_rfl)
theorem snd141 : Sound Tryz.prog 141 C141 := fn_sound (T := T141) (fn := Tryz.f141) (tokg (T := T141) ⟨snd114, trivial⟩ trivial trivial) Tryz.func141 (by kernel_rfl) H0 vc141 (by kernel_rfl)
theorem snd143 : Sound Tryz.prog 143 C143 := fn_sound (T := T143) (fn := Tryz.f143) (tokg (T := T143) ⟨snd105, snd136, trivial⟩ trivial trivial) Tryz.func143 (by kernel_rfl) H143 vc143 (by kernel_rfl)
theorem snd154 : SoundPT Tryz.prog 154 pt154 := pt_sound (T := T154) (fn := Tryz.f154) (tokg (T := T154) ⟨snd105, snd137, snd138, snd144, trivial⟩ trivial trivial) Tryz.func154 (by kernel_rfl) H154 (fun avs h p v h' e hp => by
  obtain ⟨f, lo, n, vv, ds, rest, xs, rfl, eh, hd, rfl, rfl, rfl⟩ := ptw_cases e
  obtain ⟨q, rfl⟩ := qD_int hp.2.2.1
  obtain rfl := datas_int hd
  rw [eh]
  exact vcp154 hp) (by kernel_rfl)
theorem snd155 : SoundPT Tryz.prog 155 pt155 := pt_sound (T := T155) (fn := Tryz.f155) (tokg (T := T155) ⟨snd105, snd137, snd138, trivial⟩ trivial trivial) Tryz.func155 (by kernel_rfl) H155 (fun avs h p v h' e hp => by
  obtain ⟨f, lo, n, vv, ds, rest, xs, rfl, eh, hd, rfl, rfl, rfl⟩ := ptw_cases e
  obtain ⟨q, rfl⟩ := qD_int hp.2.2.1
  obtain rfl := datas_int hd
  rw [eh]
  exact vcp155 hp) (by kernel_rfl)
theorem snd142 : SoundPT Tryz.prog 142 pt142 := pt_sound (T := T142) (fn := Tryz.f142) (tokg (T := T142) ⟨snd139, trivial⟩ ⟨snd154, snd155, trivial⟩ trivial) Tryz.func142 (by kernel_rfl) H142 (fun avs h p v h' e hp => by
  obtain ⟨f, lo, n, vv, ds, rest, xs, rfl, eh, hd, rfl, rfl, rfl⟩ := ptw_cases e
  obtain rfl := hp.2.2.1
  obtain rfl := datas_nil hd
  rw [eh]
  exact vcp142 hp) (by kernel_rfl)
theorem snd119 : Sound Tryz.prog 119 C119 := fn_sound (T := T119) (fn := Tryz.f119) (tokg (T := T119) ⟨snd107, snd114, snd111, snd122, snd140, snd136, snd143, trivial⟩ ⟨snd142, trivial⟩ trivial) Tryz.func119 (by kernel_rfl) H119 vc119 (by kernel_rfl)
theorem snd108 : Sound Tryz.prog 108 C108 := fn_sound (T := T108) (fn := Tryz.f108) (tokg (T := T108) ⟨snd119, trivial⟩ trivial trivial) Tryz.func108 (by kernel_rfl) H108 vc108 (by kernel_rfl)
theorem snd118 : Sound Tryz.prog 118 C118 := fn_sound (T := T118) (fn := Tryz.f118) (tokg (T := T118) ⟨snd111, snd77, snd140, snd119, snd120, snd141, snd107, trivial⟩ trivial trivial) Tryz.func118 (by kernel_rfl) H118 vc118 (by kernel_rfl)
theorem snd113 : SoundX Tryz.prog 130 113 C113 := fnx_sound (T := T113) (fn := Tryz.f113) (tokg (T := T113) ⟨snd77, trivial⟩ trivial trivial) Tryz.func113 (by kernel_rfl) H0 vcx113 (by kernel_rfl)

end Ta
end
section
/- A natural number's text: the pieces. -/
set_option linter.unusedVariables false
set_option linter.unusedSimpArgs false
set_option maxRecDepth 100000
namespace Ta
open Go Fw Go.Proofs Pl

/-! ### Decimal digits in pieces -/
def padk : Nat → Nat → List UInt8
  | 0, _ => []
  | k + 1, r => padk k (r / 10) ++ [UInt8.ofNat (48 + r % 10)]
theorem dec_small {u : Nat} (h : u < 10) : Lib.decDigits u = [UInt8.ofNat (48 + u)] := by rw [Lib.decDigits, dif_pos h]
theorem dec_big {u : Nat} (h : ¬ u < 10) : Lib.decDigits u = Lib.decDigits (u / 10) ++ [UInt8.ofNat (48 + u % 10)] := by rw [Lib.decDigits, dif_neg h]
theorem dec_split : ∀ (k n : Nat), 0 < n / 10 ^ k → Lib.decDigits n = Lib.decDigits (n / 10 ^ k) ++ padk k (n % 10 ^ k)
  | 0, n, _ => by simp [padk]
  | k + 1, n, h => by
    have e1 : n / 10 ^ (k + 1) = n / 10 / 10 ^ k := by rw [Nat.pow_succ, Nat.mul_comm, Nat.div_div_eq_div_mul]
    rw [e1] at h ⊢
    have h10 : ¬ n < 10 := fun h1 => by
      rw [Nat.div_eq_of_lt h1] at h; simp at h
    have ih := dec_split k (n / 10) h
    rw [dec_big h10, ih, List.append_assoc]
    congr 1
    have e2 : n % 10 ^ (k + 1) / 10 = n / 10 % 10 ^ k := by rw [Nat.pow_succ, Nat.mul_comm (10 ^ k) 10, Nat.mod_mul_right_div_self]
    have e3 : n % 10 ^ (k + 1) % 10 = n % 10 := by rw [Nat.pow_succ]; exact Nat.mod_mul_left_mod _ _ _
    show _ = padk k (n % 10 ^ (k + 1) / 10) ++ [UInt8.ofNat (48 + n % 10 ^ (k + 1) % 10)]
    rw [e2, e3]
theorem padk_zero : ∀ k, padk k 0 = List.replicate k 48
  | 0 => rfl
  | k + 1 => by
    show padk k (0 / 10) ++ [UInt8.ofNat (48 + 0 % 10)] = _
    rw [Nat.zero_div, padk_zero k, List.replicate_succ']
    rfl
theorem padk_dec : ∀ (k r : Nat), 1 ≤ k → r < 10 ^ k → (Lib.decDigits r).length ≤ k ∧ padk k r = List.replicate (k - (Lib.decDigits r).length) 48 ++ Lib.decDigits r
  | 0, _, h, _ => by omega
  | k + 1, r, _, hr => by
    by_cases h : r < 10
    · rw [dec_small h]
      refine ⟨by simp, ?_⟩
      show padk k (r / 10) ++ [UInt8.ofNat (48 + r % 10)] = _
      rw [Nat.div_eq_of_lt h, Nat.mod_eq_of_lt h, padk_zero]
      rfl
    · have hk : 1 ≤ k := by
        rcases Nat.eq_zero_or_pos k with h0 | h0
        · subst h0; rw [Nat.zero_add, Nat.pow_one] at hr; omega
        · exact h0
      have hr' : r / 10 < 10 ^ k := by rw [Nat.div_lt_iff_lt_mul (by decide)]; rw [Nat.pow_succ] at hr; exact hr
      obtain ⟨i1, i2⟩ := padk_dec k (r / 10) hk hr'
      rw [dec_big h]
      refine ⟨by simp; exact i1, ?_⟩
      show padk k (r / 10) ++ [UInt8.ofNat (48 + r % 10)] = _
      rw [i2, List.append_assoc, List.length_append, List.length_singleton]
      congr 2
      omega
theorem repeat_one : ∀ c, Lib.repeatL [48] c = List.replicate c 48
  | 0 => rfl
  | c + 1 => by show [48] ++ Lib.repeatL [48] c = _; rw [repeat_one c]; rfl
theorem joinR_snoc : ∀ (l : List ByteArray) (s : ByteArray), joinR (l ++ [s]) = bl s ++ joinR l
  | [], s => by simp [joinR]
  | x :: l, s => by simp only [List.cons_append, joinR, joinR_snoc l s, List.append_assoc]
theorem szs_join : ∀ l : List ByteArray, szs l = (joinR l).length
  | [] => rfl
  | s :: l => by simp only [szs, joinR, szs_join l, List.length_append, size_bl]; omega
theorem dec_len {n k : Nat} (hk : 1 ≤ k) (h : n < 10 ^ k) : (Lib.decDigits n).length ≤ k := (padk_dec k n hk h).1

theorem vc103 : ∀ x : List Int, C103.pre (x, ()) → VC103 x := by
  rintro x ⟨(hx : okN x), (hl : x.length ≤ 100000000)⟩
  refine cast (α := ∃ (n : Nat), itl (fun (G : List Int × List ByteArray × PUnit → Prop) (x_1 : List Int × List ByteArray × PUnit) => Br (decide ((↑(List.length x_1.fst) : Int) > (0 : Int))) ((Pl.okN x_1.1 ∧ (0 : Int) < (10000000000000000000 : Int) ∧ (10000000000000000000 : Int) < (18446744073709551616 : Int)) ∧ (((0 : Int) ≤ Pl.rwN x_1.1 (10000000000000000000 : Int) ∧ Pl.rwN x_1.1 (10000000000000000000 : Int) < (18446744073709551616 : Int)) ∧ (10 : Int) = (10 : Int)) ∧ Br (decide ((↑(Pl.qwN x_1.1 (10000000000000000000 : Int)).length : Int) > (0 : Int))) (((0 : Int) ≤ IntKind.i64.wrap ((19 : Int) - (↑(Pl.decS (Pl.rwN x_1.1 (10000000000000000000 : Int))).size : Int)) ∧ IntKind.i64.wrap ((19 : Int) - (↑(Pl.decS (Pl.rwN x_1.1 (10000000000000000000 : Int))).size : Int)) ≤ (1000000 : Int) ∧ (ByteArray.mk #[(48 : UInt8)]).size ≤ (1000000 : Nat)) ∧ (↑((Pl.repS (ByteArray.mk #[(48 : UInt8)]) (IntKind.i64.wrap ((19 : Int) - (↑(Pl.decS (Pl.rwN x_1.1 (10000000000000000000 : Int))).size : Int)))).size + (Pl.decS (Pl.rwN x_1.1 (10000000000000000000 : Int))).size) : Int) ≤ (9223372036854775807 : Int) ∧ ((↑(List.length x_1.snd.fst) : Int) + (↑[Pl.repS (ByteArray.mk #[(48 : UInt8)]) (IntKind.i64.wrap ((19 : Int) - (↑(Pl.decS (Pl.rwN x_1.1 (10000000000000000000 : Int))).size : Int))) ++ Pl.decS (Pl.rwN x_1.1 (10000000000000000000 : Int))].length : Int)) * (16 : Int) ≤ (140737488355328 : Int) ∧ G (Pl.qwN x_1.1 (10000000000000000000 : Int), List.append x_1.snd.fst [Pl.repS (ByteArray.mk #[(48 : UInt8)]) (IntKind.i64.wrap ((19 : Int) - (↑(Pl.decS (Pl.rwN x_1.1 (10000000000000000000 : Int))).size : Int))) ++ Pl.decS (Pl.rwN x_1.1 (10000000000000000000 : Int))], ())) (((↑(List.length x_1.snd.fst) : Int) + (↑[Pl.decS (Pl.rwN x_1.1 (10000000000000000000 : Int))].length : Int)) * (16 : Int) ≤ (140737488355328 : Int) ∧ G (Pl.qwN x_1.1 (10000000000000000000 : Int), List.append x_1.snd.fst [Pl.decS (Pl.rwN x_1.1 (10000000000000000000 : Int))], ()))) (Br ((↑(List.length x_1.snd.fst) : Int) == (0 : Int)) (((ByteArray.mk #[(48 : UInt8)]), ()) = C103.post (x, ())) (x_1.snd.1 ≠ [] ∧ List.length x_1.snd.1 ≤ (100000000000 : Nat) ∧ Pl.szs x_1.snd.1 ≤ (140737488355328 : Nat) ∧ Pl.joinR x_1.snd.1 = Lib.decDigits (Pl.nt x)))) n (x, [], ())) (by kernel_rfl) ?_
  have e : C103.post (x, ()) = (ba (Lib.decDigits (nt x)), ()) := rfl
  rw [e]
  obtain ⟨X, hX⟩ : ∃ X, X = nt x := ⟨_, rfl⟩
  rw [← hX]
  have hXW : X < W ^ x.length := by rw [hX]; exact nt_lt hx.1
  have hW64 : (W : Nat) ^ x.length = 2 ^ (64 * x.length) := by rw [Nat.pow_mul]; rfl
  have hWX : W ^ x.length ≤ 10 ^ (20 * x.length) := by
    rw [Nat.pow_mul]
    exact Nat.pow_le_pow_left (by decide) _
  have hlen : 1 ≤ x.length → (Lib.decDigits X).length ≤ 20 * x.length := fun h => dec_len (by omega) (Nat.lt_of_lt_of_le hXW hWX)
  have hnil : x.length = 0 → X = 0 := fun h => by
    rw [h, Nat.pow_zero] at hXW; omega
  have hlen2 : (Lib.decDigits X).length ≤ 2000000001 := by
    rcases Nat.eq_zero_or_pos x.length with h | h
    · rw [hnil h, dec_small (by decide)]; decide
    · have := hlen h; omega
  refine itl_rule (fun s => okN s.1 ∧ 2 ^ s.2.1.length * nt s.1 ≤ X ∧ (s.2.1.length ≤ 64 * x.length) ∧ (s.2.1 = [] → nt s.1 = X) ∧ (0 < nt s.1 → Lib.decDigits (nt s.1) ++ joinR s.2.1 = Lib.decDigits X) ∧ (nt s.1 = 0 → s.2.1 ≠ [] → joinR s.2.1 = Lib.decDigits X))
    (fun s => nt s.1) ⟨hx, by show 2 ^ 0 * nt x ≤ X; rw [hX]; omega, Nat.zero_le _, fun _ => hX.symm, fun _ => by show Lib.decDigits (nt x) ++ [] = _; rw [List.append_nil, hX], fun _ h => absurd rfl h⟩ ?_
  rintro ⟨q, ys, ⟨⟩⟩ G ⟨g1, g2, g3, g4, g5, g6⟩ hG
  simp only at g1 g2 g3 g4 g5 g6
  simp only
  have eq1 : qwN q (10000000000000000000 : Int) = tn (nt q / 10000000000000000000) := rfl
  have er1 : rwN q (10000000000000000000 : Int) = ((nt q % 10000000000000000000 : Nat) : Int) := rfl
  rw [eq1, er1]
  refine Br_of (fun hb => ?_) (fun hb => ?_)
  · have hq0 : 0 < nt q := (len_pos_nt g1.1).1 (by have := of_decide_eq_true hb; omega)
    have hrl := Nat.mod_lt (nt q) (show 0 < 10000000000000000000 by decide)
    have hk : ys.length < 64 * x.length := by
      have h1 : 2 ^ ys.length < 2 ^ (64 * x.length) := by
        rw [← hW64]
        exact Nat.lt_of_le_of_lt (Nat.le_trans (Nat.le_mul_of_pos_right _ hq0) g2) hXW
      exact (Nat.pow_lt_pow_iff_right (by decide)).1 h1
    have hdl : (Lib.decDigits (nt q % 10000000000000000000)).length ≤ 19 := dec_len (k := 19) (by decide) hrl
    have eds : decS ((nt q % 10000000000000000000 : Nat) : Int) = ba (Lib.decDigits (nt q % 10000000000000000000)) := by
      show ba (Lib.decDigits ((nt q % 10000000000000000000 : Nat) : Int).toNat) = _
      rw [Int.toNat_natCast]
    rw [eds]
    have hsz : (ba (Lib.decDigits (nt q % 10000000000000000000))).size = (Lib.decDigits (nt q % 10000000000000000000)).length := rfl
    rw [hsz]
    have hq' : nt q / 10000000000000000000 < nt q := Nat.div_lt_self hq0 (by decide)
    have hokq : okN (tn (nt q / 10000000000000000000)) := by
      refine okM_N (okM_tn (k := x.length) ?_ (by omega))
      have : nt q ≤ X := Nat.le_trans (Nat.le_mul_of_pos_left _ (Nat.two_pow_pos _)) g2
      omega
    have hpw : 2 ^ (ys.length + 1) * (nt q / 10000000000000000000) ≤ X := by
      refine Nat.le_trans ?_ g2
      rw [Nat.pow_succ, Nat.mul_assoc]
      exact Nat.mul_le_mul_left _ (by omega)
    refine ⟨⟨g1, by decide, by decide⟩, ⟨⟨by omega, by omega⟩, trivial⟩, Br_of (fun hc => ?_) (fun hc => ?_)⟩
    · have hqp : 0 < nt q / 10000000000000000000 := by
        have := (len_pos_nt (tn_can (nt q / 10000000000000000000))).1 (by have := of_decide_eq_true hc; omega)
        rwa [nt_tn] at this
      have w1 : IntKind.i64.wrap ((19 : Int) - ((Lib.decDigits (nt q % 10000000000000000000)).length : Int)) = ((19 - (Lib.decDigits (nt q % 10000000000000000000)).length : Nat) : Int) := by
        rw [wrap_i64 (by omega) (by omega)]; omega
      rw [w1]
      have epad : repS (ByteArray.mk #[(48 : UInt8)]) ((19 - (Lib.decDigits (nt q % 10000000000000000000)).length : Nat) : Int) ++ ba (Lib.decDigits (nt q % 10000000000000000000)) = ba (padk 19 (nt q % 10000000000000000000)) := by
        rw [(padk_dec 19 _ (by decide) hrl).2, ← repeat_one]
        show ba (Lib.repeatL [48] ((19 - (Lib.decDigits (nt q % 10000000000000000000)).length : Nat) : Int).toNat) ++ ba _ = _
        rw [Int.toNat_natCast]
        unfold ba
        apply ByteArray.ext
        simp
      have esz : (repS (ByteArray.mk #[(48 : UInt8)]) ((19 - (Lib.decDigits (nt q % 10000000000000000000)).length : Nat) : Int)).size = 19 - (Lib.decDigits (nt q % 10000000000000000000)).length := by
        show (ba (Lib.repeatL [48] ((19 - (Lib.decDigits (nt q % 10000000000000000000)).length : Nat) : Int).toNat)).size = _
        rw [Int.toNat_natCast, size_bl, bl_ba, repeat_one, List.length_replicate]
      rw [epad, esz]
      refine ⟨⟨by omega, by omega, by decide⟩, by omega, by simp only [List.length_singleton]; omega, hG _ ⟨hokq, ?_, ?_, ?_, ?_, ?_⟩ ?_⟩
      · show 2 ^ (ys ++ [ba (padk 19 (nt q % 10000000000000000000))]).length * nt (tn (nt q / 10000000000000000000)) ≤ X
        rw [nt_tn, List.length_append]; exact hpw
      · show (ys ++ [ba (padk 19 (nt q % 10000000000000000000))]).length ≤ _
        rw [List.length_append, List.length_singleton]; omega
      · intro h
        have h' : ys ++ [ba (padk 19 (nt q % 10000000000000000000))] = [] := h
        simp at h'
      · intro _
        show Lib.decDigits (nt (tn (nt q / 10000000000000000000))) ++ joinR (ys ++ [ba (padk 19 (nt q % 10000000000000000000))]) = _
        rw [nt_tn, joinR_snoc, bl_ba, ← List.append_assoc, ← g5 hq0]
        have := dec_split 19 (nt q) hqp
        rw [this]
      · intro h
        have h' : nt (tn (nt q / 10000000000000000000)) = 0 := h
        rw [nt_tn] at h'
        omega
      · show nt (tn (nt q / 10000000000000000000)) < nt q
        rw [nt_tn]; exact hq'
    · have hqz : nt q / 10000000000000000000 = 0 := by
        have := mt (len_pos_nt (tn_can (nt q / 10000000000000000000))).2 (by have := of_decide_eq_false hc; omega)
        rw [nt_tn] at this
        omega
      have hqm : nt q % 10000000000000000000 = nt q := Nat.mod_eq_of_lt (by omega)
      refine ⟨by simp only [List.length_singleton]; omega, hG _ ⟨hokq, ?_, ?_, ?_, ?_, ?_⟩ ?_⟩
      · show 2 ^ (ys ++ [ba (Lib.decDigits (nt q % 10000000000000000000))]).length * nt (tn (nt q / 10000000000000000000)) ≤ X
        rw [nt_tn, List.length_append]; exact hpw
      · show (ys ++ [ba (Lib.decDigits (nt q % 10000000000000000000))]).length ≤ _
        rw [List.length_append, List.length_singleton]; omega
      · intro h
        have h' : ys ++ [ba (Lib.decDigits (nt q % 10000000000000000000))] = [] := h
        simp at h'
      · intro h
        have h' : 0 < nt (tn (nt q / 10000000000000000000)) := h
        rw [nt_tn] at h'
        omega
      · intro _ _
        show joinR (ys ++ [ba (Lib.decDigits (nt q % 10000000000000000000))]) = _
        rw [joinR_snoc, bl_ba, hqm]
        exact g5 hq0
      · show nt (tn (nt q / 10000000000000000000)) < nt q
        rw [nt_tn]; exact hq'
  · have hq0 : nt q = 0 := by
      have := mt (len_pos_nt g1.1).2 (by have := of_decide_eq_false hb; omega)
      omega
    refine Br_of (fun hc => ?_) (fun hc => ?_)
    · have hys : ys = [] := List.eq_nil_of_length_eq_zero (by have : ((ys.length : Nat) : Int) = 0 := by simpa using hc
                                                              omega)
      have : X = 0 := by rw [← g4 hys]; exact hq0
      rw [this, dec_small (by decide)]; rfl
    · have hys : ys ≠ [] := fun h => by rw [h] at hc; exact absurd hc (by decide)
      have hj := g6 hq0 hys
      exact ⟨hys, by omega, by rw [szs_join, hj]; omega, hj⟩

end Ta
end
section
/- A natural number's text: the Builder. -/
set_option linter.unusedVariables false
set_option linter.unusedSimpArgs false
set_option maxRecDepth 100000
namespace Ta
open Go Fw Go.Proofs Go.RowKit Pl

theorem list_cons {n : Nat} {l : List Value} (h : l.length = n + 1) : ∃ x l', l = x :: l' ∧ l'.length = n := by
  cases l with
  | nil => simp at h
  | cons x l' => exact ⟨x, l', rfl, by simpa using h⟩
theorem arr47 {t : Array Value} (h : t.size = 47) : ∃ x0 x1 x2 x3 x4 x5 x6 x7 x8 x9 x10 x11 x12 x13 x14 x15 x16 x17 x18 x19 x20 x21 x22 x23 x24 x25 x26 x27 x28 x29 x30 x31 x32 x33 x34 x35 x36 x37 x38 x39 x40 x41 x42 x43 x44 x45 x46 : Value, t = #[x0, x1, x2, x3, x4, x5, x6, x7, x8, x9, x10, x11, x12, x13, x14, x15, x16, x17, x18, x19, x20, x21, x22, x23, x24, x25, x26, x27, x28, x29, x30, x31, x32, x33, x34, x35, x36, x37, x38, x39, x40, x41, x42, x43, x44, x45, x46] := by
  obtain ⟨l⟩ := t
  have h : l.length = 47 := h
  obtain ⟨x0, l0, e0, h0⟩ := list_cons h
  obtain ⟨x1, l1, e1, h1⟩ := list_cons h0
  obtain ⟨x2, l2, e2, h2⟩ := list_cons h1
  obtain ⟨x3, l3, e3, h3⟩ := list_cons h2
  obtain ⟨x4, l4, e4, h4⟩ := list_cons h3
  obtain ⟨x5, l5, e5, h5⟩ := list_cons h4
  obtain ⟨x6, l6, e6, h6⟩ := list_cons h5
  obtain ⟨x7, l7, e7, h7⟩ := list_cons h6
  obtain ⟨x8, l8, e8, h8⟩ := list_cons h7
  obtain ⟨x9, l9, e9, h9⟩ := list_cons h8
  obtain ⟨x10, l10, e10, h10⟩ := list_cons h9
  obtain ⟨x11, l11, e11, h11⟩ := list_cons h10
  obtain ⟨x12, l12, e12, h12⟩ := list_cons h11
  obtain ⟨x13, l13, e13, h13⟩ := list_cons h12
  obtain ⟨x14, l14, e14, h14⟩ := list_cons h13
  obtain ⟨x15, l15, e15, h15⟩ := list_cons h14
  obtain ⟨x16, l16, e16, h16⟩ := list_cons h15
  obtain ⟨x17, l17, e17, h17⟩ := list_cons h16
  obtain ⟨x18, l18, e18, h18⟩ := list_cons h17
  obtain ⟨x19, l19, e19, h19⟩ := list_cons h18
  obtain ⟨x20, l20, e20, h20⟩ := list_cons h19
  obtain ⟨x21, l21, e21, h21⟩ := list_cons h20
  obtain ⟨x22, l22, e22, h22⟩ := list_cons h21
  obtain ⟨x23, l23, e23, h23⟩ := list_cons h22
  obtain ⟨x24, l24, e24, h24⟩ := list_cons h23
  obtain ⟨x25, l25, e25, h25⟩ := list_cons h24
  obtain ⟨x26, l26, e26, h26⟩ := list_cons h25
  obtain ⟨x27, l27, e27, h27⟩ := list_cons h26
  obtain ⟨x28, l28, e28, h28⟩ := list_cons h27
  obtain ⟨x29, l29, e29, h29⟩ := list_cons h28
  obtain ⟨x30, l30, e30, h30⟩ := list_cons h29
  obtain ⟨x31, l31, e31, h31⟩ := list_cons h30
  obtain ⟨x32, l32, e32, h32⟩ := list_cons h31
  obtain ⟨x33, l33, e33, h33⟩ := list_cons h32
  obtain ⟨x34, l34, e34, h34⟩ := list_cons h33
  obtain ⟨x35, l35, e35, h35⟩ := list_cons h34
  obtain ⟨x36, l36, e36, h36⟩ := list_cons h35
  obtain ⟨x37, l37, e37, h37⟩ := list_cons h36
  obtain ⟨x38, l38, e38, h38⟩ := list_cons h37
  obtain ⟨x39, l39, e39, h39⟩ := list_cons h38
  obtain ⟨x40, l40, e40, h40⟩ := list_cons h39
  obtain ⟨x41, l41, e41, h41⟩ := list_cons h40
  obtain ⟨x42, l42, e42, h42⟩ := list_cons h41
  obtain ⟨x43, l43, e43, h43⟩ := list_cons h42
  obtain ⟨x44, l44, e44, h44⟩ := list_cons h43
  obtain ⟨x45, l45, e45, h45⟩ := list_cons h44
  obtain ⟨x46, l46, e46, h46⟩ := list_cons h45
  have e47 : l46 = [] := List.eq_nil_of_length_eq_zero h46
  subst e47 e46 e45 e44 e43 e42 e41 e40 e39 e38 e37 e36 e35 e34 e33 e32 e31 e30 e29 e28 e27 e26 e25 e24 e23 e22 e21 e20 e19 e18 e17 e16 e15 e14 e13 e12 e11 e10 e9 e8 e7 e6 e5 e4 e3 e2 e1 e0
  exact ⟨_, _, _, _, _, _, _, _, _, _, _, _, _, _, _, _, _, _, _, _, _, _, _, _, _, _, _, _, _, _, _, _, _, _, _, _, _, _, _, _, _, _, _, _, _, _, _, rfl⟩

def mu7 (a : Act) : Nat := (intOf (a.tmps.getD 7 undef) + 1).toNat
def inv103 (ys : List ByteArray) (g cap : Nat) (w : World) (a' : Act) (w' : World) : Prop :=
  ∃ k : Nat, k ≤ ys.length ∧ a'.defers = [] ∧ a'.tmps.size = 47 ∧ a'.tmps.getD 3 undef = .slice (some ⟨g, 0, none⟩) ys.length cap ∧ a'.tmps.getD 6 undef = .pointer (some ⟨w.heap.size, 0, none⟩) ∧
      a'.tmps.getD 7 undef = .int .i64 ((ys.length : Int) - k - 1) ∧ Lib.IsBuilder 139 5 w.heap.size w.heap.size (Lib.byteCells (joinR (ys.drop (ys.length - k)))) w' ∧ Below w.heap.size w w'
theorem joinR_drop {ys : List ByteArray} {m k : Nat} (hm : m + k + 1 = ys.length) : joinR (ys.drop (ys.length - (k + 1))) = joinR (ys.drop (ys.length - k)) ++ bl (ys[m]'(by omega)) := by
  have e1 : ys.length - (k + 1) = m := by omega
  have e2 : ys.length - k = m + 1 := by omega
  rw [e1, e2, List.drop_eq_getElem_cons (by omega)]
  rfl
theorem szs_drop {ys : List ByteArray} : ∀ {m : Nat}, szs (ys.drop m) ≤ szs ys := by
  induction ys with
  | nil => intro m; simp
  | cons s l ih =>
    intro m
    cases m with
    | zero => exact Nat.le_refl _
    | succ m => have := ih (m := m); simp only [List.drop_succ_cons, szs]; omega
theorem tail103 {ys : List ByteArray} {w : World} {a : Act} {Q : Exit → Act → World → Prop} {g cap : Nat} (hsz : a.tmps.size = 47) (hdf : a.defers = []) (hys : ys ≠ [])
    (h3 : a.tmps.getD 3 undef = .slice (some ⟨g, 0, none⟩) ys.length cap) (hl : ys.length ≤ 100000000000) (hs : szs ys ≤ 140737488355328)
    (hc : ∀ (j : Nat) (h : j < ys.length), w.cell? ⟨g, j, none⟩ = some (.string ys[j]))
    (hQ : ∀ a' w', a'.tmps.size = 47 → a'.defers = [] → a'.tmps.getD 2 undef = .string (ba (joinR ys)) → Below w.heap.size w w' → Q .ret a' w') : rest103.wp Tryz.prog Q a w := by
  obtain ⟨tmps, defers⟩ := a
  simp only at hsz hdf h3
  subst hdf
  obtain ⟨x0, x1, x2, x3, x4, x5, x6, x7, x8, x9, x10, x11, x12, x13, x14, x15, x16, x17, x18, x19, x20, x21, x22, x23, x24, x25, x26, x27, x28, x29, x30, x31, x32, x33, x34, x35, x36, x37, x38, x39, x40, x41, x42, x43, x44, x45, x46, rfl⟩ := arr47 hsz
  have e3 : x3 = .slice (some ⟨g, 0, none⟩) ys.length cap := h3
  subst e3
  clear h3 hsz
  have mixed : Tryz.prog.follows .mixedOrders = true := by kernel_rfl
  have t3 := Tryz.underlying3; have a3 := Tryz.isAgg3; have z3 := Tryz.sizeOf3; have v3 := Tryz.zeroValue3
  have t9 := Tryz.underlying9; have a9 := Tryz.isAgg9; have z9 := Tryz.sizeOf9; have v9 := Tryz.zeroValue9
  have t4 := Tryz.underlying4; have a4 := Tryz.isAgg4; have z4 := Tryz.sizeOf4; have v4 := Tryz.zeroValue4
  have t134 := Tryz.underlying134; have a134 := Tryz.isAgg134; have z134 := Tryz.sizeOf134; have v134 := Tryz.zeroValue134
  have t139 := Tryz.underlying139; have a139 := Tryz.isAgg139; have z139 := Tryz.sizeOf139; have v139 := Tryz.zeroValue139
  have e132 : ∀ args w, (callFunc 132 args).run Tryz.prog w = .ok (.enter 132 args) w := enters_of Tryz.func132 (by kernel_rfl) rfl
  have e133 : ∀ args w, (callFunc 133 args).run Tryz.prog w = .ok (.enter 133 args) w := enters_of Tryz.func133 (by kernel_rfl) rfl
  simp only [rest103, bd103, sL, sR, Tryz.f103]
  have hlp : 0 < ys.length := List.length_pos_iff.2 hys
  go_wp2
  refine wp_loop (inv103 ys g cap w) (fun a' _ => mu7 a')
    ⟨0, Nat.zero_le _, rfl, rfl, rfl, rfl, ?_, ?_, Below.alloc (Below.refl _ _) (Nat.le_refl _) _⟩ ?_
  · show Value.int .i64 _ = _
    simp
  · have h0 := Lib.fresh_isBuilder 139 5 w
    rw [Nat.sub_zero, List.drop_length]
    exact h0
  rintro ⟨tmps, defers⟩ w' ⟨k, hk, hd, hsz, h3, h6, h7, hB, hbel⟩
  simp only at hd hsz h3 h6 h7
  subst hd
  obtain ⟨x0, x1, x2, x3, x4, x5, x6, x7, x8, x9, x10, x11, x12, x13, x14, x15, x16, x17, x18, x19, x20, x21, x22, x23, x24, x25, x26, x27, x28, x29, x30, x31, x32, x33, x34, x35, x36, x37, x38, x39, x40, x41, x42, x43, x44, x45, x46, rfl⟩ := arr47 hsz
  have e3 : x3 = .slice (some ⟨g, 0, none⟩) ys.length cap := h3
  have e6 : x6 = .pointer (some ⟨w.heap.size, 0, none⟩) := h6
  have e7 : x7 = .int .i64 ((ys.length : Int) - k - 1) := h7
  subst e3 e6 e7
  clear h3 h6 h7 hsz
  by_cases hkn : k = ys.length
  · subst hkn
    have hbw : w.heap.size ≤ w'.heap.size := hbel.size
    rw [Nat.sub_self, List.drop_zero] at hB
    have em : (ys.length : Int) - ys.length - 1 = -1 := by omega
    rw [em]
    have hstr := Lib.hid (Any.Builder_String_any (ρ := sl105_ren) { sl105 with } be105 w.heap.size w.heap.size (joinR ys) _ hB hbw)
    go_wp2_with (go_at_fn 133; refine hstr.out.mono ?_; rintro e w'' ⟨rfl, hb2⟩)
    exact hQ _ _ rfl rfl rfl (hbel.trans hb2)
  · obtain ⟨m, hm⟩ : ∃ m : Nat, m + k + 1 = ys.length := ⟨ys.length - k - 1, by omega⟩
    have em : (ys.length : Int) - k - 1 = (m : Int) := by omega
    rw [em]
    have hcell : w'.cell? ⟨g, m, none⟩ = some (.string (ys[m]'(by omega))) := by
      have hg := hc m (by omega)
      have h5 : g < w.heap.size := by
        rcases Nat.lt_or_ge g w.heap.size with h | h
        · exact h
        · unfold World.cell? at hg
          rw [Array.getElem?_eq_none h] at hg
          cases hg
      unfold World.cell? at hg ⊢
      rw [hbel.block g h5]; exact hg
    have hbw : w.heap.size ≤ w'.heap.size := hbel.size
    have hlen : (Lib.byteCells (joinR (ys.drop (ys.length - k)))).length + (ys[m]'(by omega)).size ≤ 140737488355328 := by
      have h1 : (joinR (ys.drop (ys.length - (k + 1)))).length ≤ szs ys := by rw [← szs_join]; exact szs_drop
      rw [joinR_drop hm, List.length_append] at h1
      rw [Lib.byteCells_length, size_bl]
      omega
    go_wp2_with (go_at_fn 132; refine (Any.Builder_WriteString (ρ := sl105_ren) { sl105 with } be105 w.heap.size w.heap.size _ _ _ hB hlen hbw).mono ?_; rintro e w'' ⟨rfl, hB2, hb2⟩)
    refine ⟨⟨k + 1, by omega, rfl, rfl, rfl, rfl, ?_, ?_, hbel.trans hb2⟩, ?_⟩
    · show Value.int .i64 ((m : Int) - 1) = _
      congr 1; omega
    · rw [joinR_drop hm]
      refine .inr ?_
      have e : Lib.byteCells (joinR (ys.drop (ys.length - k)) ++ bl (ys[m]'(by omega))) = Lib.byteCells (joinR (ys.drop (ys.length - k))) ++ Lib.strCells (ys[m]'(by omega)) := by
        unfold Lib.byteCells Lib.strCells
        rw [List.map_append]; rfl
      rw [e]
      exact hB2
    · show ((m : Int) - 1 + 1).toNat < ((m : Int) + 1).toNat
      omega

end Ta
end
section
/- A natural number's text is sound. -/
set_option linter.unusedVariables false
set_option linter.unusedSimpArgs false
set_option maxRecDepth 100000
namespace Ta
open Go Fw Go.Proofs Go.RowKit Pl

theorem body103 : Tryz.f103.body = some (.seq (sL bd103) (.seq (sL (sR bd103)) (.seq (sL (sR (sR bd103))) (.seq (sL (sR (sR (sR bd103)))) rest103)))) := by kernel_rfl
theorem tok103 : Tok Tryz.prog T103 := tokg (T := T103) ⟨snd114, snd130, snd131, trivial⟩ trivial trivial
theorem end103 {F : Fr} {w0 w : World} {O0 : Nat → Prop} {A : AState} {ι : Nat → Value} {a : Act} (R : Rel T103 F w0 O0 47 A ι a w) {x : List Int} (hK : mid103 (fun _ _ _ => True) x .ret A) :
    bodyPost Tryz.prog Tryz.f103 (CPost C103 (x, ()) w0 O0) .ret a w := by
  have hK' : finish T103 Tryz.f103.results.toList C103 (x, ()) .ret A := hK
  obtain ⟨_, v, h1, h2⟩ := finish_sound (fn := Tryz.f103) tok103.tt R hK'
  exact ⟨R.defers, v, h1, h2⟩
theorem rest_ok {F : Fr} {w0 w : World} {O0 : Nat → Prop} {A : AState} {ι : Nat → Value} {a : Act} (R : Rel T103 F w0 O0 47 A ι a w) {x : List Int} (hK : mid103 (fun _ _ _ => True) x .normal A) :
    rest103.wp Tryz.prog (bodyPost Tryz.prog Tryz.f103 (CPost C103 (x, ()) w0 O0)) a w := by
  unfold mid103 at hK
  simp only at hK
  split at hK
  · rename_i id hid
    split at hK
    · rename_i t xs hob
      split at hK
      · rename_i ys hys
        obtain ⟨k1, k2, k3, k4⟩ := hK
        have h3 := R.env 3
        rw [hid] at h3
        have h3' : a.tmps.getD 3 undef = ι id := h3
        unfold castL at hys
        split at hys
        · rename_i htb
          have := Ty.eq_of_beq htb
          subst this
          have hy : xs = ys := by injection hys
          subst hy
          obtain ⟨vs, ho, hel⟩ := R.obj id _ hob
          rcases ho.2 with ⟨e1, h0⟩ | ⟨g, cap, cur, e1, hg, hh, hnc, hcm, hcs, ht⟩
          · exact absurd (List.eq_nil_of_length_eq_zero h0) k1
          · have hn : xs.length * Ty.str.size = xs.length := Nat.mul_one _
            have hcell : ∀ (j : Nat) (h : j < xs.length), w.cell? ⟨g, j, none⟩ = some (.string xs[j]) := fun j h => by
              have h5 : vs[j * 1]? = some (.string xs[j]) := hel j h
              rw [Nat.mul_one, ← ht, hn, List.getElem?_take, if_pos h, Array.getElem?_toList] at h5
              unfold World.cell?
              simp only [hh, Option.isSome_none, Bool.false_eq_true, if_false]
              exact h5
            refine tail103 R.size R.defers k1 (h3'.trans e1) k2 k3 hcell fun a' w' q1 q2 q3 q4 => ?_
            refine ⟨q2, a'.tmps.getD 2 undef, by simp [results, Tryz.f103], ?_⟩
            rw [q3]
            refine cpost_sc rfl rfl ?_ (R.below.trans (q4.mono R.below.size))
            show Ending.returned (.string (ba (joinR xs))) = .returned (.string (ba (Lib.decDigits (nt x))))
            rw [k4]
        · cases hys
      · exact hK.elim
    · exact hK.elim
  · exact hK.elim

theorem snd103 : Sound Tryz.prog 103 C103 := by
  rintro ⟨x, ⟨⟩⟩ hx w O vs hO hl
  refine .inl ⟨run_callFunc Tryz.func103 (by kernel_rfl) (by kernel_rfl) vs, ?_⟩
  have h := vc103 x hx
  have R := start_rel (T := T103) (N := 47) rfl rfl hO hl (by show 1 ≤ 47; decide)
  refine calls_of_wp Tryz.func103 body103 ?_
  have fin : ∀ {e : AX} {A : AState} {ι : Nat → Value} {a : Act} {w' : World} (R : Rel T103 ⟨fun _ => none, fun _ => undef⟩ w O 47 A ι a w'), e ≠ .normal → mid103 (fun _ _ _ => True) x e A →
      bodyPost Tryz.prog Tryz.f103 (CPost C103 (x, ()) w O) (ax T103 e) a w' := by
    intro e A ι a w' R he hK
    cases e with
    | normal => exact absurd rfl he
    | ret => exact end103 R hK
    | exit i => exact hK.elim
    | pan => exact hK.elim
  refine wp_seq (code_sound tok103 _ 0 _ _ R h (fun e A1 a1 w1 hK haf => ?_))
  cases e with
  | normal =>
    obtain ⟨ι1, R1, _⟩ := haf
    refine wp_seq (code_sound tok103 _ 0 _ _ R1 hK (fun e A2 a2 w2 hK haf => ?_))
    cases e with
    | normal =>
      obtain ⟨ι2, R2, _⟩ := haf
      have hK2 : awp T103 H103 47 (sL (sR (sR bd103))) 0 (fun e A' => match e with
        | .normal => awp T103 H103 47 (sL (sR (sR (sR bd103)))) 0 (mid103 (fun _ _ _ => True) x) A'
        | e => mid103 (fun _ _ _ => True) x e A') A2 := hK
      refine wp_seq (code_sound tok103 _ 0 _ _ R2 hK2 (fun e A3 a3 w3 hK haf => ?_))
      cases e with
      | normal =>
        obtain ⟨ι3, R3, _⟩ := haf
        have hK3 : awp T103 H103 47 (sL (sR (sR (sR bd103)))) 0 (mid103 (fun _ _ _ => True) x) A3 := hK
        refine wp_seq (code_sound tok103 _ 0 _ _ R3 hK3 (fun e A4 a4 w4 hK haf => ?_))
        obtain ⟨ι4, R4, _⟩ := haf
        cases e with
        | normal => exact rest_ok R4 hK
        | exit i => exact fin R4 (by simp) hK
        | ret => exact fin R4 (by simp) hK
        | pan => exact fin R4 (by simp) hK
      | exit i => obtain ⟨ι3, R3, _⟩ := haf; exact fin R3 (by simp) hK
      | ret => obtain ⟨ι3, R3, _⟩ := haf; exact fin R3 (by simp) hK
      | pan => obtain ⟨ι3, R3, _⟩ := haf; exact fin R3 (by simp) hK
    | exit i => obtain ⟨ι3, R3, _⟩ := haf; exact fin R3 (by simp) hK
    | ret => obtain ⟨ι3, R3, _⟩ := haf; exact fin R3 (by simp) hK
    | pan => obtain ⟨ι3, R3, _⟩ := haf; exact fin R3 (by simp) hK
  | exit i => obtain ⟨ι3, R3, _⟩ := haf; exact fin R3 (by simp) hK
  | ret => obtain ⟨ι3, R3, _⟩ := haf; exact fin R3 (by simp) hK
  | pan => obtain ⟨ι3, R3, _⟩ := haf; exact fin R3 (by simp) hK

end Ta
end
section
/- Integers: what may be refused as too large: sums, products, powers, texts. -/
set_option linter.unusedVariables false
set_option linter.unusedSimpArgs false
set_option maxRecDepth 100000
namespace Ta
open Go Fw Go.Proofs Go.RowKit Pl

theorem snd106 : Sound Tryz.prog 106 C106 := fn_sound (T := T106) (fn := Tryz.f106) (tokg (T := T106) trivial trivial trivial) Tryz.func106 (by kernel_rfl) H0 vc106 (by kernel_rfl)
theorem snd21 : Sound Tryz.prog 21 C21 := fn_sound (T := T21) (fn := Tryz.f21) (tokg (T := T21) trivial trivial trivial) Tryz.func21 (by kernel_rfl) H0 vc21 (by kernel_rfl)
theorem snd50 : Sound Tryz.prog 50 C50 := fn_sound (T := T50) (fn := Tryz.f50) (tokg (T := T50) ⟨snd106, trivial⟩ trivial trivial) Tryz.func50 (by kernel_rfl) H0 vc50 (by kernel_rfl)
theorem snd52 : Sound Tryz.prog 52 C52 := fn_sound (T := T52) (fn := Tryz.f52) (tokg (T := T52) ⟨snd107, trivial⟩ trivial trivial) Tryz.func52 (by kernel_rfl) H0 vc52 (by kernel_rfl)
theorem snd54 : Sound Tryz.prog 54 C54 := fn_sound (T := T54) (fn := Tryz.f54) (tokg (T := T54) ⟨snd108, snd106, trivial⟩ trivial trivial) Tryz.func54 (by kernel_rfl) H0 vc54 (by kernel_rfl)
theorem snd68 : Sound Tryz.prog 68 C68 := fn_sound (T := T68) (fn := Tryz.f68) (tokg (T := T68) ⟨snd118, snd106, trivial⟩ trivial trivial) Tryz.func68 (by kernel_rfl) H0 vc68 (by kernel_rfl)
theorem snd75 : Sound Tryz.prog 75 C75 := fn_sound (T := T75) (fn := Tryz.f75) (tokg (T := T75) ⟨snd111, snd106, trivial⟩ trivial trivial) Tryz.func75 (by kernel_rfl) H0 vc75 (by kernel_rfl)
theorem snd76 : Sound Tryz.prog 76 C76 := fn_sound (T := T76) (fn := Tryz.f76) (tokg (T := T76) ⟨snd119, snd111, snd120, snd121, snd106, trivial⟩ trivial trivial) Tryz.func76 (by kernel_rfl) H0 vc76 (by kernel_rfl)
theorem snd89 : Sound Tryz.prog 89 C89 := fn_sound (T := T89) (fn := Tryz.f89) (tokg (T := T89) ⟨snd120, snd121, snd107, snd106, trivial⟩ trivial trivial) Tryz.func89 (by kernel_rfl) H0 vc89 (by kernel_rfl)
theorem snd92 : Sound Tryz.prog 92 C92 := fn_sound (T := T92) (fn := Tryz.f92) (tokg (T := T92) ⟨snd112, snd106, trivial⟩ trivial trivial) Tryz.func92 (by kernel_rfl) H0 vc92 (by kernel_rfl)
theorem snd90 : SoundX Tryz.prog 130 90 C90 := fnx_sound (T := T90) (fn := Tryz.f90) (tokg (T := T90) trivial trivial ⟨snd113, trivial⟩) Tryz.func90 (by kernel_rfl) H0 vcx90 (by kernel_rfl)
theorem snd48 : Sound Tryz.prog 48 C48 := fn_sound (T := T48) (fn := Tryz.f48) (tokg (T := T48) ⟨snd105, trivial⟩ trivial trivial) Tryz.func48 (by kernel_rfl) H0 vc48 (by kernel_rfl)
theorem snd19 : Sound Tryz.prog 19 C19 := fn_sound (T := T19) (fn := Tryz.f19) (tokg (T := T19) ⟨snd21, snd76, snd77, trivial⟩ trivial trivial) Tryz.func19 (by kernel_rfl) H0 vc19 (by kernel_rfl)
theorem snd59 : Sound Tryz.prog 59 C59 := fn_sound (T := T59) (fn := Tryz.f59) (tokg (T := T59) ⟨snd111, snd112, snd114, snd106, trivial⟩ trivial trivial) Tryz.func59 (by kernel_rfl) H59 vc59 (by kernel_rfl)
theorem snd60 : Sound Tryz.prog 60 C60 := fn_sound (T := T60) (fn := Tryz.f60) (tokg (T := T60) ⟨snd111, snd112, snd106, trivial⟩ trivial trivial) Tryz.func60 (by kernel_rfl) H60 vc60 (by kernel_rfl)
theorem snd97 : Sound Tryz.prog 97 C97 := fn_sound (T := T97) (fn := Tryz.f97) (tokg (T := T97) ⟨snd127, trivial⟩ trivial trivial) Tryz.func97 (by kernel_rfl) H97 vc97 (by kernel_rfl)
theorem snd128 : Sound Tryz.prog 128 C128 := fn_sound (T := T128) (fn := Tryz.f128) (tokg (T := T128) ⟨snd111, snd112, snd120, trivial⟩ trivial trivial) Tryz.func128 (by kernel_rfl) H128 vc128 (by kernel_rfl)
theorem snd98 : Sound Tryz.prog 98 C98 := fn_sound (T := T98) (fn := Tryz.f98) (tokg (T := T98) ⟨snd127, snd128, snd106, trivial⟩ trivial trivial) Tryz.func98 (by kernel_rfl) H0 vc98 (by kernel_rfl)
theorem snd88 : SoundX Tryz.prog 130 88 C88 := fnx_sound (T := T88) (fn := Tryz.f88) (tokg (T := T88) ⟨snd89, trivial⟩ trivial ⟨snd90, trivial⟩) Tryz.func88 (by kernel_rfl) H0 vcx88 (by kernel_rfl)
theorem snd91 : SoundX Tryz.prog 130 91 C91 := fnx_sound (T := T91) (fn := Tryz.f91) (tokg (T := T91) ⟨snd92, trivial⟩ trivial ⟨snd90, trivial⟩) Tryz.func91 (by kernel_rfl) H0 vcx91 (by kernel_rfl)
theorem snd102 : SoundX Tryz.prog 130 102 C102 := fnx_sound (T := T102) (fn := Tryz.f102) (tokg (T := T102) ⟨snd98, trivial⟩ trivial ⟨snd90, trivial⟩) Tryz.func102 (by kernel_rfl) H0 vcx102 (by kernel_rfl)
theorem snd110 : SoundX Tryz.prog 130 110 C110 := fnx_sound (T := T110) (fn := Tryz.f110) (tokg (T := T110) ⟨snd111, snd112, snd106, trivial⟩ trivial ⟨snd113, trivial⟩) Tryz.func110 (by kernel_rfl) H110 vcx110 (by kernel_rfl)

/-! ### What is attempted -/
theorem att_of {n : Int} {z : Zv} {p : Bool} (hz : z = mkI n) (hp : p = bigI n) : (p = true → att1 n = ([], false, ()) ∧ att2 n = 11) ∧ (p = false → att1 n = z ∧ att2 n = 0) := by
  subst hz hp
  unfold att1 att2
  cases bigI n
  · exact ⟨fun h => (by cases h), fun _ => ⟨rfl, rfl⟩⟩
  · exact ⟨fun _ => ⟨rfl, rfl⟩, fun h => (by cases h)⟩
theorem snd87 : Sound Tryz.prog 87 C87 := by
  rintro ⟨d, ⟨⟩⟩ hd w O vs hO hl
  obtain ⟨u, us, e1, hu, hus⟩ := hl
  have hus' : us = [] := hus
  subst hus'
  have ev := arr_eq e1
  subst ev
  have hpost : C87.post (d, ()) = (att1 (cloV d), att2 (cloV d), ()) := rfl
  have fin : ∀ {e : Ending} {w' : World}, (∃ v, e = .returned v ∧ Below w.heap.size w w' ∧ ∀ ι, ARep w' O ι (resAV (encs [ZI, E] (att1 (cloV d), att2 (cloV d), ()))) v) → CPost C87 (d, ()) w O e w' := by
    rintro e w' ⟨v, h1, h2, h3⟩
    exact ⟨v, h1, h2, h3, fun e he => by cases he⟩
  have hd' : okClo d := hd
  unfold okClo at hd'
  split at hd'
  · rename_i f d1 d2
    obtain ⟨cs, rfl, hcs⟩ := (show ∃ cs : Array Value, u = .func (.func f) #[] cs ∧ LRep w O [d1, d2] cs.toList from hu)
    refine .inl ⟨run_callFunc Tryz.func87 (by kernel_rfl) (by kernel_rfl) _, ?_⟩
    rcases hd' with ⟨rfl | rfl, h1, h2⟩ | ⟨rfl, h1, h2⟩
    · have hA := att_of (n := iv (dZ d1) + iv (dZ d2)) (z := plI (dZ d1) (dZ d2)) (p := big (plI (dZ d1) (dZ d2)).1) rfl (big_mk _)
      exact (att87 snd88 (y := (d1, d2, ())) ⟨h1, h2⟩ hO hcs hA.1 hA.2).mono fun e w' h => fin h
    · have hA := att_of (n := iv (dZ d1) * iv (dZ d2)) (z := tiI (dZ d1) (dZ d2)) (p := big (tiI (dZ d1) (dZ d2)).1) rfl (big_mk _)
      exact (att87 snd91 (y := (d1, d2, ())) ⟨h1, h2⟩ hO hcs hA.1 hA.2).mono fun e w' h => fin h
    · have hA := att_of (n := pwI (dZ d1) (dI d2)) (z := mkI (pwI (dZ d1) (dI d2))) (p := bigI (pwI (dZ d1) (dI d2))) rfl rfl
      exact (att87 snd110 (y := (d1, d2, ())) ⟨h1, h2⟩ hO hcs hA.1 hA.2).mono fun e w' h => fin h
  · rename_i f d1
    obtain ⟨cs, rfl, hcs⟩ := (show ∃ cs : Array Value, u = .func (.func f) #[] cs ∧ LRep w O [d1] cs.toList from hu)
    refine .inl ⟨run_callFunc Tryz.func87 (by kernel_rfl) (by kernel_rfl) _, ?_⟩
    obtain ⟨rfl, h1⟩ := hd'
    have hA := att_of (n := parS (dS d1)) (z := froI (dS d1)) (p := big (froI (dS d1)).1) rfl (big_mk _)
    exact (att87 snd102 (y := (d1, ())) h1 hO hcs hA.1 hA.2).mono fun e w' h => fin h
  · exact hd'.elim

theorem isZ_of {a : List Int} {s : Bool} (h : okI (a, s, ())) : isZ (.rptr [.slc false u64 a, .bool s]) := ⟨⟨_, _, _, rfl⟩, h⟩
theorem vc30 : ∀ x, C30.pre x → VC T30 H30 Tryz.f30 C30 x := by
  rintro ⟨⟨(a : List Int), (s : Bool), ⟨⟩⟩, ⟨(b : List Int), (t : Bool), ⟨⟩⟩, ⟨⟩⟩ ⟨(h : okI (a, s, ())), (k : okI (b, t, ()))⟩
  refine cast (α := Pl.okClo (D.clo (88 : Nat) [D.rptr [D.slc false u64 a, D.bool s], D.rptr [D.slc false u64 b, D.bool t]]) ∧ (((Pl.at1 (D.clo (88 : Nat) [D.rptr [D.slc false u64 a, D.bool s], D.rptr [D.slc false u64 b, D.bool t]])).1, (Pl.at1 (D.clo (88 : Nat) [D.rptr [D.slc false u64 a, D.bool s], D.rptr [D.slc false u64 b, D.bool t]])).snd.fst, ()), Pl.at2 (D.clo (88 : Nat) [D.rptr [D.slc false u64 a, D.bool s], D.rptr [D.slc false u64 b, D.bool t]]), ()) = C30.post ((a, s, ()), (b, t, ()), ())) (by kernel_rfl) ?_
  exact ⟨.inl ⟨.inl rfl, isZ_of h, isZ_of k⟩, rfl⟩
theorem vc32 : ∀ x, C32.pre x → VC T30 H30 Tryz.f32 C32 x := by
  rintro ⟨⟨(a : List Int), (s : Bool), ⟨⟩⟩, ⟨(b : List Int), (t : Bool), ⟨⟩⟩, ⟨⟩⟩ ⟨(h : okI (a, s, ())), (k : okI (b, t, ()))⟩
  refine cast (α := Pl.okClo (D.clo (91 : Nat) [D.rptr [D.slc false u64 a, D.bool s], D.rptr [D.slc false u64 b, D.bool t]]) ∧ (((Pl.at1 (D.clo (91 : Nat) [D.rptr [D.slc false u64 a, D.bool s], D.rptr [D.slc false u64 b, D.bool t]])).1, (Pl.at1 (D.clo (91 : Nat) [D.rptr [D.slc false u64 a, D.bool s], D.rptr [D.slc false u64 b, D.bool t]])).snd.fst, ()), Pl.at2 (D.clo (91 : Nat) [D.rptr [D.slc false u64 a, D.bool s], D.rptr [D.slc false u64 b, D.bool t]]), ()) = C32.post ((a, s, ()), (b, t, ()), ())) (by kernel_rfl) ?_
  exact ⟨.inl ⟨.inr rfl, isZ_of h, isZ_of k⟩, rfl⟩
theorem okI_ng {z : Zv} (h : okI z) : okI (ngI z) := okI_mk (k := KI) (by rw [Int.natAbs_neg]; exact okI_abs h) (by rw [KI_eq]; decide)
theorem iv_ng (z : Zv) : iv (ngI z) = -(iv z) := iv_mk _
theorem vc31 : ∀ x, C31.pre x → VC T31 H0 Tryz.f31 C31 x := by
  rintro ⟨⟨(a : List Int), (s : Bool), ⟨⟩⟩, ⟨(b : List Int), (t : Bool), ⟨⟩⟩, ⟨⟩⟩ ⟨(h : okI (a, s, ())), (k : okI (b, t, ()))⟩
  refine cast (α := Pl.okI (b, t, ()) ∧ (Pl.okI (a, s, ()) ∧ Pl.okI ((Pl.ngI (b, t, ())).1, (Pl.ngI (b, t, ())).snd.fst, ())) ∧ (((Pl.ad1 (a, s, ()) ((Pl.ngI (b, t, ())).1, (Pl.ngI (b, t, ())).snd.fst, ())).1, (Pl.ad1 (a, s, ()) ((Pl.ngI (b, t, ())).1, (Pl.ngI (b, t, ())).snd.fst, ())).snd.fst, ()), Pl.ad2 (a, s, ()) ((Pl.ngI (b, t, ())).1, (Pl.ngI (b, t, ())).snd.fst, ()), ()) = C31.post ((a, s, ()), (b, t, ()), ())) (by kernel_rfl) ?_
  refine ⟨k, ⟨h, okI_ng k⟩, ?_⟩
  show (att1 (iv (a, s, ()) + iv (ngI (b, t, ()))), att2 (iv (a, s, ()) + iv (ngI (b, t, ()))), ()) = (att1 (iv (a, s, ()) - iv (b, t, ())), att2 (iv (a, s, ()) - iv (b, t, ())), ())
  rw [iv_ng, ← Int.sub_eq_add_neg]
theorem vc45 : ∀ x, C45.pre x → VC T45 H45 Tryz.f45 C45 x := by
  rintro ⟨(s : ByteArray), ⟨⟩⟩ (h : s.size ≤ 9000000000000000000)
  refine cast (α := s.size ≤ (9000000000000000000 : Nat) ∧ Br (!Pl.isF s) ((([], false, ()), (10 : Int), ()) = C45.post (s, ())) (Br (decide ((↑s.size : Int) > (40000 : Int))) ((([], false, ()), (11 : Int), ()) = C45.post (s, ())) (Pl.okClo (D.clo (102 : Nat) [D.rptr [D.str s]]) ∧ (((Pl.at1 (D.clo (102 : Nat) [D.rptr [D.str s]])).1, (Pl.at1 (D.clo (102 : Nat) [D.rptr [D.str s]])).snd.fst, ()), Pl.at2 (D.clo (102 : Nat) [D.rptr [D.str s]]), ()) = C45.post (s, ())))) (by kernel_rfl) ?_
  have e : C45.post (s, ()) = (if isF s = true ∧ s.size ≤ 40000 then att1 (parS s) else mkI 0, if isF s = true then (if s.size ≤ 40000 then att2 (parS s) else 11) else 10, ()) := rfl
  rw [e]
  refine ⟨h, Br_of (fun hb => ?_) (fun hb => Br_of (fun hc => ?_) (fun hc => ?_))⟩
  · have hf : isF s = false := by simpa using hb
    rw [hf]; rfl
  · have hf : isF s = true := by simpa using hb
    have := of_decide_eq_true hc
    rw [hf, if_neg (by omega), if_pos rfl, if_neg (by omega)]; rfl
  · have hf : isF s = true := by simpa using hb
    have := of_decide_eq_false hc
    have hs : s.size ≤ 40000 := by omega
    rw [hf, if_pos ⟨rfl, hs⟩, if_pos rfl, if_pos hs]
    exact ⟨⟨rfl, ⟨s, rfl⟩, hf, hs⟩, rfl⟩
theorem vc56 : ∀ x, C56.pre x → VC T30 H56 Tryz.f56 C56 x := by
  rintro ⟨⟨(a : List Int), (s : Bool), ⟨⟩⟩, (n : Int), ⟨⟩⟩ ⟨(h : okI (a, s, ())), (k : big a = false)⟩
  refine cast (α := Br (decide (n < (0 : Int))) ((([], false, ()), (1 : Int), ()) = C56.post ((a, s, ()), n, ())) (Br (decide (n > (10000 : Int))) ((([], false, ()), (1 : Int), ()) = C56.post ((a, s, ()), n, ())) (Pl.okClo (D.clo (110 : Nat) [D.rptr [D.slc false u64 a, D.bool s], D.rptr [D.int IntKind.i64 n]]) ∧ (((Pl.at1 (D.clo (110 : Nat) [D.rptr [D.slc false u64 a, D.bool s], D.rptr [D.int IntKind.i64 n]])).1, (Pl.at1 (D.clo (110 : Nat) [D.rptr [D.slc false u64 a, D.bool s], D.rptr [D.int IntKind.i64 n]])).snd.fst, ()), Pl.at2 (D.clo (110 : Nat) [D.rptr [D.slc false u64 a, D.bool s], D.rptr [D.int IntKind.i64 n]]), ()) = C56.post ((a, s, ()), n, ())))) (by kernel_rfl) ?_
  have e : C56.post ((a, s, ()), n, ()) = (if n < 0 ∨ 10000 < n then mkI 0 else att1 (iv (a, s, ()) ^ n.toNat), if n < 0 ∨ 10000 < n then 1 else att2 (iv (a, s, ()) ^ n.toNat), ()) := rfl
  rw [e]
  refine Br_of (fun hb => ?_) (fun hb => Br_of (fun hc => ?_) (fun hc => ?_))
  · have := of_decide_eq_true hb
    rw [if_pos (.inl this), if_pos (.inl this)]; rfl
  · have := of_decide_eq_true hc
    rw [if_pos (.inr this), if_pos (.inr this)]; rfl
  · have h1 := of_decide_eq_false hb
    have h2 := of_decide_eq_false hc
    rw [if_neg (by omega), if_neg (by omega)]
    exact ⟨.inr ⟨rfl, ⟨isZ_of h, k⟩, ⟨n, rfl⟩, by show 0 ≤ n; omega, by show n ≤ 10000; omega⟩, rfl⟩
theorem bl_append (a b : ByteArray) : bl (a ++ b) = bl a ++ bl b := by
  obtain ⟨⟨a⟩⟩ := a
  obtain ⟨⟨b⟩⟩ := b
  show bl (ByteArray.append _ _) = _
  unfold bl
  simp [ByteArray.append, ByteArray.copySlice]
theorem ba_append (a b : List UInt8) : ba a ++ ba b = ba (a ++ b) := by
  rw [← ba_bl (ba a ++ ba b), bl_append, bl_ba, bl_ba]
theorem dec_len_W {n k : Nat} (hk : 1 ≤ k) (h : n < W ^ k) : (Lib.decDigits n).length ≤ 20 * k := by
  refine dec_len (by omega) (Nat.lt_of_lt_of_le h ?_)
  rw [Nat.pow_mul]
  exact Nat.pow_le_pow_left (by decide) _
theorem vc46 : ∀ x, C46.pre x → VC T46 H0 Tryz.f46 C46 x := by
  rintro ⟨⟨(a : List Int), (s : Bool), ⟨⟩⟩, ⟨⟩⟩ (h : okI (a, s, ()))
  refine cast (α := Br s ((Pl.okN a ∧ a.length ≤ (100000000 : Nat)) ∧ (↑((ByteArray.mk #[(45 : UInt8)]).size + (Pl.txtN (Pl.nt a)).size) : Int) ≤ (9223372036854775807 : Int) ∧ ((ByteArray.mk #[(45 : UInt8)]) ++ Pl.txtN (Pl.nt a), ()) = C46.post ((a, s, ()), ())) ((Pl.okN a ∧ a.length ≤ (100000000 : Nat)) ∧ (Pl.txtN (Pl.nt a), ()) = C46.post ((a, s, ()), ()))) (by kernel_rfl) ?_
  have e : C46.post ((a, s, ()), ()) = (ba (Lib.itoa (iv (a, s, ()))), ()) := rfl
  rw [e]
  refine Br_of (fun hs => ?_) (fun hs => ?_)
  · subst hs
    have hp := okI_pos h
    refine ⟨⟨okI_N h, by have := okI_len h; omega⟩, ?_, ?_⟩
    · have := dec_len_W (n := nt a) (k := KI) (by rw [KI_eq]; decide) (okI_lt h)
      have e1 : (txtN (nt a)).size = (Lib.decDigits (nt a)).length := size_bl _
      rw [e1]
      show (((1 + (Lib.decDigits (nt a)).length : Nat)) : Int) ≤ _
      rw [KI_eq] at this
      omega
    · show (ba [45] ++ ba (Lib.decDigits (nt a)), ()) = _
      rw [ba_append, iv_t, Lib.itoa_neg _ hp]; rfl
  · subst hs
    refine ⟨⟨okI_N h, by have := okI_len h; omega⟩, ?_⟩
    rw [iv_f, Lib.itoa_nonneg]; rfl
theorem snd30 : Sound Tryz.prog 30 C30 := fn_sound (T := T30) (fn := Tryz.f30) (tokg (T := T30) ⟨snd87, trivial⟩ trivial trivial) Tryz.func30 (by kernel_rfl) H30 vc30 (by kernel_rfl)
theorem snd32 : Sound Tryz.prog 32 C32 := fn_sound (T := T30) (fn := Tryz.f32) (tokg (T := T30) ⟨snd87, trivial⟩ trivial trivial) Tryz.func32 (by kernel_rfl) H30 vc32 (by kernel_rfl)
theorem snd31 : Sound Tryz.prog 31 C31 := fn_sound (T := T31) (fn := Tryz.f31) (tokg (T := T31) ⟨snd50, snd30, trivial⟩ trivial trivial) Tryz.func31 (by kernel_rfl) H0 vc31 (by kernel_rfl)
theorem snd45 : Sound Tryz.prog 45 C45 := fn_sound (T := T45) (fn := Tryz.f45) (tokg (T := T45) ⟨snd97, snd87, trivial⟩ trivial trivial) Tryz.func45 (by kernel_rfl) H45 vc45 (by kernel_rfl)
theorem snd56 : Sound Tryz.prog 56 C56 := fn_sound (T := T30) (fn := Tryz.f56) (tokg (T := T30) ⟨snd87, trivial⟩ trivial trivial) Tryz.func56 (by kernel_rfl) H56 vc56 (by kernel_rfl)
theorem snd46 : Sound Tryz.prog 46 C46 := fn_sound (T := T46) (fn := Tryz.f46) (tokg (T := T46) ⟨snd103, trivial⟩ trivial trivial) Tryz.func46 (by kernel_rfl) H0 vc46 (by kernel_rfl)

end Ta
end
section
/- What is left by a panic is caught: fractions (attempt). -/
set_option linter.unusedVariables false
set_option linter.unusedSimpArgs false
set_option maxRecDepth 100000
namespace Ta
open Go Fw Go.Proofs Go.RowKit Pl

theorem catch129_idle (p q : Addr) (w : World) :
    CallsD Tryz.prog 129 #[.pointer (some p), .pointer (some q)] .returning w fun e u' w' => e = .returned (.tuple #[]) ∧ u' = .returning ∧ w' = w := by
  have t3 := Tryz.underlying3; have a3 := Tryz.isAgg3; have z3 := Tryz.sizeOf3; have v3 := Tryz.zeroValue3
  have t4 := Tryz.underlying4; have a4 := Tryz.isAgg4; have z4 := Tryz.sizeOf4; have v4 := Tryz.zeroValue4
  have t20 := Tryz.underlying20; have a20 := Tryz.isAgg20; have z20 := Tryz.sizeOf20; have v20 := Tryz.zeroValue20
  have t25 := Tryz.underlying25; have a25 := Tryz.isAgg25; have z25 := Tryz.sizeOf25; have v25 := Tryz.zeroValue25
  have t44 := Tryz.underlying44; have a44 := Tryz.isAgg44; have z44 := Tryz.sizeOf44; have v44 := Tryz.zeroValue44
  have t33 := Tryz.underlying33; have a33 := Tryz.isAgg33; have z33 := Tryz.sizeOf33; have v33 := Tryz.zeroValue33
  have t130 := Tryz.underlying130; have a130 := Tryz.isAgg130; have z130 := Tryz.sizeOf130; have v130 := Tryz.zeroValue130
  refine callsD_of_wpS Tryz.func129 rfl fun c₀ cs hu => ?_
  apply wpS_seq
  apply wpS_region
  simp [wpOpsS, go_sem, recoverD, hu, Tryz.ntmps129, Exit.thenS]
  show Code.wpS _ _ _ (⟨#[.pointer (some p), .pointer (some q), .nilIface, undef, undef, undef, .nilIface, undef, undef, undef, undef, undef, undef, undef, undef, undef, undef, undef], []⟩ : Act) _ _
  refine wpS_of_wp ?_
  go_wp2
  cases c₀
  simp_all [bodyPostS, results, Tryz.results129]

/-- Behind a panic that was caught. -/
def caughtQ (w : World) (n : Nat) : World :=
  (((((w.alloc (.cells #[] 130)).alloc (.cells #[.slice none 0 0, .bool false, .slice none 0 0] 44)).setCell ⟨n, 0, none⟩ (.slice none 0 0)).setCell ⟨n, 1, none⟩ (.bool false)).setCell ⟨n, 2, none⟩ (.slice none 0 0)).setCell ⟨n + 1, 0, none⟩ (.int .i64 11)

set_option maxHeartbeats 1000000 in
theorem catch129 (n : Nat) (older : List PanicEntry) (w : World) {a0 a1 a2 c0 : Value} {T T' : TypeId} (hn : w.heap[n]? = some (.cells #[a0, a1, a2] T (0, 0))) (hn1 : w.heap[n + 1]? = some (.cells #[c0] T' (0, 0))) :
    CallsD Tryz.prog 129 #[.pointer (some ⟨n, 0, none⟩), .pointer (some ⟨n + 1, 0, none⟩)] (.panicking ({ v := .iface 130 (.agg #[]), recovered := false } :: older)) w fun e u' w' =>
      e = .returned (.tuple #[]) ∧ u' = .panicking ({ v := .iface 130 (.agg #[]), recovered := true } :: older) ∧ w' = caughtQ w n := by
  have hta := assert130
  have k0 : ((w.alloc (.cells #[] 130)).alloc (.cells #[.slice none 0 0, .bool false, .slice none 0 0] 44)).heap[n]? = some (.cells #[a0, a1, a2] T (0, 0)) := heap_alloc_old (heap_alloc_old hn)
  have k1 : ((w.alloc (.cells #[] 130)).alloc (.cells #[.slice none 0 0, .bool false, .slice none 0 0] 44)).heap[n + 1]? = some (.cells #[c0] T' (0, 0)) := heap_alloc_old (heap_alloc_old hn1)
  have f0 := cell_at (off := 0) k0
  have f1 := frozen_at (off := 0) k0
  have k2 := heap_set_same (off := 0) (v := .slice none 0 0) k0
  have f2 := cell_at (off := 1) k2
  have f3 := frozen_at (off := 1) k2
  have k4 := heap_set_same (off := 1) (v := .bool false) k2
  have f6 := cell_at (off := 2) k4
  have f7 := frozen_at (off := 2) k4
  have k3 : (((((w.alloc (.cells #[] 130)).alloc (.cells #[.slice none 0 0, .bool false, .slice none 0 0] 44)).setCell ⟨n, 0, none⟩ (.slice none 0 0)).setCell ⟨n, 1, none⟩ (.bool false)).setCell ⟨n, 2, none⟩ (.slice none 0 0)).heap[n + 1]? = some (.cells #[c0] T' (0, 0)) := by
    rw [heap_set_other (by omega), heap_set_other (by omega), heap_set_other (by omega)]; exact k1
  have f4 := cell_at (off := 0) k3
  have f5 := frozen_at (off := 0) k3
  have g0 : (#[a0, a1, a2] : Array Value)[0]? = some a0 := rfl
  have g1 : ((#[a0, a1, a2] : Array Value).setIfInBounds 0 (.slice none 0 0))[1]? = some a1 := rfl
  have g3 : (((#[a0, a1, a2] : Array Value).setIfInBounds 0 (.slice none 0 0)).setIfInBounds 1 (.bool false))[2]? = some a2 := rfl
  have g2 : (#[c0] : Array Value)[0]? = some c0 := rfl
  rw [g0] at f0
  rw [g1] at f2
  rw [g3] at f6
  rw [g2] at f4
  clear k0 k1 k2 k3 k4 g0 g1 g2 g3
  have t3 := Tryz.underlying3; have a3 := Tryz.isAgg3; have z3 := Tryz.sizeOf3; have v3 := Tryz.zeroValue3
  have t4 := Tryz.underlying4; have a4 := Tryz.isAgg4; have z4 := Tryz.sizeOf4; have v4 := Tryz.zeroValue4
  have t20 := Tryz.underlying20; have a20 := Tryz.isAgg20; have z20 := Tryz.sizeOf20; have v20 := Tryz.zeroValue20
  have t23 := Tryz.underlying23; have a23 := Tryz.isAgg23; have z23 := Tryz.sizeOf23; have v23 := Tryz.zeroValue23
  have t25 := Tryz.underlying25; have a25 := Tryz.isAgg25; have z25 := Tryz.sizeOf25; have v25 := Tryz.zeroValue25
  have t33 := Tryz.underlying33; have a33 := Tryz.isAgg33; have z33 := Tryz.sizeOf33; have v33 := Tryz.zeroValue33
  have t44 := Tryz.underlying44; have a44 := Tryz.isAgg44; have z44 := Tryz.sizeOf44; have v44 := Tryz.zeroValue44
  have t130 := Tryz.underlying130; have a130 := Tryz.isAgg130; have z130 := Tryz.sizeOf130; have v130 := Tryz.zeroValue130
  refine callsD_of_wpS Tryz.func129 rfl fun c₀ cs hu => ?_
  apply wpS_seq
  apply wpS_region
  simp [wpOpsS, go_sem, recoverD, hu, Tryz.ntmps129, Exit.thenS]
  show Code.wpS _ _ _ (⟨#[.pointer (some ⟨n, 0, none⟩), .pointer (some ⟨n + 1, 0, none⟩), .iface 130 (.agg #[]), undef, undef, undef, .iface 130 (.agg #[]), undef, undef, undef, undef, undef, undef, undef, undef, undef, undef, undef], []⟩ : Act) _ _
  refine wpS_of_wp ?_
  go_wp2
  simp [bodyPostS, results, Tryz.results129, caughtQ]

theorem caughtQ_at {w : World} {n : Nat} {a0 a1 a2 c0 : Value} {T T' : TypeId} (hn : w.heap[n]? = some (.cells #[a0, a1, a2] T (0, 0))) (hn1 : w.heap[n + 1]? = some (.cells #[c0] T' (0, 0))) :
    (caughtQ w n).heap[n]? = some (.cells #[.slice none 0 0, .bool false, .slice none 0 0] T (0, 0)) ∧ (caughtQ w n).heap[n + 1]? = some (.cells #[.int .i64 11] T' (0, 0)) := by
  have k0 : ((w.alloc (.cells #[] 130)).alloc (.cells #[.slice none 0 0, .bool false, .slice none 0 0] 44)).heap[n]? = some (.cells #[a0, a1, a2] T (0, 0)) := heap_alloc_old (heap_alloc_old hn)
  have k1 : ((w.alloc (.cells #[] 130)).alloc (.cells #[.slice none 0 0, .bool false, .slice none 0 0] 44)).heap[n + 1]? = some (.cells #[c0] T' (0, 0)) := heap_alloc_old (heap_alloc_old hn1)
  have k2 := heap_set_same (off := 2) (v := .slice none 0 0) (heap_set_same (off := 1) (v := .bool false) (heap_set_same (off := 0) (v := .slice none 0 0) k0))
  unfold caughtQ
  constructor
  · rw [heap_set_other (by omega)]; exact k2
  · have k3 : (((((w.alloc (.cells #[] 130)).alloc (.cells #[.slice none 0 0, .bool false, .slice none 0 0] 44)).setCell ⟨n, 0, none⟩ (.slice none 0 0)).setCell ⟨n, 1, none⟩ (.bool false)).setCell ⟨n, 2, none⟩ (.slice none 0 0)).heap[n + 1]? = some (.cells #[c0] T' (0, 0)) := by
      rw [heap_set_other (by omega), heap_set_other (by omega), heap_set_other (by omega)]; exact k1
    exact heap_set_same (off := 0) (v := .int .i64 11) k3

set_option maxHeartbeats 1000000 in
theorem attempt99 (g : FuncId) (first caps : Array Value) (w : World) (Rr : Ending → World → Prop)
    (hrun : (callFunc g (first ++ caps)).run Tryz.prog ((w.alloc (.cells #[.slice none 0 0, .bool false, .slice none 0 0] 44)).alloc (.cells #[.int .i64 0] 33)) = .ok (.enter g (first ++ caps)) ((w.alloc (.cells #[.slice none 0 0, .bool false, .slice none 0 0] 44)).alloc (.cells #[.int .i64 0] 33)))
    (hcall : Calls Tryz.prog g (first ++ caps) ((w.alloc (.cells #[.slice none 0 0, .bool false, .slice none 0 0] 44)).alloc (.cells #[.int .i64 0] 33)) Rr)
    (hR : ∀ e w', Rr e w' → (e = .panicked (panChain 130) ∧ Below (w.heap.size + 2) ((w.alloc (.cells #[.slice none 0 0, .bool false, .slice none 0 0] 44)).alloc (.cells #[.int .i64 0] 33)) w') ∨
      ∃ u0 u1 u2, e = .returned (.agg #[u0, u1, u2]) ∧ ((∃ p l c, u0 = .slice p l c) ∧ (∃ b, u1 = .bool b) ∧ ∃ p l c, u2 = .slice p l c) ∧ Below (w.heap.size + 2) ((w.alloc (.cells #[.slice none 0 0, .bool false, .slice none 0 0] 44)).alloc (.cells #[.int .i64 0] 33)) w') :
    Calls Tryz.prog 99 #[.func (.func g) first caps] w fun e w' =>
      (∃ w1, Rr (.panicked (panChain 130)) w1 ∧ e = .returned (.tuple #[.agg #[.slice none 0 0, .bool false, .slice none 0 0], .int .i64 11]) ∧ w' = caughtQ w1 w.heap.size) ∨
      (∃ w1 u0 u1 u2, Rr (.returned (.agg #[u0, u1, u2])) w1 ∧ e = .returned (.tuple #[.agg #[u0, u1, u2], .int .i64 0]) ∧ w' = (((w1.setCell ⟨w.heap.size, 0, none⟩ u0).setCell ⟨w.heap.size, 1, none⟩ u1).setCell ⟨w.heap.size, 2, none⟩ u2).setCell ⟨w.heap.size + 1, 0, none⟩ (.int .i64 0)) := by
  have mixed : Tryz.prog.follows .mixedOrders = true := by kernel_rfl
  have hmf : ∀ (fn : Fn) (first cap : Array Value) (w : World), (Instr.makeFunc fn first cap).run Tryz.prog w = .ok (.func fn first cap) w := fun _ _ _ _ => rfl
  have t3 := Tryz.underlying3; have a3 := Tryz.isAgg3; have z3 := Tryz.sizeOf3; have v3 := Tryz.zeroValue3
  have t4 := Tryz.underlying4; have a4 := Tryz.isAgg4; have z4 := Tryz.sizeOf4; have v4 := Tryz.zeroValue4
  have t20 := Tryz.underlying20; have a20 := Tryz.isAgg20; have z20 := Tryz.sizeOf20; have v20 := Tryz.zeroValue20
  have t23 := Tryz.underlying23; have a23 := Tryz.isAgg23; have z23 := Tryz.sizeOf23; have v23 := Tryz.zeroValue23
  have t25 := Tryz.underlying25; have a25 := Tryz.isAgg25; have z25 := Tryz.sizeOf25; have v25 := Tryz.zeroValue25
  have t33 := Tryz.underlying33; have a33 := Tryz.isAgg33; have z33 := Tryz.sizeOf33; have v33 := Tryz.zeroValue33
  have t44 := Tryz.underlying44; have a44 := Tryz.isAgg44; have z44 := Tryz.sizeOf44; have v44 := Tryz.zeroValue44
  have t130 := Tryz.underlying130; have a130 := Tryz.isAgg130; have z130 := Tryz.sizeOf130; have v130 := Tryz.zeroValue130
  have HR := Lib.hid hR
  have HC := Lib.hid hcall
  clear hR hcall
  go_enter_defers Tryz.func99, Tryz.ntmps99
  go_wp2
  refine HC.out.mono ?_
  intro e w1 hr
  have ho : ∀ x, w1.heap[w.heap.size]? = some x ↔ ((w.alloc (.cells #[.slice none 0 0, .bool false, .slice none 0 0] 44)).alloc (.cells #[.int .i64 0] 33)).heap[w.heap.size]? = some x := fun x => by
    rcases HR.out e w1 hr with ⟨_, hb⟩ | ⟨_, _, _, _, _, hb⟩ <;> rw [hb.block _ (by omega)]
  have ho' : ∀ x, w1.heap[w.heap.size + 1]? = some x ↔ ((w.alloc (.cells #[.slice none 0 0, .bool false, .slice none 0 0] 44)).alloc (.cells #[.int .i64 0] 33)).heap[w.heap.size + 1]? = some x := fun x => by
    rcases HR.out e w1 hr with ⟨_, hb⟩ | ⟨_, _, _, _, _, hb⟩ <;> rw [hb.block _ (by omega)]
  have hn : w1.heap[w.heap.size]? = some (.cells #[.slice none 0 0, .bool false, .slice none 0 0] 44 (0, 0)) := (ho _).2 (alloc_at0 w _ _)
  have hn1 : w1.heap[w.heap.size + 1]? = some (.cells #[.int .i64 0] 33 (0, 0)) := (ho' _).2 (alloc_at1 w _ _)
  clear ho ho'
  rcases HR.out e w1 hr with ⟨rfl, hb⟩ | ⟨_, _, _, rfl, ⟨⟨p, l, c, rfl⟩, ⟨b, rfl⟩, p2, l2, c2, rfl⟩, hb⟩
  · show Leaves _ _ _ _ _ _ _
    refine leaves_cons (f := 129) (args := #[.pointer (some ⟨w.heap.size, 0, none⟩), .pointer (some ⟨w.heap.size + 1, 0, none⟩)]) (by simp) (by simp [go_sem]) ?_
    refine (catch129 w.heap.size [] w1 hn hn1).mono ?_
    rintro e u' w'' ⟨rfl, rfl, rfl⟩
    obtain ⟨k0, k1⟩ := caughtQ_at hn hn1
    have f0 := cell_at (off := 0) k0
    have f1 := cell_at (off := 1) k0
    have f3 := cell_at (off := 2) k0
    have f2 := cell_at (off := 0) k1
    refine ⟨.tuple #[.agg #[.slice none 0 0, .bool false, .slice none 0 0], .int .i64 11], ?_, .inl ⟨w1, hr, rfl, rfl⟩⟩
    generalize caughtQ w1 w.heap.size = W at f0 f1 f2 f3 ⊢
    simp [results, Tryz.results99, go_sem, f0, f1, f2, f3]
  · have f0 : w1.cell? ⟨w.heap.size, 0, none⟩ = some (.slice none 0 0) := cell_at (off := 0) hn
    have f1 := frozen_at (off := 0) hn
    have k2 := heap_set_same (off := 0) (v := (.slice p l c)) hn
    have f2 : (w1.setCell ⟨w.heap.size, 0, none⟩ (.slice p l c)).cell? ⟨w.heap.size, 1, none⟩ = some (.bool false) := cell_at (off := 1) k2
    have f3 := frozen_at (off := 1) k2
    have k4 := heap_set_same (off := 1) (v := (.bool b)) k2
    have f6 : ((w1.setCell ⟨w.heap.size, 0, none⟩ (.slice p l c)).setCell ⟨w.heap.size, 1, none⟩ (.bool b)).cell? ⟨w.heap.size, 2, none⟩ = some (.slice none 0 0) := cell_at (off := 2) k4
    have f7 := frozen_at (off := 2) k4
    have k5 := heap_set_same (off := 2) (v := (.slice p2 l2 c2)) k4
    have k3 : (((w1.setCell ⟨w.heap.size, 0, none⟩ (.slice p l c)).setCell ⟨w.heap.size, 1, none⟩ (.bool b)).setCell ⟨w.heap.size, 2, none⟩ (.slice p2 l2 c2)).heap[w.heap.size + 1]? = some (.cells #[.int .i64 0] 33 (0, 0)) := by
      rw [heap_set_other (by omega), heap_set_other (by omega), heap_set_other (by omega)]; exact hn1
    have f4 : (((w1.setCell ⟨w.heap.size, 0, none⟩ (.slice p l c)).setCell ⟨w.heap.size, 1, none⟩ (.bool b)).setCell ⟨w.heap.size, 2, none⟩ (.slice p2 l2 c2)).cell? ⟨w.heap.size + 1, 0, none⟩ = some (.int .i64 0) := cell_at (off := 0) k3
    have f5 := frozen_at (off := 0) k3
    have K2 := Lib.hid k2
    have K3 := Lib.hid k3
    have K4 := Lib.hid k4
    have K5 := Lib.hid k5
    have HN := Lib.hid hn
    have HN1 := Lib.hid hn1
    have HRR := Lib.hid hr
    have HB := Lib.hid hb
    clear k2 k3 k4 k5 hn hn1 hr hb
    go_wp2
    show Leaves _ _ _ _ _ _ _
    refine leaves_cons (f := 129) (args := #[.pointer (some ⟨w.heap.size, 0, none⟩), .pointer (some ⟨w.heap.size + 1, 0, none⟩)]) (by simp) (by simp [go_sem]) ?_
    refine (catch129_idle ⟨w.heap.size, 0, none⟩ ⟨w.heap.size + 1, 0, none⟩ _).mono ?_
    rintro e u' w'' ⟨rfl, rfl, rfl⟩
    have q4 : ((((w1.setCell ⟨w.heap.size, 0, none⟩ (.slice p l c)).setCell ⟨w.heap.size, 1, none⟩ (.bool b)).setCell ⟨w.heap.size, 2, none⟩ (.slice p2 l2 c2)).setCell ⟨w.heap.size + 1, 0, none⟩ (.int .i64 0)).heap[w.heap.size]? = some (.cells #[(.slice p l c), (.bool b), (.slice p2 l2 c2)] 44 (0, 0)) := by
      rw [heap_set_other (by omega)]; exact K5.out
    have q3 := heap_set_same (off := 0) (v := .int .i64 0) K3.out
    have p0 : ((((w1.setCell ⟨w.heap.size, 0, none⟩ (.slice p l c)).setCell ⟨w.heap.size, 1, none⟩ (.bool b)).setCell ⟨w.heap.size, 2, none⟩ (.slice p2 l2 c2)).setCell ⟨w.heap.size + 1, 0, none⟩ (.int .i64 0)).cell? ⟨w.heap.size, 0, none⟩ = some (.slice p l c) := cell_at (off := 0) q4
    have p1 : ((((w1.setCell ⟨w.heap.size, 0, none⟩ (.slice p l c)).setCell ⟨w.heap.size, 1, none⟩ (.bool b)).setCell ⟨w.heap.size, 2, none⟩ (.slice p2 l2 c2)).setCell ⟨w.heap.size + 1, 0, none⟩ (.int .i64 0)).cell? ⟨w.heap.size, 1, none⟩ = some (.bool b) := cell_at (off := 1) q4
    have p3 : ((((w1.setCell ⟨w.heap.size, 0, none⟩ (.slice p l c)).setCell ⟨w.heap.size, 1, none⟩ (.bool b)).setCell ⟨w.heap.size, 2, none⟩ (.slice p2 l2 c2)).setCell ⟨w.heap.size + 1, 0, none⟩ (.int .i64 0)).cell? ⟨w.heap.size, 2, none⟩ = some (.slice p2 l2 c2) := cell_at (off := 2) q4
    have p2' : ((((w1.setCell ⟨w.heap.size, 0, none⟩ (.slice p l c)).setCell ⟨w.heap.size, 1, none⟩ (.bool b)).setCell ⟨w.heap.size, 2, none⟩ (.slice p2 l2 c2)).setCell ⟨w.heap.size + 1, 0, none⟩ (.int .i64 0)).cell? ⟨w.heap.size + 1, 0, none⟩ = some (.int .i64 0) := cell_at (off := 0) q3
    refine ⟨.tuple #[.agg #[(.slice p l c), (.bool b), (.slice p2 l2 c2)], .int .i64 0], ?_, .inr ⟨w1, (.slice p l c), (.bool b), (.slice p2 l2 c2), HRR.out, rfl, rfl⟩⟩
    clear q4 q3
    generalize ((((w1.setCell ⟨w.heap.size, 0, none⟩ (.slice p l c)).setCell ⟨w.heap.size, 1, none⟩ (.bool b)).setCell ⟨w.heap.size, 2, none⟩ (.slice p2 l2 c2)).setCell ⟨w.heap.size + 1, 0, none⟩ (.int .i64 0)) = W at p0 p1 p2' p3 ⊢
    simp [results, Tryz.results99, go_sem, p0, p1, p2', p3]

end Ta
end
section
/- What comes of an attempt: fractions. -/
set_option linter.unusedVariables false
set_option linter.unusedSimpArgs false
set_option maxRecDepth 100000
namespace Ta
open Go Fw Go.Proofs Go.RowKit Pl

abbrev Qt : Ty := .pair Zt (.pair nat .unit)
abbrev QI : Ar := .ty Qt
abbrev Qv := Zv × List Int × Unit

theorem two_below' (w : World) (o o' : Go.Obj) : Below w.heap.size w ((w.alloc o).alloc o') := two_below w o o'
theorem below_caughtQ {B n : Nat} {w w1 : World} (h : Below B w w1) (hn : B ≤ n) (hs : B ≤ w1.heap.size) : Below B w (caughtQ w1 n) := by
  unfold caughtQ
  refine below_set (below_set (below_set (below_set ((h.alloc hs _).alloc ?_ _) hn) hn) hn) (by omega)
  exact Nat.le_trans hs (by show _ ≤ (w1.heap.push _).size; rw [Array.size_push]; omega)
theorem two_keepsQ {O : Nat → Prop} {w : World} {o o' : Go.Obj} : Keeps w O ((w.alloc o).alloc o') (two O w) := two_keeps

theorem att99 {args : List Ar} {pre : Ars args → Prop} {post : Ars args → Qv × Unit} {pan : Ars args → Bool} {g : FuncId} (hS : SoundX Tryz.prog 130 g ⟨⟨args, [QI], pre, post, none⟩, pan⟩)
    {y : Ars args} (hy : pre y) {w : World} {O : Nat → Prop} (hO : OKO O w) {first caps : Array Value} (hl : LRep w O (encs args y) (first ++ caps).toList) {z : Qv} {c : Int}
    (hz1 : pan y = true → z = (([], false, ()), [], ()) ∧ c = 11) (hz2 : pan y = false → z = (post y).1 ∧ c = 0) :
    Calls Tryz.prog 99 #[.func (.func g) first caps] w fun e w' => ∃ v, e = .returned v ∧ Below w.heap.size w w' ∧ ∀ ι, ARep w' O ι (resAV (encs [QI, E] (z, c, ()))) v := by
  have hl1 := LRep.keeps (two_keeps (o := .cells #[.slice none 0 0, .bool false, .slice none 0 0] 44) (o' := .cells #[.int .i64 0] 33)) _ _ hl
  obtain ⟨hrun, hcall⟩ := hS y hy _ _ (first ++ caps) (two_oko hO) hl1
  refine (attempt99 g first caps w _ hrun hcall ?_).mono ?_
  · rintro e w' (⟨_, rfl, hb⟩ | ⟨_, v, rfl, hb, hv, _⟩)
    · rw [alloc_size, alloc_size] at hb
      exact .inl ⟨rfl, hb⟩
    · rw [alloc_size, alloc_size] at hb
      refine .inr ?_
      obtain ⟨vs, rfl, us⟩ := hv (fun _ => undef)
      obtain ⟨u0, us0, e0, h0, u1, us1, e1, h1, u2, us2, e2, h2, e3⟩ := us
      subst e3 e2 e1
      have ev : vs = #[u0, u1, u2] := arr_eq e0
      subst ev
      obtain ⟨⟨a, cc, rfl, _⟩, _⟩ := h0
      obtain ⟨⟨a2, cc2, rfl, _⟩, _⟩ := h2
      exact ⟨_, _, _, rfl, ⟨⟨_, _, _, rfl⟩, ⟨_, h1⟩, _, _, _, rfl⟩, hb⟩
  · rintro e w' (⟨w1, hx, rfl, rfl⟩ | ⟨w1, u0, u1, u2, hx, rfl, rfl⟩)
    · rcases hx with ⟨hp, _, hb⟩ | ⟨_, v, hv, _⟩
      · obtain ⟨rfl, rfl⟩ := hz1 hp
        have hb1 : Below w.heap.size w w1 := (two_below w _ _).trans (hb.mono (by rw [alloc_size, alloc_size]; omega))
        refine ⟨_, rfl, below_caughtQ hb1 (Nat.le_refl _) hb1.size, fun ι => ?_⟩
        exact ⟨_, rfl, _, _, rfl, ⟨_, rfl, _, _, rfl, nil_rep, _, _, rfl, rfl, _, _, rfl, nil_rep, rfl⟩, _, _, rfl, rfl, rfl⟩
      · cases hv
    · rcases hx with ⟨_, hv, _⟩ | ⟨hp, v, hv, hb, hrep, _⟩
      · cases hv
      · injection hv with hv
        subst hv
        obtain ⟨rfl, rfl⟩ := hz2 hp
        have hb1 : Below w.heap.size w w1 := (two_below w _ _).trans (hb.mono (by rw [alloc_size, alloc_size]; omega))
        refine ⟨_, rfl, below_set (below_set (below_set (below_set hb1 (Nat.le_refl _)) (Nat.le_refl _)) (Nat.le_refl _)) (by omega), fun ι => ?_⟩
        have hk : Keeps w1 (two O w) ((((w1.setCell ⟨w.heap.size, 0, none⟩ u0).setCell ⟨w.heap.size, 1, none⟩ u1).setCell ⟨w.heap.size, 2, none⟩ u2).setCell ⟨w.heap.size + 1, 0, none⟩ (.int .i64 0)) O := by
          refine ⟨fun b _ hn => ?_, fun b _ hn h => hn (.inl h)⟩
          have n1 : w.heap.size ≠ b := fun e => hn (.inr (.inl e.symm))
          have n2 : w.heap.size + 1 ≠ b := fun e => hn (.inr (.inr e.symm))
          rw [heap_set_other n2, heap_set_other n1, heap_set_other n1, heap_set_other n1]
        have hr := hrep ι
        have hr' : VRep w1 (two O w) (QI.enc (post y).1) (.agg #[u0, u1, u2]) := hr
        exact ⟨_, rfl, _, _, rfl, VRep.keeps hk _ _ hr', _, _, rfl, rfl, rfl⟩

end Ta
end
section
/- Fractions: contracts. -/
set_option linter.unusedVariables false
set_option linter.unusedSimpArgs false
set_option maxRecDepth 100000
namespace Ta
open Go Fw Go.Proofs

/-- The fraction; its form. -/
def Pl.qv (q : Qv) : Rat := mkRat (Pl.iv q.1) (Pl.nt q.2.1 + 1)
def Pl.mkQ (r : Rat) : Qv := (Pl.mkI r.num, Pl.tn (r.den - 1), ())
def Pl.okQn (n : Nat) (q : Qv) : Prop := Pl.okI q.1 ∧ Pl.can Pl.W q.2.1 ∧ q.1.1.length ≤ n ∧ q.2.1.length ≤ n ∧ Nat.gcd (Pl.nt q.1.1) (Pl.nt q.2.1 + 1) = 1
def Pl.okQ (q : Qv) : Prop := Pl.okQn 1000000 q
def Pl.okQ2 (q : Qv) : Prop := Pl.okQn 9000000 q
def Pl.dnI (q : Qv) : Zv := Pl.mkI ((Pl.nt q.2.1 + 1 : Nat) : Int)
def Pl.loQ (a b : Zv) : Qv := Pl.mkQ (Rat.divInt (Pl.iv a) (Pl.iv b))
def Pl.bigQ (r : Rat) : Bool := Pl.bigI r.num || Pl.bigI (r.den : Int)
def Pl.atq1 (r : Rat) : Qv := if Pl.bigQ r then Pl.mkQ 0 else Pl.mkQ r
def Pl.atq2 (r : Rat) : Int := if Pl.bigQ r then 11 else 0
def Pl.big2 (q : Qv) : Bool := Pl.big q.1.1 || Pl.big (Pl.dnI q).1
def Pl.dQ : D → Qv
  | .rptr [.slc _ (.int .u64) a, .bool s, .slc _ (.int .u64) b] => ((a, s, ()), b, ())
  | .agg [.slc _ (.int .u64) a, .bool s, .slc _ (.int .u64) b] => ((a, s, ()), b, ())
  | _ => (([], false, ()), [], ())
def Pl.isQ (d : D) : Prop := (∃ f a s g b, d = .rptr [.slc f (.int .u64) a, .bool s, .slc g (.int .u64) b]) ∧ Pl.okQ (Pl.dQ d)
def Pl.isQa (d : D) : Prop := (∃ f a s g b, d = .agg [.slc f (.int .u64) a, .bool s, .slc g (.int .u64) b]) ∧ Pl.okQ2 (Pl.dQ d)
def Pl.isQn (d : D) : Prop := Pl.isQ d ∧ (Pl.dQ d).1.1 ≠ []
def Pl.adQ (a b : Qv) : Rat := Pl.qv a + Pl.qv b
def Pl.suQ (a b : Qv) : Rat := Pl.qv a - Pl.qv b
def Pl.muQ (a b : Qv) : Rat := Pl.qv a * Pl.qv b
def Pl.quQ (a b : Qv) : Rat := Pl.qv a / Pl.qv b
def Pl.ngQ (a : Qv) : Qv := Pl.mkQ (-(Pl.qv a))
def Pl.cpQ (a b : Qv) : Int := Pl.ordI (Pl.iv a.1 * ((Pl.nt b.2.1 + 1 : Nat) : Int)) (Pl.iv b.1 * ((Pl.nt a.2.1 + 1 : Nat) : Int))
def Pl.sgQ (a : Qv) : Int := Pl.sgI a.1
def Pl.txtR (r : Rat) : List UInt8 := if r.den = 1 then Lib.itoa r.num else Lib.itoa r.num ++ (47 :: Lib.decDigits r.den)
def Pl.txtQ (a : Qv) : ByteArray := Pl.ba (Pl.txtR (Pl.qv a))
def Pl.mk1 (a b : Int) : Qv := if b = 0 then Pl.mkQ 0 else Pl.mkQ (Rat.divInt a b)
def Pl.mk2 (b : Int) : Int := if b = 0 then 6 else 0
def Pl.mkz (a b : Zv) : Qv := Pl.mk1 (Pl.iv a) (Pl.iv b)
def Pl.mkz2 (b : Zv) : Int := Pl.mk2 (Pl.iv b)
/-- What a text without its slash is, and what is behind it. -/
def Pl.topL (l : List UInt8) : List UInt8 := (Lib.cut l [47]).1
def Pl.botL (l : List UInt8) : List UInt8 := if (Lib.cut l [47]).2.2 then (Lib.cut l [47]).2.1 else [49]
def Pl.rdB (l : List UInt8) : Bool := Pl.isFl (Pl.topL l) && Pl.isFl (Pl.botL l) && !decide ((Pl.botL l).head? = some 45) && !decide (Pl.botL l = [48])
def Pl.rdR (l : List UInt8) : Rat := Rat.divInt (Pl.parV (Pl.topL l)) (Pl.parV (Pl.botL l))
def Pl.rdV (l : List UInt8) : Bool := Pl.rdB l && decide (Pl.txtR (Pl.rdR l) = l)
def Pl.pq1 (s : ByteArray) : Qv := if Pl.rdV (Pl.bl s) then Pl.atq1 (Pl.rdR (Pl.bl s)) else Pl.mkQ 0
def Pl.pq2 (s : ByteArray) : Int := if Pl.rdV (Pl.bl s) then Pl.atq2 (Pl.rdR (Pl.bl s)) else 10

def C83 : Con := ⟨[QI], [ZI], fun (x : Qv × Unit) => Pl.okQ2 x.1, fun (x : Qv × Unit) => (Pl.dnI x.1, ()), none⟩
def C85 : Con := ⟨[ZI, ZI], [QI], fun (x : Zv × Zv × Unit) => Pl.okI x.1 ∧ Pl.okI x.2.1 ∧ x.2.1.1 ≠ [], fun (x : Zv × Zv × Unit) => (Pl.loQ x.1 x.2.1, ()), none⟩
def C100 : ConP := ⟨⟨[QI], [QI], fun (x : Qv × Unit) => Pl.okQ2 x.1, fun (x : Qv × Unit) => (x.1, ()), none⟩, fun (x : Qv × Unit) => Pl.big2 x.1⟩
def C115 : ConP := ⟨⟨[.raw, .raw], [QI], fun (x : D × D × Unit) => Pl.isQ x.1 ∧ Pl.isQ x.2.1, fun (x : D × D × Unit) => (Pl.mkQ (Pl.adQ (Pl.dQ x.1) (Pl.dQ x.2.1)), ()), none⟩, fun (x : D × D × Unit) => Pl.bigQ (Pl.adQ (Pl.dQ x.1) (Pl.dQ x.2.1))⟩
def C116 : ConP := ⟨⟨[.raw, .raw], [QI], fun (x : D × D × Unit) => Pl.isQ x.1 ∧ Pl.isQ x.2.1, fun (x : D × D × Unit) => (Pl.mkQ (Pl.muQ (Pl.dQ x.1) (Pl.dQ x.2.1)), ()), none⟩, fun (x : D × D × Unit) => Pl.bigQ (Pl.muQ (Pl.dQ x.1) (Pl.dQ x.2.1))⟩
def C117 : ConP := ⟨⟨[.raw, .raw], [QI], fun (x : D × D × Unit) => Pl.isQ x.1 ∧ Pl.isQn x.2.1, fun (x : D × D × Unit) => (Pl.mkQ (Pl.quQ (Pl.dQ x.1) (Pl.dQ x.2.1)), ()), none⟩, fun (x : D × D × Unit) => Pl.bigQ (Pl.quQ (Pl.dQ x.1) (Pl.dQ x.2.1))⟩
/-- What a function computes that is attempted. -/
def Pl.cloR : D → Rat
  | .clo f [d1, d2] => bif Nat.beq f 115 then Pl.adQ (Pl.dQ d1) (Pl.dQ d2) else bif Nat.beq f 116 then Pl.muQ (Pl.dQ d1) (Pl.dQ d2) else Pl.quQ (Pl.dQ d1) (Pl.dQ d2)
  | .bfn _ [d] => Pl.qv (Pl.dQ d)
  | _ => 0
def Pl.okCloQ : D → Prop
  | .clo f [d1, d2] => (f = 115 ∨ f = 116) ∧ Pl.isQ d1 ∧ Pl.isQ d2 ∨ f = 117 ∧ Pl.isQ d1 ∧ Pl.isQn d2
  | .bfn f [d] => f = 100 ∧ Pl.isQa d
  | _ => False
def Pl.aq1 (d : D) : Qv := Pl.atq1 (Pl.cloR d)
def Pl.aq2 (d : D) : Int := Pl.atq2 (Pl.cloR d)
def C99 : Con := ⟨[.raw], [QI, E], fun (x : D × Unit) => Pl.okCloQ x.1, fun (x : D × Unit) => (Pl.aq1 x.1, Pl.aq2 x.1, ()), none⟩
def Pl.aad1 (a b : Qv) : Qv := Pl.atq1 (Pl.adQ a b)
def Pl.aad2 (a b : Qv) : Int := Pl.atq2 (Pl.adQ a b)
def Pl.asu1 (a b : Qv) : Qv := Pl.atq1 (Pl.suQ a b)
def Pl.asu2 (a b : Qv) : Int := Pl.atq2 (Pl.suQ a b)
def Pl.amu1 (a b : Qv) : Qv := Pl.atq1 (Pl.muQ a b)
def Pl.amu2 (a b : Qv) : Int := Pl.atq2 (Pl.muQ a b)
def Pl.aqu1 (a b : Qv) : Qv := if b.1.1 = [] then Pl.mkQ 0 else Pl.atq1 (Pl.quQ a b)
def Pl.aqu2 (a b : Qv) : Int := if b.1.1 = [] then 6 else Pl.atq2 (Pl.quQ a b)

def C28 : Con := ⟨[ZI, ZI], [QI, E], fun (x : Zv × Zv × Unit) => Pl.okI x.1 ∧ Pl.okI x.2.1, fun (x : Zv × Zv × Unit) => (Pl.mkz x.1 x.2.1, Pl.mkz2 x.2.1, ()), none⟩
def C24 : Con := ⟨[I, I], [QI, E], fun (x : Int × Int × Unit) => (-9223372036854775808 ≤ x.1 ∧ x.1 < 9223372036854775808) ∧ (-9223372036854775808 ≤ x.2.1 ∧ x.2.1 < 9223372036854775808), fun (x : Int × Int × Unit) => (Pl.mk1 x.1 x.2.1, Pl.mk2 x.2.1, ()), none⟩
def C25 : Con := ⟨[QI], [S], fun (x : Qv × Unit) => Pl.okQ2 x.1, fun (x : Qv × Unit) => (Pl.txtQ x.1, ()), none⟩
def C37 : Con := ⟨[S], [QI, E], fun (x : ByteArray × Unit) => x.1.size ≤ 1100000, fun (x : ByteArray × Unit) => (Pl.pq1 x.1, Pl.pq2 x.1, ()), none⟩
def C38 : Con := ⟨[QI], [ZI], fun (x : Qv × Unit) => True, fun (x : Qv × Unit) => (x.1.1, ()), none⟩
def C39 : Con := ⟨[QI], [ZI], fun (x : Qv × Unit) => Pl.okQ2 x.1, fun (x : Qv × Unit) => (Pl.dnI x.1, ()), none⟩
def C40 : Con := ⟨[QI], [I], fun (x : Qv × Unit) => Pl.okQ2 x.1, fun (x : Qv × Unit) => (Pl.sgQ x.1, ()), none⟩
def C42 : Con := ⟨[QI], [QI], fun (x : Qv × Unit) => Pl.okQ2 x.1, fun (x : Qv × Unit) => (Pl.ngQ x.1, ()), none⟩
def C66 : Con := ⟨[QI, QI], [I], fun (x : Qv × Qv × Unit) => Pl.okQ x.1 ∧ Pl.okQ x.2.1, fun (x : Qv × Qv × Unit) => (Pl.cpQ x.1 x.2.1, ()), none⟩
def C64 : Con := ⟨[QI, QI], [QI, E], fun (x : Qv × Qv × Unit) => Pl.okQ x.1 ∧ Pl.okQ x.2.1, fun (x : Qv × Qv × Unit) => (Pl.aad1 x.1 x.2.1, Pl.aad2 x.1 x.2.1, ()), none⟩
def C70 : Con := ⟨[QI, QI], [QI, E], fun (x : Qv × Qv × Unit) => Pl.okQ x.1 ∧ Pl.okQ x.2.1, fun (x : Qv × Qv × Unit) => (Pl.asu1 x.1 x.2.1, Pl.asu2 x.1 x.2.1, ()), none⟩
def C65 : Con := ⟨[QI, QI], [QI, E], fun (x : Qv × Qv × Unit) => Pl.okQ x.1 ∧ Pl.okQ x.2.1, fun (x : Qv × Qv × Unit) => (Pl.amu1 x.1 x.2.1, Pl.amu2 x.1 x.2.1, ()), none⟩
def C67 : Con := ⟨[QI, QI], [QI, E], fun (x : Qv × Qv × Unit) => Pl.okQ x.1 ∧ Pl.okQ x.2.1, fun (x : Qv × Qv × Unit) => (Pl.aqu1 x.1 x.2.1, Pl.aqu2 x.1 x.2.1, ()), none⟩

def T83 : Ctx := ⟨tt, [(111, C111), (120, C120), (106, C106)], [], none, [], 0, [], [], 130⟩
def T85 : Ctx := ⟨tt, [(50, C50), (108, C108), (119, C119), (106, C106), (111, C111), (121, C121)], [], none, [], 0, [], [], 130⟩
def T100 : Ctx := ⟨tt, [(83, C83)], [], none, [], 0, [], [(113, C113)], 130⟩
def T115 : Ctx := ⟨tt, [(83, C83), (92, C92), (89, C89), (85, C85)], [], none, [], 0, [], [(100, C100)], 130⟩
def T28 : Ctx := ⟨tt, [(21, C21), (85, C85)], [], none, [], 0, [], [], 130⟩
def T24 : Ctx := ⟨tt, [(75, C75), (28, C28)], [], none, [], 0, [], [], 130⟩
def T25 : Ctx := ⟨tt, [(46, C46), (83, C83)], [], none, [], 0, [], [], 130⟩
def T37 : Ctx := ⟨tt, [(96, C96), (97, C97), (98, C98), (85, C85), (25, C25), (99, C99)], [], none, [], 0, [], [], 130⟩
def T39 : Ctx := ⟨tt, [(83, C83)], [], none, [], 0, [], [], 130⟩
def T40 : Ctx := ⟨tt, [(21, C21)], [], none, [], 0, [], [], 130⟩
def T42 : Ctx := ⟨tt, [(50, C50)], [], none, [], 0, [], [], 130⟩
def T66 : Ctx := ⟨tt, [(83, C83), (92, C92), (52, C52)], [], none, [], 0, [], [], 130⟩
def T64 : Ctx := ⟨tt, [(99, C99)], [], none, [], 0, [], [], 130⟩
def T70 : Ctx := ⟨tt, [(42, C42), (64, C64)], [], none, [], 0, [], [], 130⟩
def T67 : Ctx := ⟨tt, [(40, C40), (99, C99)], [], none, [], 0, [], [], 130⟩
def H64 : Hints := ⟨[], [(1, [2, 3])], [], []⟩
def H67 : Hints := ⟨[], [(3, [2, 3])], [], []⟩

end Ta
end
section
/- The reference's numbers: contracts. -/
set_option linter.unusedVariables false
set_option linter.unusedSimpArgs false
set_option maxRecDepth 100000
namespace Ta
open Go Fw Go.Proofs

abbrev RL : Ty := .slc i64
abbrev RN : Ar := .ty RL
abbrev RZt : Ty := .pair .bool (.pair RL .unit)
abbrev RZ : Ar := .ty RZt
abbrev RQt : Ty := .pair RZt (.pair RZt .unit)
abbrev RQ : Ar := .ty RQt
abbrev Rv := Bool × List Int × Unit
abbrev RQv := Rv × Rv × Unit

def Pl.BB : Nat := 1000000000
def Pl.nr (x : List Int) : Nat := Pl.vl Pl.BB x
def Pl.rn (n : Nat) : List Int := Pl.dg Pl.BB n
def Pl.okL (x : List Int) : Prop := Pl.can Pl.BB x ∧ x.length ≤ 10000000
def Pl.okK (x : List Int) : Prop := Pl.can Pl.BB x ∧ x.length ≤ 5000000
def Pl.rgL (x : List Int) : Prop := Pl.rng Pl.BB x ∧ x.length ≤ 20000000000000
def Pl.rtr (x : List Int) : List Int := Pl.rn (Pl.nr x)
def Pl.cmpR (x y : List Int) : Int := Pl.cmpN (Pl.nr x) (Pl.nr y)
def Pl.addR (x y : List Int) : List Int := Pl.rn (Pl.nr x + Pl.nr y)
def Pl.subR (x y : List Int) : List Int := Pl.rn (Pl.nr x - Pl.nr y)
def Pl.mulR (x y : List Int) : List Int := Pl.rn (Pl.nr x * Pl.nr y)
def Pl.timR (x : List Int) (k : Int) : List Int := Pl.rn (Pl.nr x * k.toNat)
def Pl.smq (x : List Int) (k : Int) : List Int := Pl.rn (Pl.nr x / k.toNat)
def Pl.smr (x : List Int) (k : Int) : Int := ((Pl.nr x % k.toNat : Nat) : Int)
def Pl.divR (x y : List Int) : List Int := Pl.rn (Pl.nr x / Pl.nr y)
def Pl.modR (x y : List Int) : List Int := Pl.rn (Pl.nr x % Pl.nr y)
def Pl.gcdR (x y : List Int) : List Int := Pl.rn (Nat.gcd (Pl.nr x) (Pl.nr y))
def Pl.lenR (x : List Int) : Int := (((Lib.decDigits (Pl.nr x)).length : Nat) : Int)
def Pl.leR (x y : List Int) : Prop := Pl.nr x ≤ Pl.nr y
/-- The integer; its form. -/
def Pl.zv (z : Rv) : Int := if z.1 then -((Pl.nr z.2.1 : Nat) : Int) else ((Pl.nr z.2.1 : Nat) : Int)
def Pl.mkR (n : Int) : Rv := (decide (n < 0), Pl.rn n.natAbs, ())
def Pl.rsg (b : Bool) (x : List Int) : Rv := (b && decide (0 < (x.length : Int)), x, ())
def Pl.okZ (z : Rv) : Prop := Pl.can Pl.BB z.2.1 ∧ z.2.1.length ≤ 4000000 ∧ (z.1 = true → z.2.1 ≠ [])
def Pl.okY (z : Rv) : Prop := Pl.can Pl.BB z.2.1 ∧ z.2.1.length ≤ 9000000 ∧ (z.1 = true → z.2.1 ≠ [])
def Pl.sgR (z : Rv) : Int := Pl.ordI (Pl.zv z) 0
def Pl.ngR (z : Rv) : Rv := Pl.mkR (-(Pl.zv z))
def Pl.adR (a b : Rv) : Rv := Pl.mkR (Pl.zv a + Pl.zv b)
def Pl.suR (a b : Rv) : Rv := Pl.mkR (Pl.zv a - Pl.zv b)
def Pl.muR (a b : Rv) : Rv := Pl.mkR (Pl.zv a * Pl.zv b)
def Pl.cpR (a b : Rv) : Int := Pl.ordI (Pl.zv a) (Pl.zv b)
def Pl.qoR (a b : Rv) : Rv := Pl.mkR ((Pl.zv a).tdiv (Pl.zv b))
def Pl.dqR (a b : Rv) : Rv := Pl.mkR (Pl.zv a / Pl.zv b)
def Pl.drR (a b : Rv) : Rv := Pl.mkR (Pl.zv a % Pl.zv b)
def Pl.gcR (a b : Rv) : Rv := Pl.mkR ((Nat.gcd (Pl.nr a.2.1) (Pl.nr b.2.1) : Nat) : Int)
def Pl.txR (z : Rv) : ByteArray := Pl.ba (Lib.itoa (Pl.zv z))
/-- The fraction; its form. -/
def Pl.rqv (q : RQv) : Rat := Rat.divInt (Pl.zv q.1) (Pl.zv q.2.1)
def Pl.mkRQ (r : Rat) : RQv := (Pl.mkR r.num, Pl.mkR (r.den : Int), ())
def Pl.okRQ (q : RQv) : Prop := Pl.okZ q.1 ∧ Pl.okZ q.2.1 ∧ q.1.2.1.length ≤ 1000000 ∧ q.2.1.2.1.length ≤ 1000000 ∧ 0 < Pl.zv q.2.1 ∧ Nat.gcd (Pl.nr q.1.2.1) (Pl.nr q.2.1.2.1) = 1
def Pl.raR (a b : Rv) : RQv := Pl.mkRQ (Rat.divInt (Pl.zv a) (Pl.zv b))
def Pl.frR (a b : Int) : RQv := Pl.mkRQ (Rat.divInt a b)
def Pl.whR (a : Rv) : RQv := (a, Pl.mkR 1, ())
def Pl.pqR (a b : RQv) : RQv := Pl.mkRQ (Pl.rqv a + Pl.rqv b)
def Pl.mqR (a b : RQv) : RQv := Pl.mkRQ (Pl.rqv a - Pl.rqv b)
def Pl.tqR (a b : RQv) : RQv := Pl.mkRQ (Pl.rqv a * Pl.rqv b)
def Pl.oqR (a b : RQv) : RQv := Pl.mkRQ (Pl.rqv a / Pl.rqv b)
def Pl.cqR (a b : RQv) : Int := Pl.ordI (Pl.zv a.1 * Pl.zv b.2.1) (Pl.zv b.1 * Pl.zv a.2.1)
def Pl.sqR (a : RQv) : Int := Pl.sgR a.1
def Pl.foR (a : RQv) : ByteArray := Pl.ba (Pl.txtR (Pl.rqv a))
def Pl.paR (s : ByteArray) : Rv := if Pl.isF s then Pl.mkR (Pl.parS s) else (false, [], ())
def Pl.reR (s : ByteArray) : RQv := if Pl.rdV (Pl.bl s) then Pl.mkRQ (Pl.rdR (Pl.bl s)) else ((false, [], ()), (false, [], ()), ())
def Pl.rvS (s : ByteArray) : Bool := Pl.rdV (Pl.bl s)
def Pl.twR (n : Int) : Rv := Pl.mkR (2 ^ n.toNat)
def Pl.smR (z : Rv) : Bool := decide ((Pl.zv z).natAbs < 2 ^ 40000)
def Pl.poR (a : Rv) (n : Int) : Rv := Pl.mkR (Pl.zv a ^ n.toNat)
def Pl.okP (a : Rv) (n : Int) : Prop := 0 ≤ n ∧ n ≤ 1000000 ∧ a.2.1.length * n.toNat ≤ 1000000
def Pl.coR (n k : Int) : Rv := if k < 0 ∨ n < k then Pl.mkR 0 else Pl.mkR ((Pl.cho n.toNat k.toNat : Nat) : Int)
def Pl.faR (n : Int) : Rv := Pl.mkR ((Pl.fac n.toNat : Nat) : Int)
def Pl.i6v (z : Rv) : Int := if Pl.in64 (Pl.zv z) then Pl.zv z else 0
def Pl.i6b (z : Rv) : Bool := Pl.in64 (Pl.zv z)
def Pl.rg64 (n : Int) : Prop := -9223372036854775808 ≤ n ∧ n < 9223372036854775808

def C101 : Con := ⟨[RN], [RN], fun (x : List Int × Unit) => Pl.rgL x.1, fun (x : List Int × Unit) => (Pl.rtr x.1, ()), none⟩
def C93 : Con := ⟨[RN, RN], [I], fun (x : List Int × List Int × Unit) => Pl.okL x.1 ∧ Pl.okL x.2.1, fun (x : List Int × List Int × Unit) => (Pl.cmpR x.1 x.2.1, ()), none⟩
def C80 : Con := ⟨[RN, RN], [RN], fun (x : List Int × List Int × Unit) => Pl.okL x.1 ∧ Pl.okL x.2.1, fun (x : List Int × List Int × Unit) => (Pl.addR x.1 x.2.1, ()), none⟩
def C81 : Con := ⟨[RN, RN], [RN], fun (x : List Int × List Int × Unit) => Pl.okL x.1 ∧ Pl.okL x.2.1 ∧ Pl.leR x.2.1 x.1, fun (x : List Int × List Int × Unit) => (Pl.subR x.1 x.2.1, ()), none⟩
def C94 : Con := ⟨[RN, RN], [RN], fun (x : List Int × List Int × Unit) => Pl.okL x.1 ∧ Pl.okL x.2.1, fun (x : List Int × List Int × Unit) => (Pl.mulR x.1 x.2.1, ()), none⟩
def C123 : Con := ⟨[RN, I], [RN], fun (x : List Int × Int × Unit) => Pl.okL x.1 ∧ 0 ≤ x.2.1 ∧ x.2.1 ≤ 1000000000, fun (x : List Int × Int × Unit) => (Pl.timR x.1 x.2.1, ()), none⟩
def C124 : Con := ⟨[RN, I], [RN, I], fun (x : List Int × Int × Unit) => Pl.okL x.1 ∧ 0 < x.2.1 ∧ x.2.1 ≤ 1000000000, fun (x : List Int × Int × Unit) => (Pl.smq x.1 x.2.1, Pl.smr x.1 x.2.1, ()), none⟩
def C78 : Con := ⟨[RN, RN], [RN, RN], fun (x : List Int × List Int × Unit) => Pl.okK x.1 ∧ Pl.okK x.2.1 ∧ x.2.1 ≠ [], fun (x : List Int × List Int × Unit) => (Pl.divR x.1 x.2.1, Pl.modR x.1 x.2.1, ()), none⟩
def C109 : Con := ⟨[RN, RN], [RN], fun (x : List Int × List Int × Unit) => Pl.okK x.1 ∧ Pl.okK x.2.1, fun (x : List Int × List Int × Unit) => (Pl.gcdR x.1 x.2.1, ()), none⟩
def C57 : Con := ⟨[RN], [I], fun (x : List Int × Unit) => Pl.okL x.1, fun (x : List Int × Unit) => (Pl.lenR x.1, ()), none⟩
def C79 : Con := ⟨[B, RN], [RZ], fun (x : Bool × List Int × Unit) => True, fun (x : Bool × List Int × Unit) => (Pl.rsg x.1 x.2.1, ()), none⟩
def C69 : Con := ⟨[I], [RZ], fun (x : Int × Unit) => Pl.rg64 x.1, fun (x : Int × Unit) => (Pl.mkR x.1, ()), none⟩
def C51 : Con := ⟨[RZ], [RZ], fun (x : Rv × Unit) => Pl.okZ x.1, fun (x : Rv × Unit) => (Pl.ngR x.1, ()), none⟩
def C20 : Con := ⟨[RZ], [I], fun (x : Rv × Unit) => Pl.okY x.1, fun (x : Rv × Unit) => (Pl.sgR x.1, ()), none⟩
def C33 : Con := ⟨[RZ, RZ], [RZ], fun (x : Rv × Rv × Unit) => Pl.okZ x.1 ∧ Pl.okZ x.2.1, fun (x : Rv × Rv × Unit) => (Pl.adR x.1 x.2.1, ()), none⟩
def C34 : Con := ⟨[RZ, RZ], [RZ], fun (x : Rv × Rv × Unit) => Pl.okZ x.1 ∧ Pl.okZ x.2.1, fun (x : Rv × Rv × Unit) => (Pl.suR x.1 x.2.1, ()), none⟩
def C35 : Con := ⟨[RZ, RZ], [RZ], fun (x : Rv × Rv × Unit) => Pl.okZ x.1 ∧ Pl.okZ x.2.1, fun (x : Rv × Rv × Unit) => (Pl.muR x.1 x.2.1, ()), none⟩
def C53 : Con := ⟨[RZ, RZ], [I], fun (x : Rv × Rv × Unit) => Pl.okZ x.1 ∧ Pl.okZ x.2.1, fun (x : Rv × Rv × Unit) => (Pl.cpR x.1 x.2.1, ()), none⟩
def C86 : Con := ⟨[RZ, RZ], [RZ], fun (x : Rv × Rv × Unit) => Pl.okZ x.1 ∧ Pl.okZ x.2.1 ∧ x.2.1.2.1 ≠ [], fun (x : Rv × Rv × Unit) => (Pl.qoR x.1 x.2.1, ()), none⟩
def C22 : Con := ⟨[RZ, RZ], [RZ, RZ], fun (x : Rv × Rv × Unit) => Pl.okZ x.1 ∧ Pl.okZ x.2.1 ∧ x.2.1.2.1 ≠ [], fun (x : Rv × Rv × Unit) => (Pl.dqR x.1 x.2.1, Pl.drR x.1 x.2.1, ()), none⟩
def C55 : Con := ⟨[RZ, RZ], [RZ], fun (x : Rv × Rv × Unit) => Pl.okZ x.1 ∧ Pl.okZ x.2.1, fun (x : Rv × Rv × Unit) => (Pl.gcR x.1 x.2.1, ()), none⟩
def C29 : Con := ⟨[RZ, RZ], [RQ], fun (x : Rv × Rv × Unit) => Pl.okZ x.1 ∧ Pl.okZ x.2.1 ∧ x.2.1.2.1 ≠ [], fun (x : Rv × Rv × Unit) => (Pl.raR x.1 x.2.1, ()), none⟩
def C27 : Con := ⟨[I, I], [RQ], fun (x : Int × Int × Unit) => Pl.rg64 x.1 ∧ Pl.rg64 x.2.1 ∧ x.2.1 ≠ 0, fun (x : Int × Int × Unit) => (Pl.frR x.1 x.2.1, ()), none⟩
def C95 : Con := ⟨[RZ], [RQ], fun (x : Rv × Unit) => True, fun (x : Rv × Unit) => (Pl.whR x.1, ()), none⟩
def C71 : Con := ⟨[RQ, RQ], [RQ], fun (x : RQv × RQv × Unit) => Pl.okRQ x.1 ∧ Pl.okRQ x.2.1, fun (x : RQv × RQv × Unit) => (Pl.pqR x.1 x.2.1, ()), none⟩
def C43 : Con := ⟨[RQ, RQ], [RQ], fun (x : RQv × RQv × Unit) => Pl.okRQ x.1 ∧ Pl.okRQ x.2.1, fun (x : RQv × RQv × Unit) => (Pl.mqR x.1 x.2.1, ()), none⟩
def C72 : Con := ⟨[RQ, RQ], [RQ], fun (x : RQv × RQv × Unit) => Pl.okRQ x.1 ∧ Pl.okRQ x.2.1, fun (x : RQv × RQv × Unit) => (Pl.tqR x.1 x.2.1, ()), none⟩
def C74 : Con := ⟨[RQ, RQ], [RQ], fun (x : RQv × RQv × Unit) => Pl.okRQ x.1 ∧ Pl.okRQ x.2.1 ∧ x.2.1.1.2.1 ≠ [], fun (x : RQv × RQv × Unit) => (Pl.oqR x.1 x.2.1, ()), none⟩
def C73 : Con := ⟨[RQ, RQ], [I], fun (x : RQv × RQv × Unit) => Pl.okRQ x.1 ∧ Pl.okRQ x.2.1, fun (x : RQv × RQv × Unit) => (Pl.cqR x.1 x.2.1, ()), none⟩
def C41 : Con := ⟨[RQ], [I], fun (x : RQv × Unit) => Pl.okRQ x.1, fun (x : RQv × Unit) => (Pl.sqR x.1, ()), none⟩
def C84 : Con := ⟨[RQ], [S], fun (x : RQv × Unit) => Pl.okRQ x.1, fun (x : RQv × Unit) => (Pl.foR x.1, ()), none⟩
def C82 : Con := ⟨[RZ], [S], fun (x : Rv × Unit) => Pl.okZ x.1, fun (x : Rv × Unit) => (Pl.txR x.1, ()), none⟩
def C44 : Con := ⟨[S], [RZ, B], fun (x : ByteArray × Unit) => x.1.size ≤ 140737488355328, fun (x : ByteArray × Unit) => (Pl.paR x.1, Pl.isF x.1, ()), none⟩
def C36 : Con := ⟨[S], [RQ, B], fun (x : ByteArray × Unit) => x.1.size ≤ 1100000, fun (x : ByteArray × Unit) => (Pl.reR x.1, Pl.rvS x.1, ()), none⟩
def C104 : Con := ⟨[I], [RZ], fun (x : Int × Unit) => 0 ≤ x.1 ∧ x.1 ≤ 100000, fun (x : Int × Unit) => (Pl.twR x.1, ()), none⟩
def C47 : Con := ⟨[RZ], [B], fun (x : Rv × Unit) => Pl.okZ x.1, fun (x : Rv × Unit) => (Pl.smR x.1, ()), none⟩
def C58 : Con := ⟨[RZ, I], [RZ], fun (x : Rv × Int × Unit) => Pl.okZ x.1 ∧ Pl.okP x.1 x.2.1, fun (x : Rv × Int × Unit) => (Pl.poR x.1 x.2.1, ()), none⟩
def C61 : Con := ⟨[I, I], [RZ], fun (x : Int × Int × Unit) => 0 ≤ x.1 ∧ x.1 ≤ 1000, fun (x : Int × Int × Unit) => (Pl.coR x.1 x.2.1, ()), none⟩
def C62 : Con := ⟨[I], [RZ], fun (x : Int × Unit) => 0 ≤ x.1 ∧ x.1 ≤ 1000, fun (x : Int × Unit) => (Pl.faR x.1, ()), none⟩
def C49 : Con := ⟨[RZ], [I, B], fun (x : Rv × Unit) => Pl.okZ x.1, fun (x : Rv × Unit) => (Pl.i6v x.1, Pl.i6b x.1, ()), none⟩

abbrev ro : Sh := .own 3 i64
abbrev rb : Sh := .own 5 (.int .u8)
abbrev sl : Sh := .ty RL
abbrev bz : Sh := .box [B, RN]
def H101 : Hints := ⟨[], [], [(0, ⟨[], [(0, sl)]⟩)], []⟩
def H93 : Hints := ⟨[], [], [(0, ⟨[0, 1], [(5, si)]⟩)], []⟩
def H80 : Hints := ⟨[], [], [(0, ⟨[0, 1], [(5, ro), (6, si), (7, si)]⟩)], []⟩
def H81 : Hints := ⟨[], [(14, [1000005])], [(0, ⟨[0, 1], [(5, ro), (6, si), (7, si)]⟩)], []⟩
def H94 : Hints := ⟨[], [(14, [1000005])], [(0, ⟨[0, 1], [(5, ro), (6, si)]⟩), (2, ⟨[0, 1, 6], [(5, ro), (7, si), (8, si)]⟩)], []⟩
def H123 : Hints := ⟨[], [(10, [1000005])], [(0, ⟨[0, 1], [(5, ro), (6, si), (7, si)]⟩)], []⟩
def H124 : Hints := ⟨[], [(9, [1000006])], [(0, ⟨[0, 1], [(6, ro), (7, si), (8, si)]⟩)], []⟩
def H78 : Hints := ⟨[56], [(21, [1000010])], [(0, ⟨[6, 7, 8, 9], [(10, ro), (11, sl), (12, si)]⟩), (2, ⟨[6, 7, 8, 9, 12], [(10, ro), (11, sl)]⟩), (4, ⟨[6, 7, 8, 9, 11, 12], [(10, ro), (14, si), (15, si)]⟩)], []⟩
def H109 : Hints := ⟨[], [], [(0, ⟨[], [(0, sl), (1, sl)]⟩)], []⟩
def H57 : Hints := ⟨[], [], [(0, ⟨[], [(3, si), (4, si)]⟩)], []⟩
def H69 : Hints := ⟨[], [(8, [1000004])], [(0, ⟨[0], [(2, bz), (3, su), (4, ro)]⟩)], []⟩
def H82 : Hints := ⟨[50], [(1, [1])], [(0, ⟨[1], [(3, rb), (4, si)]⟩), (2, ⟨[1, 4], [(3, rb), (5, si), (6, si)]⟩), (4, ⟨[1], [(3, rb)]⟩), (6, ⟨[], [(3, rb), (7, si), (8, si)]⟩)], []⟩
def H44 : Hints := ⟨[], [(20, [1000005, 76])], [(0, ⟨[0, 4], [(2, bz), (5, ro), (6, si), (7, si), (8, si)]⟩)], []⟩
def H36 : Hints := ⟨[], [], [(0, ⟨[0], [(2, .box [B, RN, B, RN]), (4, si)]⟩)], []⟩
def H104 : Hints := ⟨[], [], [(0, ⟨[0], [(2, bz), (3, bz), (4, si)]⟩)], []⟩
def H58 : Hints := ⟨[], [(1, [2])], [(0, ⟨[1, 2], [(4, bz), (5, bz), (6, si)]⟩)], []⟩
def H61 : Hints := ⟨[], [], [(0, ⟨[0, 1], [(4, bz), (5, bz), (6, si)]⟩)], []⟩
def H62 : Hints := ⟨[], [], [(0, ⟨[0], [(2, bz), (3, bz), (4, si)]⟩)], []⟩
def H49 : Hints := ⟨[], [(1, [1])], [(0, ⟨[1], [(4, si), (5, si)]⟩)], []⟩
def cT (l : List (Nat × Con)) : Ctx := ⟨tt, l, [], none, [], 0, [], [], 130⟩
def T81 : Ctx := cT [(101, C101)]
def T78 : Ctx := cT [(123, C123), (101, C101), (93, C93), (81, C81), (124, C124)]
def T109 : Ctx := cT [(78, C78)]
def T69 : Ctx := cT [(79, C79)]
def T44 : Ctx := cT [(101, C101), (79, C79)]
def T33 : Ctx := cT [(79, C79), (80, C80), (93, C93), (81, C81)]
def T34 : Ctx := cT [(33, C33), (51, C51)]
def T35 : Ctx := cT [(79, C79), (94, C94)]
def T53 : Ctx := cT [(20, C20), (34, C34)]
def T86 : Ctx := cT [(78, C78), (79, C79)]
def T22 : Ctx := cT [(78, C78), (79, C79), (80, C80), (81, C81)]
def T55 : Ctx := cT [(79, C79), (109, C109)]
def T29 : Ctx := cT [(51, C51), (55, C55), (86, C86)]
def T27 : Ctx := cT [(29, C29), (69, C69)]
def T95 : Ctx := cT [(69, C69)]
def T71 : Ctx := cT [(29, C29), (33, C33), (34, C34), (35, C35)]
def T73 : Ctx := cT [(35, C35), (53, C53)]
def T41 : Ctx := cT [(20, C20)]
def T84 : Ctx := cT [(53, C53), (69, C69), (82, C82)]
def T36 : Ctx := cT [(20, C20), (44, C44), (53, C53), (55, C55), (69, C69), (95, C95)]
def T104 : Ctx := cT [(33, C33), (69, C69)]
def T47 : Ctx := cT [(93, C93), (104, C104)]
def T58 : Ctx := cT [(35, C35), (69, C69)]
def T61 : Ctx := cT [(35, C35), (69, C69), (86, C86)]
def T49 : Ctx := cT [(53, C53), (69, C69)]

end Ta
end
section
/- The reference's naturals: comparison, sums, differences, products by one limb. -/
set_option linter.unusedVariables false
set_option linter.unusedSimpArgs false
set_option maxRecDepth 100000
namespace Ta
open Go Fw Go.Proofs Pl

theorem BB_eq : BB = 1000000000 := rfl
theorem BB2 : 2 ≤ BB := by rw [BB_eq]; decide
theorem rngB {l : List Int} (h : rng BB l) (i : Nat) : 0 ≤ l.getD i 0 ∧ l.getD i 0 < 1000000000 := rng_getD (by decide) h i
theorem rdI {l : List Int} {i : Nat} : rd i64 l (i : Int) = l.getD i 0 := rfl
theorem nr_rn (n : Nat) : nr (rn n) = n := vl_dg BB2 n
theorem rn_can (n : Nat) : can BB (rn n) := can_dg BB2 n
theorem rn_nr {x : List Int} (h : can BB x) : rn (nr x) = x := dg_vl BB2 h
theorem len_rn {n k : Nat} (h : n < BB ^ k) : (rn n).length ≤ k := len_dg BB2 h
theorem nr_lt {x : List Int} (h : rng BB x) : nr x < BB ^ x.length := vl_lt h
theorem nr_ge {x : List Int} (h : can BB x) (h0 : x ≠ []) : BB ^ (x.length - 1) ≤ nr x := vl_ge BB2 h h0
theorem nr_zero {x : List Int} (h : can BB x) : nr x = 0 ↔ x = [] := by
  constructor
  · intro h0
    rcases Classical.em (x = []) with h1 | h1
    · exact h1
    · have := vl_pos BB2 h h1
      have e : vl BB x = 0 := h0
      omega
  · rintro rfl; rfl
theorem pow_le_B {m n : Nat} (h : m ≤ n) : BB ^ m ≤ BB ^ n := Nat.pow_le_pow_right (by decide) h
theorem pow_B_pos (k : Nat) : 0 < BB ^ k := Nat.pow_pos (by decide)
theorem mul_lt_B {x y k l : Nat} (hx : x < BB ^ k) (hy : y < BB ^ l) : x * y < BB ^ (k + l) := by
  rw [Nat.pow_add]; exact Nat.mul_lt_mul'' hx hy
theorem add_lt_B {x y k : Nat} (hx : x < BB ^ k) (hy : y < BB ^ k) : x + y < BB ^ (k + 1) := by
  have e : BB ^ (k + 1) = BB ^ k * BB := Nat.pow_succ ..
  have h2 : BB ^ k * 2 ≤ BB ^ k * BB := Nat.mul_le_mul_left _ BB2
  omega
theorem okL_rn {n k : Nat} (h : n < BB ^ k) (hk : k ≤ 10000000) : okL (rn n) := ⟨rn_can n, Nat.le_trans (len_rn h) hk⟩
theorem okK_L {x : List Int} (h : okK x) : okL x := ⟨h.1, by have := h.2; omega⟩
/-- Digits whose number is as great as it may be are a number's form. -/
theorem can_ge {B : Nat} (hB : 2 ≤ B) {l : List Int} (h : rng B l) (hg : l = [] ∨ B ^ (l.length - 1) ≤ vl B l) : can B l := by
  refine ⟨h, fun d hd => ?_⟩
  rcases List.eq_nil_or_concat l with h1 | ⟨m, x, h1⟩
  · subst h1; simp at hd
  · subst h1
    rw [List.concat_eq_append] at h hg hd
    rw [List.getLast?_concat] at hd
    injection hd with hd
    subst hd
    intro h0
    subst h0
    rcases hg with hg | hg
    · simp at hg
    · rw [vl_append] at hg
      have := vl_lt (rng_append.1 h).1
      simp [vl] at hg
      omega
theorem vl_snoc {B : Nat} (l : List Int) (d : Int) : vl B (l ++ [d]) = vl B l + B ^ l.length * d.toNat := by
  rw [vl_append]; simp [vl]
theorem rng_snoc {B : Nat} {l : List Int} {d : Int} (h : rng B l) (hd : 0 ≤ d ∧ d < B) : rng B (l ++ [d]) := rng_append.2 ⟨h, rng_cons.2 ⟨hd, rng_nil⟩⟩

theorem vc101 : ∀ x, C101.pre x → VC T0 H101 Tryz.f101 C101 x := by
  rintro ⟨(x : List Int), ⟨⟩⟩ ⟨(hx : rng BB x), (lx : x.length ≤ 20000000000000)⟩
  refine cast (α := ∃ (n : Nat), itl (fun (G : List Int × PUnit → Prop) (x_1 : List Int × PUnit) => Br (decide ((↑(List.length x_1.fst) : Int) > (0 : Int))) ((0 : Int) ≤ IntKind.i64.wrap ((↑(List.length x_1.fst) : Int) - (1 : Int)) ∧ IntKind.i64.wrap ((↑(List.length x_1.fst) : Int) - (1 : Int)) < (↑(List.length x_1.fst) : Int) ∧ Br (rd i64 x_1.fst (IntKind.i64.wrap ((↑(List.length x_1.fst) : Int) - (1 : Int))) == (0 : Int)) ((0 : Int) ≤ IntKind.i64.wrap ((↑(List.length x_1.fst) : Int) - (1 : Int)) ∧ IntKind.i64.wrap ((↑(List.length x_1.fst) : Int) - (1 : Int)) ≤ (↑(List.length x_1.fst) : Int) ∧ G (sub x_1.fst (0 : Int) (IntKind.i64.wrap ((↑(List.length x_1.fst) : Int) - (1 : Int))), ())) (x_1 = C101.post (x, ()))) (x_1 = C101.post (x, ()))) n (x, ())) (by kernel_rfl) ?_
  have e : C101.post (x, ()) = (dg BB (vl BB x), ()) := rfl
  rw [e]
  refine itl_rule (fun s => rng BB s.1 ∧ s.1.length ≤ x.length ∧ vl BB s.1 = vl BB x) (fun s => s.1.length) ⟨hx, Nat.le_refl _, rfl⟩ ?_
  rintro ⟨l, ⟨⟩⟩ G ⟨h1, h2, h3⟩ hG
  simp only at h1 h2 h3
  simp only
  refine Br_of (fun hb => ?_) (fun hb => ?_)
  · have hp : 0 < l.length := by have := of_decide_eq_true hb; omega
    obtain ⟨m, hm⟩ : ∃ m, l.length = m + 1 := ⟨l.length - 1, by omega⟩
    have w1 : IntKind.i64.wrap ((l.length : Int) - 1) = (m : Int) := by rw [wrap_i64 (by omega) (by omega)]; omega
    rw [w1, rdI]
    have hl : l = l.take m ++ [l.getD m 0] := by
      rw [getD_get (by omega), ← List.take_succ_eq_append_getElem (by omega), List.take_of_length_le (by omega)]
    refine ⟨by omega, by omega, Br_of (fun h0 => ⟨by omega, by omega, ?_⟩) (fun h0 => ?_)⟩
    · have h0' : l.getD m 0 = 0 := by simpa using h0
      have es : sub l 0 (m : Int) = l.take m := by unfold sub; simp
      rw [es]
      refine hG _ ⟨rng_take h1 m, by simp only [List.length_take]; omega, ?_⟩ (by simp only [List.length_take]; omega)
      rw [← h3]
      conv => rhs; rw [hl, h0', vl_snoc]
      simp
    · have h0' : l.getD m 0 ≠ 0 := by simpa using h0
      rw [← h3, dg_vl BB2 ⟨h1, fun d hd => ?_⟩]
      rw [hl, List.getLast?_concat] at hd
      injection hd with hd
      rw [← hd]; exact h0'
  · have h0 : l = [] := List.eq_nil_of_length_eq_zero (by have := of_decide_eq_false hb; omega)
    subst h0
    rw [← h3]; rfl

theorem vc93 : ∀ x, C93.pre x → VC T0 H93 Tryz.f93 C93 x := by
  rintro ⟨(x : List Int), (y : List Int), ⟨⟩⟩ ⟨⟨cx, lx⟩, cy, ly⟩
  refine cast (α := Br ((↑x.length : Int) != (↑y.length : Int)) (Br (decide ((↑x.length : Int) < (↑y.length : Int))) (((-1 : Int), ()) = C93.post (x, y, ())) (((1 : Int), ()) = C93.post (x, y, ()))) (∃ (n : Nat), itl (fun (G : Int × PUnit → Prop) (x_1 : Int × PUnit) => Br (decide (x_1.fst ≥ (0 : Int))) ((0 : Int) ≤ x_1.fst ∧ x_1.fst < (↑x.length : Int) ∧ (0 : Int) ≤ x_1.fst ∧ x_1.fst < (↑y.length : Int) ∧ Br (decide (rd i64 x x_1.fst < rd i64 y x_1.fst)) (((-1 : Int), ()) = C93.post (x, y, ())) ((0 : Int) ≤ x_1.fst ∧ x_1.fst < (↑x.length : Int) ∧ (0 : Int) ≤ x_1.fst ∧ x_1.fst < (↑y.length : Int) ∧ Br (decide (rd i64 x x_1.fst > rd i64 y x_1.fst)) (((1 : Int), ()) = C93.post (x, y, ())) (G (IntKind.i64.wrap (x_1.fst - (1 : Int)), ())))) (((0 : Int), ()) = C93.post (x, y, ()))) n (IntKind.i64.wrap ((↑x.length : Int) - (1 : Int)), ()))) (by kernel_rfl) ?_
  have e : C93.post (x, y, ()) = (cmpN (vl BB x) (vl BB y), ()) := rfl
  rw [e]
  simp only at lx ly cx cy
  refine Br_of (fun hb => ?_) (fun hb => ?_)
  · have hne : x.length ≠ y.length := by intro h; rw [h] at hb; simp at hb
    refine Br_of (fun hc => ?_) (fun hc => ?_)
    · have := of_decide_eq_true hc
      rw [cmpN_lt (vl_cmp_len BB2 cx.1 cy (by omega))]
    · have := of_decide_eq_false hc
      rw [cmpN_gt (vl_cmp_len BB2 cy.1 cx (by omega))]
  · have hl : x.length = y.length := by
      have : (x.length : Int) = y.length := by simpa using hb
      omega
    refine itl_rule (fun s => ∃ k : Nat, s.1 = (k : Int) - 1 ∧ k ≤ x.length ∧ ∀ j, k ≤ j → x.getD j 0 = y.getD j 0) (fun s => (s.1 + 1).toNat) ⟨x.length, by rw [wrap_i64 (by omega) (by omega)], Nat.le_refl _, fun j hj => by rw [getD_out hj, getD_out (by omega)]⟩ ?_
    rintro ⟨i, ⟨⟩⟩ G ⟨k, rfl, h1, h2⟩ hG
    simp only
    refine Br_of (fun hb => ?_) (fun hb => ?_)
    · have hk : 0 < k := by have := of_decide_eq_true hb; omega
      obtain ⟨m, rfl⟩ : ∃ m, k = m + 1 := ⟨k - 1, by omega⟩
      have em : ((m + 1 : Nat) : Int) - 1 = (m : Int) := by omega
      rw [em, rdI, rdI]
      refine ⟨by omega, by omega, by omega, by omega, Br_of (fun h0 => ?_) (fun h0 => ⟨by omega, by omega, by omega, by omega, Br_of (fun h3 => ?_) (fun h3 => ?_)⟩)⟩
      · rw [cmpN_lt (vl_cmp BB2 cx.1 cy.1 hl (by omega) (fun j hj => h2 j (by omega)) (of_decide_eq_true h0))]
      · rw [cmpN_gt (vl_cmp BB2 cy.1 cx.1 hl.symm (by omega) (fun j hj => (h2 j (by omega)).symm) (of_decide_eq_true h3))]
      · have h4 : ¬ ((x.getD m 0 : Int) < y.getD m 0) := of_decide_eq_false h0
        have h5 : ¬ ((x.getD m 0 : Int) > y.getD m 0) := of_decide_eq_false h3
        rw [wrap_i64 (by omega) (by omega)]
        refine hG _ ⟨m, rfl, by omega, fun j hj => ?_⟩ (by simp only; omega)
        rcases Nat.eq_or_lt_of_le hj with rfl | hj
        · omega
        · exact h2 j hj
    · have hk : k = 0 := by have := of_decide_eq_false hb; omega
      subst hk
      have : x = y := List.ext_getElem hl fun j h3 h4 => by
        have := h2 j (Nat.zero_le _)
        rwa [getD_get h3, getD_get h4] at this
      rw [this, cmpN_self]

/-- One more digit, and what is carried. -/
theorem carry_step {L : List Int} {c s : Int} {k P Q : Nat} (hl : L.length = k) (hs0 : 0 ≤ s) (h : vl BB L + BB ^ k * c.toNat = P) (hc0 : 0 ≤ c) (hs : s.toNat = c.toNat + Q) :
    vl BB (L ++ [s % 1000000000]) + BB ^ (k + 1) * (s / 1000000000).toNat = P + BB ^ k * Q := by
  have e1 : (s % 1000000000).toNat = s.toNat % BB := by rw [BB_eq]; omega
  have e2 : (s / 1000000000).toNat = s.toNat / BB := by rw [BB_eq]; omega
  rw [vl_snoc, hl, e1, e2, Nat.pow_succ, Nat.mul_assoc]
  have := Nat.mod_add_div s.toNat BB
  have e3 : BB ^ k * s.toNat = BB ^ k * (s.toNat % BB) + BB ^ k * (BB * (s.toNat / BB)) := by rw [← Nat.mul_add, this]
  have e4 : BB ^ k * s.toNat = BB ^ k * c.toNat + BB ^ k * Q := by rw [hs, Nat.mul_add]
  omega
theorem mod_B {s : Int} (h : 0 ≤ s) : 0 ≤ s % 1000000000 ∧ s % 1000000000 < (BB : Int) := by rw [show ((BB : Nat) : Int) = 1000000000 from rfl]; omega

theorem vc80 : ∀ x, C80.pre x → VC T0 H80 Tryz.f80 C80 x := by
  rintro ⟨(x : List Int), (y : List Int), ⟨⟩⟩ ⟨⟨cx, lx⟩, cy, ly⟩
  refine cast (α := ∃ (n : Nat), itl (fun (G : List Int × Int × Int × PUnit → Prop) (x_1 : List Int × Int × Int × PUnit) => Br (decide (x_1.snd.snd.fst < (↑x.length : Int))) (Br (decide (x_1.snd.snd.fst < (↑x.length : Int))) ((0 : Int) ≤ x_1.snd.snd.fst ∧ x_1.snd.snd.fst < (↑x.length : Int) ∧ Br (decide (x_1.snd.snd.fst < (↑y.length : Int))) ((0 : Int) ≤ x_1.snd.snd.fst ∧ x_1.snd.snd.fst < (↑y.length : Int) ∧ (1000000000 : Int) ≠ (0 : Int) ∧ ((↑(List.length x_1.fst) : Int) + (↑[(IntKind.i64.wrap (IntKind.i64.wrap (x_1.snd.fst + rd i64 x x_1.snd.snd.fst) + rd i64 y x_1.snd.snd.fst)).tmod (1000000000 : Int)].length : Int)) * (8 : Int) ≤ (140737488355328 : Int) ∧ (1000000000 : Int) ≠ (0 : Int) ∧ G (List.append x_1.fst [(IntKind.i64.wrap (IntKind.i64.wrap (x_1.snd.fst + rd i64 x x_1.snd.snd.fst) + rd i64 y x_1.snd.snd.fst)).tmod (1000000000 : Int)], IntKind.i64.wrap ((IntKind.i64.wrap (IntKind.i64.wrap (x_1.snd.fst + rd i64 x x_1.snd.snd.fst) + rd i64 y x_1.snd.snd.fst)).tdiv (1000000000 : Int)), IntKind.i64.wrap (x_1.snd.snd.fst + (1 : Int)), ())) ((1000000000 : Int) ≠ (0 : Int) ∧ ((↑(List.length x_1.fst) : Int) + (↑[(IntKind.i64.wrap (x_1.snd.fst + rd i64 x x_1.snd.snd.fst)).tmod (1000000000 : Int)].length : Int)) * (8 : Int) ≤ (140737488355328 : Int) ∧ (1000000000 : Int) ≠ (0 : Int) ∧ G (List.append x_1.fst [(IntKind.i64.wrap (x_1.snd.fst + rd i64 x x_1.snd.snd.fst)).tmod (1000000000 : Int)], IntKind.i64.wrap ((IntKind.i64.wrap (x_1.snd.fst + rd i64 x x_1.snd.snd.fst)).tdiv (1000000000 : Int)), IntKind.i64.wrap (x_1.snd.snd.fst + (1 : Int)), ()))) (Br (decide (x_1.snd.snd.fst < (↑y.length : Int))) ((0 : Int) ≤ x_1.snd.snd.fst ∧ x_1.snd.snd.fst < (↑y.length : Int) ∧ (1000000000 : Int) ≠ (0 : Int) ∧ ((↑(List.length x_1.fst) : Int) + (↑[(IntKind.i64.wrap (x_1.snd.fst + rd i64 y x_1.snd.snd.fst)).tmod (1000000000 : Int)].length : Int)) * (8 : Int) ≤ (140737488355328 : Int) ∧ (1000000000 : Int) ≠ (0 : Int) ∧ G (List.append x_1.fst [(IntKind.i64.wrap (x_1.snd.fst + rd i64 y x_1.snd.snd.fst)).tmod (1000000000 : Int)], IntKind.i64.wrap ((IntKind.i64.wrap (x_1.snd.fst + rd i64 y x_1.snd.snd.fst)).tdiv (1000000000 : Int)), IntKind.i64.wrap (x_1.snd.snd.fst + (1 : Int)), ())) ((1000000000 : Int) ≠ (0 : Int) ∧ ((↑(List.length x_1.fst) : Int) + (↑[Int.tmod x_1.snd.fst (1000000000 : Int)].length : Int)) * (8 : Int) ≤ (140737488355328 : Int) ∧ (1000000000 : Int) ≠ (0 : Int) ∧ G (List.append x_1.fst [Int.tmod x_1.snd.fst (1000000000 : Int)], IntKind.i64.wrap (Int.tdiv x_1.snd.fst (1000000000 : Int)), IntKind.i64.wrap (x_1.snd.snd.fst + (1 : Int)), ())))) (Br (decide (x_1.snd.snd.fst < (↑y.length : Int))) (Br (decide (x_1.snd.snd.fst < (↑x.length : Int))) ((0 : Int) ≤ x_1.snd.snd.fst ∧ x_1.snd.snd.fst < (↑x.length : Int) ∧ Br (decide (x_1.snd.snd.fst < (↑y.length : Int))) ((0 : Int) ≤ x_1.snd.snd.fst ∧ x_1.snd.snd.fst < (↑y.length : Int) ∧ (1000000000 : Int) ≠ (0 : Int) ∧ ((↑(List.length x_1.fst) : Int) + (↑[(IntKind.i64.wrap (IntKind.i64.wrap (x_1.snd.fst + rd i64 x x_1.snd.snd.fst) + rd i64 y x_1.snd.snd.fst)).tmod (1000000000 : Int)].length : Int)) * (8 : Int) ≤ (140737488355328 : Int) ∧ (1000000000 : Int) ≠ (0 : Int) ∧ G (List.append x_1.fst [(IntKind.i64.wrap (IntKind.i64.wrap (x_1.snd.fst + rd i64 x x_1.snd.snd.fst) + rd i64 y x_1.snd.snd.fst)).tmod (1000000000 : Int)], IntKind.i64.wrap ((IntKind.i64.wrap (IntKind.i64.wrap (x_1.snd.fst + rd i64 x x_1.snd.snd.fst) + rd i64 y x_1.snd.snd.fst)).tdiv (1000000000 : Int)), IntKind.i64.wrap (x_1.snd.snd.fst + (1 : Int)), ())) ((1000000000 : Int) ≠ (0 : Int) ∧ ((↑(List.length x_1.fst) : Int) + (↑[(IntKind.i64.wrap (x_1.snd.fst + rd i64 x x_1.snd.snd.fst)).tmod (1000000000 : Int)].length : Int)) * (8 : Int) ≤ (140737488355328 : Int) ∧ (1000000000 : Int) ≠ (0 : Int) ∧ G (List.append x_1.fst [(IntKind.i64.wrap (x_1.snd.fst + rd i64 x x_1.snd.snd.fst)).tmod (1000000000 : Int)], IntKind.i64.wrap ((IntKind.i64.wrap (x_1.snd.fst + rd i64 x x_1.snd.snd.fst)).tdiv (1000000000 : Int)), IntKind.i64.wrap (x_1.snd.snd.fst + (1 : Int)), ()))) (Br (decide (x_1.snd.snd.fst < (↑y.length : Int))) ((0 : Int) ≤ x_1.snd.snd.fst ∧ x_1.snd.snd.fst < (↑y.length : Int) ∧ (1000000000 : Int) ≠ (0 : Int) ∧ ((↑(List.length x_1.fst) : Int) + (↑[(IntKind.i64.wrap (x_1.snd.fst + rd i64 y x_1.snd.snd.fst)).tmod (1000000000 : Int)].length : Int)) * (8 : Int) ≤ (140737488355328 : Int) ∧ (1000000000 : Int) ≠ (0 : Int) ∧ G (List.append x_1.fst [(IntKind.i64.wrap (x_1.snd.fst + rd i64 y x_1.snd.snd.fst)).tmod (1000000000 : Int)], IntKind.i64.wrap ((IntKind.i64.wrap (x_1.snd.fst + rd i64 y x_1.snd.snd.fst)).tdiv (1000000000 : Int)), IntKind.i64.wrap (x_1.snd.snd.fst + (1 : Int)), ())) ((1000000000 : Int) ≠ (0 : Int) ∧ ((↑(List.length x_1.fst) : Int) + (↑[Int.tmod x_1.snd.fst (1000000000 : Int)].length : Int)) * (8 : Int) ≤ (140737488355328 : Int) ∧ (1000000000 : Int) ≠ (0 : Int) ∧ G (List.append x_1.fst [Int.tmod x_1.snd.fst (1000000000 : Int)], IntKind.i64.wrap (Int.tdiv x_1.snd.fst (1000000000 : Int)), IntKind.i64.wrap (x_1.snd.snd.fst + (1 : Int)), ())))) (Br (decide (x_1.snd.fst > (0 : Int))) (Br (decide (x_1.snd.snd.fst < (↑x.length : Int))) ((0 : Int) ≤ x_1.snd.snd.fst ∧ x_1.snd.snd.fst < (↑x.length : Int) ∧ Br (decide (x_1.snd.snd.fst < (↑y.length : Int))) ((0 : Int) ≤ x_1.snd.snd.fst ∧ x_1.snd.snd.fst < (↑y.length : Int) ∧ (1000000000 : Int) ≠ (0 : Int) ∧ ((↑(List.length x_1.fst) : Int) + (↑[(IntKind.i64.wrap (IntKind.i64.wrap (x_1.snd.fst + rd i64 x x_1.snd.snd.fst) + rd i64 y x_1.snd.snd.fst)).tmod (1000000000 : Int)].length : Int)) * (8 : Int) ≤ (140737488355328 : Int) ∧ (1000000000 : Int) ≠ (0 : Int) ∧ G (List.append x_1.fst [(IntKind.i64.wrap (IntKind.i64.wrap (x_1.snd.fst + rd i64 x x_1.snd.snd.fst) + rd i64 y x_1.snd.snd.fst)).tmod (1000000000 : Int)], IntKind.i64.wrap ((IntKind.i64.wrap (IntKind.i64.wrap (x_1.snd.fst + rd i64 x x_1.snd.snd.fst) + rd i64 y x_1.snd.snd.fst)).tdiv (1000000000 : Int)), IntKind.i64.wrap (x_1.snd.snd.fst + (1 : Int)), ())) ((1000000000 : Int) ≠ (0 : Int) ∧ ((↑(List.length x_1.fst) : Int) + (↑[(IntKind.i64.wrap (x_1.snd.fst + rd i64 x x_1.snd.snd.fst)).tmod (1000000000 : Int)].length : Int)) * (8 : Int) ≤ (140737488355328 : Int) ∧ (1000000000 : Int) ≠ (0 : Int) ∧ G (List.append x_1.fst [(IntKind.i64.wrap (x_1.snd.fst + rd i64 x x_1.snd.snd.fst)).tmod (1000000000 : Int)], IntKind.i64.wrap ((IntKind.i64.wrap (x_1.snd.fst + rd i64 x x_1.snd.snd.fst)).tdiv (1000000000 : Int)), IntKind.i64.wrap (x_1.snd.snd.fst + (1 : Int)), ()))) (Br (decide (x_1.snd.snd.fst < (↑y.length : Int))) ((0 : Int) ≤ x_1.snd.snd.fst ∧ x_1.snd.snd.fst < (↑y.length : Int) ∧ (1000000000 : Int) ≠ (0 : Int) ∧ ((↑(List.length x_1.fst) : Int) + (↑[(IntKind.i64.wrap (x_1.snd.fst + rd i64 y x_1.snd.snd.fst)).tmod (1000000000 : Int)].length : Int)) * (8 : Int) ≤ (140737488355328 : Int) ∧ (1000000000 : Int) ≠ (0 : Int) ∧ G (List.append x_1.fst [(IntKind.i64.wrap (x_1.snd.fst + rd i64 y x_1.snd.snd.fst)).tmod (1000000000 : Int)], IntKind.i64.wrap ((IntKind.i64.wrap (x_1.snd.fst + rd i64 y x_1.snd.snd.fst)).tdiv (1000000000 : Int)), IntKind.i64.wrap (x_1.snd.snd.fst + (1 : Int)), ())) ((1000000000 : Int) ≠ (0 : Int) ∧ ((↑(List.length x_1.fst) : Int) + (↑[Int.tmod x_1.snd.fst (1000000000 : Int)].length : Int)) * (8 : Int) ≤ (140737488355328 : Int) ∧ (1000000000 : Int) ≠ (0 : Int) ∧ G (List.append x_1.fst [Int.tmod x_1.snd.fst (1000000000 : Int)], IntKind.i64.wrap (Int.tdiv x_1.snd.fst (1000000000 : Int)), IntKind.i64.wrap (x_1.snd.snd.fst + (1 : Int)), ())))) ((x_1.1, ()) = C80.post (x, y, ()))))) n ([], (0 : Int), (0 : Int), ())) (by kernel_rfl) ?_
  have e : C80.post (x, y, ()) = (dg BB (vl BB x + vl BB y), ()) := rfl
  rw [e]
  simp only at lx ly cx cy
  obtain ⟨M, hM⟩ : ∃ M, M = max x.length y.length := ⟨_, rfl⟩
  refine itl_rule (fun s => ∃ k : Nat, s.2.2.1 = (k : Int) ∧ s.1.length = k ∧ rng BB s.1 ∧ (0 ≤ s.2.1 ∧ s.2.1 ≤ 1) ∧ vl BB s.1 + BB ^ k * s.2.1.toNat = vl BB (x.take k) + vl BB (y.take k) ∧ (k ≤ M ∨ k = M + 1 ∧ s.2.1 = 0 ∧ BB ^ M ≤ vl BB x + vl BB y))
    (fun s => 2 * (M - s.2.2.1.toNat) + s.2.1.toNat) ⟨0, rfl, rfl, rng_nil, ⟨Int.le_refl _, by decide⟩, rfl, .inl (Nat.zero_le _)⟩ ?_
  rintro ⟨out, c, i, ⟨⟩⟩ G ⟨k, hi, h1, h2, h3, h4, h5⟩ hG
  simp only at hi h1 h2 h3 h4 h5
  subst hi
  have hdx := rngB cx.1 k
  have hdy := rngB cy.1 k
  have hx0 : x.length ≤ k → x.getD k 0 = 0 := fun h => getD_out h
  have hy0 : y.length ≤ k → y.getD k 0 = 0 := fun h => getD_out h
  have fin : (k < x.length ∨ k < y.length ∨ 0 < c) → ∀ s : Int, s = c + x.getD k 0 + y.getD k 0 → (1000000000 : Int) ≠ (0 : Int) ∧ ((out.length : Int) + (([s.tmod (1000000000 : Int)] : List Int).length : Int)) * (8 : Int) ≤ (140737488355328 : Int) ∧
      (1000000000 : Int) ≠ (0 : Int) ∧ G (List.append out [s.tmod (1000000000 : Int)], IntKind.i64.wrap (s.tdiv (1000000000 : Int)), IntKind.i64.wrap ((k : Int) + (1 : Int)), ()) := by
    intro hor s hs
    have hs0 : 0 ≤ s := by omega
    have hk : k ≤ M := by
      rcases h5 with h5 | ⟨h5, h6, _⟩
      · exact h5
      · omega
    rw [tmod_nn hs0, tdiv_nn hs0, wrap_i64 (x := s / 1000000000) (by omega) (by omega), wrap_i64 (x := (k : Int) + 1) (by omega) (by omega)]
    refine ⟨by decide, by simp only [List.length_singleton]; omega, by decide, hG _ ⟨k + 1, by simp only; omega, by simp [h1], rng_snoc h2 (mod_B hs0), ⟨by simp only; omega, by simp only; omega⟩, ?_, ?_⟩ (by simp only; omega)⟩
    · have hst := carry_step (L := out) (c := c) (s := s) (k := k) (P := vl BB (x.take k) + vl BB (y.take k)) (Q := (x.getD k 0).toNat + (y.getD k 0).toNat) h1 hs0 h4 h3.1 (by omega)
      have e1 := vl_take_getD (B := BB) (l := x) k
      have e2 := vl_take_getD (B := BB) (l := y) k
      simp only [List.append_eq]
      rw [hst, e1, e2, Nat.mul_add]
      omega
    · rcases Nat.lt_or_ge k M with h6 | h6
      · exact .inl h6
      · have hkM : k = M := by omega
        right
        have hcx : x.length ≤ k := by omega
        have hcy : y.length ≤ k := by omega
        have hc1 : c = 1 := by omega
        have hx' := hx0 hcx
        have hy' := hy0 hcy
        refine ⟨by omega, by simp only; omega, ?_⟩
        rw [List.take_of_length_le hcx, List.take_of_length_le hcy, hc1] at h4
        rw [← h4, ← hkM]
        simp
  have wr : ∀ a : Int, 0 ≤ a → a ≤ 9000000000 → IntKind.i64.wrap a = a := fun a h1 h2 => wrap_i64 (by omega) (by omega)
  simp only
  refine Br_of (fun g1 => ?_) (fun g1 => Br_of (fun g2 => ?_) (fun g2 => Br_of (fun g3 => ?_) (fun g3 => ?_)))
  rotate_right 1
  · have k1 := of_decide_eq_false g1
    have k2 := of_decide_eq_false g2
    have k3 := of_decide_eq_false g3
    have hcx : x.length ≤ k := by omega
    have hcy : y.length ≤ k := by omega
    have hc0 : c = 0 := by omega
    rw [List.take_of_length_le hcx, List.take_of_length_le hcy, hc0] at h4
    simp only [Int.toNat_zero, Nat.mul_zero, Nat.add_zero] at h4
    have hcan : can BB out := by
      refine can_ge BB2 h2 ?_
      rw [h4, h1]
      rcases h5 with h5 | ⟨h5, _, h6⟩
      · have hkM : k = M := by omega
        rcases Nat.eq_zero_or_pos k with h0 | h0
        · left; exact List.eq_nil_of_length_eq_zero (by omega)
        · right
          rcases Nat.le_total x.length y.length with hxy | hxy
          · have hl : y.length = k := by omega
            have := vl_ge BB2 cy (fun h => by rw [h] at hl; simp at hl; omega)
            rw [hl] at this
            omega
          · have hl : x.length = k := by omega
            have := vl_ge BB2 cx (fun h => by rw [h] at hl; simp at hl; omega)
            rw [hl] at this
            omega
      · right
        rw [h5, Nat.add_sub_cancel]; exact h6
    rw [← h4, dg_vl BB2 hcan]
  all_goals
    have hor : k < x.length ∨ k < y.length ∨ 0 < c := by
      simp only [decide_eq_true_eq, decide_eq_false_iff_not] at *
      omega
    refine Br_of (fun g5 => ?_) (fun g5 => ?_)
    · have k5 := of_decide_eq_true g5
      refine ⟨by omega, by omega, Br_of (fun g6 => ?_) (fun g6 => ?_)⟩
      · have k6 := of_decide_eq_true g6
        refine ⟨by omega, by omega, fin hor _ ?_⟩
        rw [rdI, rdI, wr (c + x.getD k 0) (by omega) (by omega), wr _ (by omega) (by omega)]
      · have k6 := of_decide_eq_false g6
        have := hy0 (by omega)
        refine fin hor _ ?_
        rw [rdI, wr _ (by omega) (by omega)]; omega
    · have k5 := of_decide_eq_false g5
      have := hx0 (by omega)
      refine Br_of (fun g6 => ?_) (fun g6 => ?_)
      · have k6 := of_decide_eq_true g6
        refine ⟨by omega, by omega, fin hor _ ?_⟩
        rw [rdI, wr _ (by omega) (by omega)]; omega
      · have k6 := of_decide_eq_false g6
        have := hy0 (by omega)
        refine fin hor _ ?_
        omega

/-- One more digit, and what is borrowed. -/
theorem borrow_step {L : List Int} {b d z : Int} {k P Q X Y : Nat} (hl : L.length = k) (h : vl BB L + Q = P + BB ^ k * b.toNat) (hb : 0 ≤ b ∧ b ≤ 1) (hd : 0 ≤ d ∧ d < 1000000000) (hz : 0 ≤ z ∧ z ≤ 1)
    (hs : (X : Int) - b - Y + 1000000000 * z = d) : vl BB (L ++ [d]) + (Q + BB ^ k * Y) = P + BB ^ k * X + BB ^ (k + 1) * z.toNat := by
  rw [vl_snoc, hl, Nat.pow_succ, Nat.mul_assoc]
  have e : X + BB * z.toNat = d.toNat + b.toNat + Y := by rw [BB_eq]; omega
  have e2 := congrArg (fun t => BB ^ k * t) e
  simp only [Nat.mul_add] at e2
  omega
theorem vc81 : ∀ x, C81.pre x → VC T81 H81 Tryz.f81 C81 x := by
  rintro ⟨(x : List Int), (y : List Int), ⟨⟩⟩ ⟨⟨cx, lx⟩, ⟨cy, ly⟩, (hle : vl BB y ≤ vl BB x)⟩
  refine cast (α := ∃ (n : Nat), itl (fun (G : List Int × Int × Int × PUnit → Prop) (x_1 : List Int × Int × Int × PUnit) => Br (decide (x_1.snd.snd.fst < (↑x.length : Int))) ((0 : Int) ≤ x_1.snd.snd.fst ∧ x_1.snd.snd.fst < (↑x.length : Int) ∧ Br (decide (x_1.snd.snd.fst < (↑y.length : Int))) ((0 : Int) ≤ x_1.snd.snd.fst ∧ x_1.snd.snd.fst < (↑y.length : Int) ∧ Br (decide (IntKind.i64.wrap (IntKind.i64.wrap (rd i64 x x_1.snd.snd.fst - x_1.snd.fst) - rd i64 y x_1.snd.snd.fst) < (0 : Int))) (((↑(List.length x_1.fst) : Int) + (↑[IntKind.i64.wrap (IntKind.i64.wrap (IntKind.i64.wrap (rd i64 x x_1.snd.snd.fst - x_1.snd.fst) - rd i64 y x_1.snd.snd.fst) + (1000000000 : Int))].length : Int)) * (8 : Int) ≤ (140737488355328 : Int) ∧ G (List.append x_1.fst [IntKind.i64.wrap (IntKind.i64.wrap (IntKind.i64.wrap (rd i64 x x_1.snd.snd.fst - x_1.snd.fst) - rd i64 y x_1.snd.snd.fst) + (1000000000 : Int))], (1 : Int), IntKind.i64.wrap (x_1.snd.snd.fst + (1 : Int)), ())) (((↑(List.length x_1.fst) : Int) + (↑[IntKind.i64.wrap (IntKind.i64.wrap (rd i64 x x_1.snd.snd.fst - x_1.snd.fst) - rd i64 y x_1.snd.snd.fst)].length : Int)) * (8 : Int) ≤ (140737488355328 : Int) ∧ G (List.append x_1.fst [IntKind.i64.wrap (IntKind.i64.wrap (rd i64 x x_1.snd.snd.fst - x_1.snd.fst) - rd i64 y x_1.snd.snd.fst)], (0 : Int), IntKind.i64.wrap (x_1.snd.snd.fst + (1 : Int)), ()))) (Br (decide (IntKind.i64.wrap (rd i64 x x_1.snd.snd.fst - x_1.snd.fst) < (0 : Int))) (((↑(List.length x_1.fst) : Int) + (↑[IntKind.i64.wrap (IntKind.i64.wrap (rd i64 x x_1.snd.snd.fst - x_1.snd.fst) + (1000000000 : Int))].length : Int)) * (8 : Int) ≤ (140737488355328 : Int) ∧ G (List.append x_1.fst [IntKind.i64.wrap (IntKind.i64.wrap (rd i64 x x_1.snd.snd.fst - x_1.snd.fst) + (1000000000 : Int))], (1 : Int), IntKind.i64.wrap (x_1.snd.snd.fst + (1 : Int)), ())) (((↑(List.length x_1.fst) : Int) + (↑[IntKind.i64.wrap (rd i64 x x_1.snd.snd.fst - x_1.snd.fst)].length : Int)) * (8 : Int) ≤ (140737488355328 : Int) ∧ G (List.append x_1.fst [IntKind.i64.wrap (rd i64 x x_1.snd.snd.fst - x_1.snd.fst)], (0 : Int), IntKind.i64.wrap (x_1.snd.snd.fst + (1 : Int)), ())))) (Pl.rgL x_1.1 ∧ (Pl.rtr x_1.1, ()) = C81.post (x, y, ()))) n ([], (0 : Int), (0 : Int), ())) (by kernel_rfl) ?_
  have e : C81.post (x, y, ()) = (dg BB (vl BB x - vl BB y), ()) := rfl
  rw [e]
  simp only at lx ly cx cy
  have hyx : y.length ≤ x.length := by
    rcases Nat.lt_or_ge x.length y.length with h | h
    · have := vl_cmp_len BB2 cx.1 cy h; omega
    · exact h
  refine itl_rule (fun s => ∃ k : Nat, s.2.2.1 = (k : Int) ∧ k ≤ x.length ∧ s.1.length = k ∧ rng BB s.1 ∧ (0 ≤ s.2.1 ∧ s.2.1 ≤ 1) ∧ vl BB s.1 + vl BB (y.take k) = vl BB (x.take k) + BB ^ k * s.2.1.toNat)
    (fun s => x.length - s.2.2.1.toNat) ⟨0, rfl, Nat.zero_le _, rfl, rng_nil, ⟨Int.le_refl _, by decide⟩, rfl⟩ ?_
  rintro ⟨out, b, i, ⟨⟩⟩ G ⟨k, hi, h0, h1, h2, h3, h4⟩ hG
  simp only at hi h1 h2 h3 h4
  subst hi
  have hdx := rngB cx.1 k
  have hdy := rngB cy.1 k
  have hy0 : y.length ≤ k → y.getD k 0 = 0 := fun h => getD_out h
  have fin : k < x.length → ∀ d z : Int, 0 ≤ d → d < 1000000000 → 0 ≤ z → z ≤ 1 → x.getD k 0 - b - y.getD k 0 + 1000000000 * z = d → ((out.length : Int) + (([d] : List Int).length : Int)) * (8 : Int) ≤ (140737488355328 : Int) ∧
      G (List.append out [d], z, IntKind.i64.wrap ((k : Int) + (1 : Int)), ()) := by
    intro hk d z d0 d1 z0 z1 hs
    rw [wrap_i64 (x := (k : Int) + 1) (by omega) (by omega)]
    refine ⟨by simp only [List.length_singleton]; omega, hG _ ⟨k + 1, by simp only; omega, by omega, by simp [h1], rng_snoc h2 ⟨d0, by rw [show ((BB : Nat) : Int) = 1000000000 from rfl]; exact d1⟩, ⟨z0, z1⟩, ?_⟩ (by simp only; omega)⟩
    have hst := borrow_step (L := out) (b := b) (d := d) (z := z) (k := k) (P := vl BB (x.take k)) (Q := vl BB (y.take k)) (X := (x.getD k 0).toNat) (Y := (y.getD k 0).toNat) h1 h4 h3 ⟨d0, d1⟩ ⟨z0, z1⟩ (by omega)
    have e1 := vl_take_getD (B := BB) (l := x) k
    have e2 := vl_take_getD (B := BB) (l := y) k
    simp only [List.append_eq]
    rw [e1, e2]; exact hst
  have wr : ∀ a : Int, -3000000000 ≤ a → a ≤ 3000000000 → IntKind.i64.wrap a = a := fun a h1 h2 => wrap_i64 (by omega) (by omega)
  simp only
  refine Br_of (fun g1 => ?_) (fun g1 => ?_)
  · have k1 := of_decide_eq_true g1
    have hk : k < x.length := by omega
    refine ⟨by omega, by omega, ?_⟩
    rw [rdI, rdI, wr (x.getD k 0 - b) (by omega) (by omega), wr (x.getD k 0 - b - y.getD k 0) (by omega) (by omega)]
    refine Br_of (fun g2 => ⟨by omega, by have := of_decide_eq_true g2; omega, ?_⟩) (fun g2 => ?_)
    · refine Br_of (fun g3 => ?_) (fun g3 => ?_)
      · have k3 := of_decide_eq_true g3
        rw [wr _ (by omega) (by omega)]
        exact fin hk _ 1 (by omega) (by omega) (by decide) (by decide) (by omega)
      · have k3 := of_decide_eq_false g3
        exact fin hk _ 0 (by omega) (by omega) (by decide) (by decide) (by omega)
    · have k2 := of_decide_eq_false g2
      have := hy0 (by omega)
      refine Br_of (fun g3 => ?_) (fun g3 => ?_)
      · have k3 := of_decide_eq_true g3
        rw [wr _ (by omega) (by omega)]
        exact fin hk _ 1 (by omega) (by omega) (by decide) (by decide) (by omega)
      · have k3 := of_decide_eq_false g3
        exact fin hk _ 0 (by omega) (by omega) (by decide) (by decide) (by omega)
  · have k1 := of_decide_eq_false g1
    have hk : k = x.length := by omega
    subst hk
    rw [List.take_of_length_le hyx, List.take_length] at h4
    have hlt := vl_lt h2
    rw [h1] at hlt
    have hb0 : b = 0 := by
      rcases Int.lt_or_le 0 b with h | h
      · have : b = 1 := by omega
        subst this
        rw [show ((1 : Int).toNat) = 1 from rfl, Nat.mul_one] at h4
        omega
      · omega
    subst hb0
    simp only [Int.toNat_zero, Nat.mul_zero, Nat.add_zero] at h4
    refine ⟨⟨h2, by omega⟩, ?_⟩
    show (dg BB (vl BB out), ()) = _
    rw [show vl BB out = vl BB x - vl BB y by omega]

theorem vc123 : ∀ x, C123.pre x → VC T81 H123 Tryz.f123 C123 x := by
  rintro ⟨(x : List Int), (q : Int), ⟨⟩⟩ ⟨⟨cx, lx⟩, (q0 : 0 ≤ q), (q1 : q ≤ 1000000000)⟩
  refine cast (α := ∃ (n : Nat), itl (fun (G : List Int × Int × Int × PUnit → Prop) (x_1 : List Int × Int × Int × PUnit) => Br (decide (x_1.snd.snd.fst < (↑x.length : Int))) (Br (decide (x_1.snd.snd.fst < (↑x.length : Int))) ((0 : Int) ≤ x_1.snd.snd.fst ∧ x_1.snd.snd.fst < (↑x.length : Int) ∧ (1000000000 : Int) ≠ (0 : Int) ∧ ((↑(List.length x_1.fst) : Int) + (↑[(IntKind.i64.wrap (x_1.snd.fst + IntKind.i64.wrap (rd i64 x x_1.snd.snd.fst * q))).tmod (1000000000 : Int)].length : Int)) * (8 : Int) ≤ (140737488355328 : Int) ∧ (1000000000 : Int) ≠ (0 : Int) ∧ G (List.append x_1.fst [(IntKind.i64.wrap (x_1.snd.fst + IntKind.i64.wrap (rd i64 x x_1.snd.snd.fst * q))).tmod (1000000000 : Int)], IntKind.i64.wrap ((IntKind.i64.wrap (x_1.snd.fst + IntKind.i64.wrap (rd i64 x x_1.snd.snd.fst * q))).tdiv (1000000000 : Int)), IntKind.i64.wrap (x_1.snd.snd.fst + (1 : Int)), ())) ((1000000000 : Int) ≠ (0 : Int) ∧ ((↑(List.length x_1.fst) : Int) + (↑[Int.tmod x_1.snd.fst (1000000000 : Int)].length : Int)) * (8 : Int) ≤ (140737488355328 : Int) ∧ (1000000000 : Int) ≠ (0 : Int) ∧ G (List.append x_1.fst [Int.tmod x_1.snd.fst (1000000000 : Int)], IntKind.i64.wrap (Int.tdiv x_1.snd.fst (1000000000 : Int)), IntKind.i64.wrap (x_1.snd.snd.fst + (1 : Int)), ()))) (Br (decide (x_1.snd.fst > (0 : Int))) (Br (decide (x_1.snd.snd.fst < (↑x.length : Int))) ((0 : Int) ≤ x_1.snd.snd.fst ∧ x_1.snd.snd.fst < (↑x.length : Int) ∧ (1000000000 : Int) ≠ (0 : Int) ∧ ((↑(List.length x_1.fst) : Int) + (↑[(IntKind.i64.wrap (x_1.snd.fst + IntKind.i64.wrap (rd i64 x x_1.snd.snd.fst * q))).tmod (1000000000 : Int)].length : Int)) * (8 : Int) ≤ (140737488355328 : Int) ∧ (1000000000 : Int) ≠ (0 : Int) ∧ G (List.append x_1.fst [(IntKind.i64.wrap (x_1.snd.fst + IntKind.i64.wrap (rd i64 x x_1.snd.snd.fst * q))).tmod (1000000000 : Int)], IntKind.i64.wrap ((IntKind.i64.wrap (x_1.snd.fst + IntKind.i64.wrap (rd i64 x x_1.snd.snd.fst * q))).tdiv (1000000000 : Int)), IntKind.i64.wrap (x_1.snd.snd.fst + (1 : Int)), ())) ((1000000000 : Int) ≠ (0 : Int) ∧ ((↑(List.length x_1.fst) : Int) + (↑[Int.tmod x_1.snd.fst (1000000000 : Int)].length : Int)) * (8 : Int) ≤ (140737488355328 : Int) ∧ (1000000000 : Int) ≠ (0 : Int) ∧ G (List.append x_1.fst [Int.tmod x_1.snd.fst (1000000000 : Int)], IntKind.i64.wrap (Int.tdiv x_1.snd.fst (1000000000 : Int)), IntKind.i64.wrap (x_1.snd.snd.fst + (1 : Int)), ()))) (Pl.rgL x_1.1 ∧ (Pl.rtr x_1.1, ()) = C123.post (x, q, ())))) n ([], (0 : Int), (0 : Int), ())) (by kernel_rfl) ?_
  have e : C123.post (x, q, ()) = (dg BB (vl BB x * q.toNat), ()) := rfl
  rw [e]
  simp only at lx cx
  refine itl_rule (fun s => ∃ k : Nat, s.2.2.1 = (k : Int) ∧ s.1.length = k ∧ k ≤ x.length + 2 ∧ (k ≤ x.length ∨ s.2.1 * 1000000000 ^ (k - x.length) ≤ 1000000000) ∧ rng BB s.1 ∧ (0 ≤ s.2.1 ∧ s.2.1 ≤ 1000000000) ∧ vl BB s.1 + BB ^ k * s.2.1.toNat = vl BB (x.take k) * q.toNat)
    (fun s => x.length + 2 - s.2.2.1.toNat) ⟨0, rfl, rfl, by omega, .inl (Nat.zero_le _), rng_nil, ⟨Int.le_refl _, by decide⟩, by simp [vl]⟩ ?_
  rintro ⟨out, c, i, ⟨⟩⟩ G ⟨k, hi, h1, h0, h5, h2, h3, h4⟩ hG
  simp only at hi h1 h2 h3 h4 h5
  subst hi
  have hdx := rngB cx.1 k
  have hx0 : x.length ≤ k → x.getD k 0 = 0 := fun h => getD_out h
  have hxq : 0 ≤ x.getD k 0 * q ∧ x.getD k 0 * q ≤ 999999999 * 1000000000 := ⟨Int.mul_nonneg hdx.1 q0, Int.mul_le_mul (by omega) q1 q0 (by decide)⟩
  have hxn : (x.getD k 0 * q).toNat = (x.getD k 0).toNat * q.toNat := Int.toNat_mul hdx.1 q0
  have fin : (k < x.length ∨ 0 < c) → ∀ s : Int, s = c + x.getD k 0 * q → (1000000000 : Int) ≠ (0 : Int) ∧ ((out.length : Int) + (([s.tmod (1000000000 : Int)] : List Int).length : Int)) * (8 : Int) ≤ (140737488355328 : Int) ∧
      (1000000000 : Int) ≠ (0 : Int) ∧ G (List.append out [s.tmod (1000000000 : Int)], IntKind.i64.wrap (s.tdiv (1000000000 : Int)), IntKind.i64.wrap ((k : Int) + (1 : Int)), ()) := by
    intro hor s hs
    have hs0 : 0 ≤ s := by omega
    have hk2 : k ≤ x.length + 1 := by
      rcases h5 with h5 | h5
      · omega
      · rcases Nat.lt_or_ge k (x.length + 2) with h6 | h6
        · omega
        · have : k - x.length = 2 := by omega
          rw [this] at h5
          have : (1000000000 : Int) ^ 2 = 1000000000000000000 := by decide
          rw [this] at h5
          omega
    rw [tmod_nn hs0, tdiv_nn hs0, wrap_i64 (x := s / 1000000000) (by omega) (by omega), wrap_i64 (x := (k : Int) + 1) (by omega) (by omega)]
    refine ⟨by decide, by simp only [List.length_singleton]; omega, by decide, hG _ ⟨k + 1, by simp only; omega, by simp [h1], by omega, ?_, rng_snoc h2 (mod_B hs0), ⟨by simp only; omega, by simp only; omega⟩, ?_⟩ (by simp only; omega)⟩
    · rcases Nat.lt_or_ge k x.length with h6 | h6
      · exact .inl h6
      · right
        have hx' := hx0 h6
        rw [hx', Int.zero_mul] at hs
        rcases Nat.eq_or_lt_of_le h6 with h7 | h7
        · have e7 : k + 1 - x.length = 1 := by omega
          simp only
          rw [e7, Int.pow_one]
          omega
        · have e8 : k = x.length + 1 := by omega
          have e9 : k + 1 - x.length = 2 := by omega
          have e10 : k - x.length = 1 := by omega
          rcases h5 with h5 | h5
          · omega
          · rw [e10, Int.pow_one] at h5
            simp only
            rw [e9]
            have : (1000000000 : Int) ^ 2 = 1000000000000000000 := by decide
            rw [this]
            omega
    · have hst := carry_step (L := out) (c := c) (s := s) (k := k) (P := vl BB (x.take k) * q.toNat) (Q := (x.getD k 0).toNat * q.toNat) h1 hs0 h4 h3.1 (by omega)
      have e1 := vl_take_getD (B := BB) (l := x) k
      simp only [List.append_eq]
      rw [hst, e1, Nat.add_mul, Nat.mul_assoc]
  have wr : ∀ a : Int, 0 ≤ a → a ≤ 9000000000000000000 → IntKind.i64.wrap a = a := fun a h1 h2 => wrap_i64 (by omega) (by omega)
  have wq : IntKind.i64.wrap (x.getD k 0 * q) = x.getD k 0 * q := wr _ (by omega) (by omega)
  simp only
  refine Br_of (fun g1 => ?_) (fun g1 => Br_of (fun g2 => ?_) (fun g2 => ?_))
  rotate_right 1
  · have k1 := of_decide_eq_false g1
    have k2 := of_decide_eq_false g2
    have hcx : x.length ≤ k := by omega
    have hc0 : c = 0 := by omega
    rw [List.take_of_length_le hcx, hc0] at h4
    simp only [Int.toNat_zero, Nat.mul_zero, Nat.add_zero] at h4
    refine ⟨⟨h2, by omega⟩, ?_⟩
    show (dg BB (vl BB out), ()) = _
    rw [h4]
  all_goals
    have hor : k < x.length ∨ 0 < c := by
      simp only [decide_eq_true_eq, decide_eq_false_iff_not] at *
      omega
    refine Br_of (fun g5 => ?_) (fun g5 => ?_)
    · have k5 := of_decide_eq_true g5
      refine ⟨by omega, by omega, fin hor _ ?_⟩
      rw [rdI, wq, wr _ (by omega) (by omega)]
    · have k5 := of_decide_eq_false g5
      have h9 := hx0 (by omega)
      refine fin hor _ ?_
      rw [h9, Int.zero_mul, Int.add_zero]

theorem small_wrap {r X : Nat} (hr : r < 1000000000) (hX : X < 1000000000) : IntKind.i64.wrap (IntKind.i64.wrap ((r : Int) * 1000000000) + (X : Int)) = ((r * 1000000000 + X : Nat) : Int) := by
  rw [wrap_i64 (x := (r : Int) * 1000000000) (by omega) (by omega), wrap_i64 (by omega) (by omega)]
  omega
theorem small_lt {r X D : Nat} (hD : 0 < D) (h1 : r < D) (hX : X < 1000000000) : (r * 1000000000 + X) / D < 1000000000 := by
  rw [Nat.div_lt_iff_lt_mul hD]
  have : (r + 1) * 1000000000 ≤ D * 1000000000 := Nat.mul_le_mul_right _ h1
  omega
theorem small_fin {b X D v r q s : Nat} (hdm : D * q + s = b * r + X) : X + b * (D * v + r) = D * (q + b * v) + s := by
  rw [Nat.mul_add, Nat.mul_add]
  have e3 : D * (b * v) = b * (D * v) := by rw [← Nat.mul_assoc, Nat.mul_comm D b, Nat.mul_assoc]
  omega
theorem vc124 : ∀ x, C124.pre x → VC T81 H124 Tryz.f124 C124 x := by
  rintro ⟨(x : List Int), (d : Int), ⟨⟩⟩ ⟨⟨cx, lx⟩, (hd0 : 0 < d), (hd1 : d ≤ 1000000000)⟩
  refine cast (α := (0 : Int) ≤ (↑x.length : Int) ∧ (↑x.length : Int) = (↑x.length : Int) ∧ (↑x.length : Int) * (8 : Int) ≤ (140737488355328 : Int) ∧ ∃ (n : Nat), itl (fun (G : List Int × Int × Int × PUnit → Prop) (x_1 : List Int × Int × Int × PUnit) => Br (decide (x_1.snd.snd.fst ≥ (0 : Int))) ((0 : Int) ≤ x_1.snd.snd.fst ∧ x_1.snd.snd.fst < (↑x.length : Int) ∧ d ≠ (0 : Int) ∧ (0 : Int) ≤ x_1.snd.snd.fst ∧ x_1.snd.snd.fst < (↑(List.length x_1.fst) : Int) ∧ (0 : Int) ≤ x_1.snd.snd.fst ∧ x_1.snd.snd.fst < (↑(List.length x_1.fst) : Int) ∧ d ≠ (0 : Int) ∧ G (List.set x_1.fst (Int.toNat x_1.snd.snd.fst) (IntKind.i64.wrap ((IntKind.i64.wrap (IntKind.i64.wrap (x_1.snd.fst * (1000000000 : Int)) + rd i64 x x_1.snd.snd.fst)).tdiv d)), (IntKind.i64.wrap (IntKind.i64.wrap (x_1.snd.fst * (1000000000 : Int)) + rd i64 x x_1.snd.snd.fst)).tmod d, IntKind.i64.wrap (x_1.snd.snd.fst - (1 : Int)), ())) (Pl.rgL x_1.1 ∧ (Pl.rtr x_1.1, x_1.snd.fst, ()) = C124.post (x, d, ()))) n (List.replicate (↑x.length : Int).toNat (0 : Int), (0 : Int), IntKind.i64.wrap ((↑x.length : Int) - (1 : Int)), ())) (by kernel_rfl) ?_
  have e : C124.post (x, d, ()) = (dg BB (vl BB x / d.toNat), ((vl BB x % d.toNat : Nat) : Int), ()) := rfl
  rw [e]
  simp only at lx cx
  have hx := cx.1
  obtain ⟨D, rfl⟩ := Int.eq_ofNat_of_zero_le (Int.le_of_lt hd0)
  have hD : 0 < D := by omega
  simp only [Int.toNat_natCast]
  refine ⟨by omega, trivial, by omega, ?_⟩
  rw [wrap_i64 (x := (x.length : Int) - 1) (by omega) (by omega)]
  refine itl_rule (fun s => ∃ (k : Nat) (r : Nat), s.2.2.1 = (k : Int) - 1 ∧ s.2.1 = (r : Int) ∧ r < D ∧ k ≤ x.length ∧ s.1.length = x.length ∧ rng BB s.1 ∧ (∀ j, j < k → s.1.getD j 0 = 0) ∧ vl BB (x.drop k) = D * vl BB (s.1.drop k) + r)
    (fun s => (s.2.2.1 + 1).toNat) ⟨x.length, 0, rfl, rfl, hD, Nat.le_refl _, by simp, rng_replicate (by decide), fun j _ => zero_replicate _ 0 j (Nat.zero_le _), by simp [vl]⟩ ?_
  rintro ⟨out, rr, i, ⟨⟩⟩ G ⟨k, r, hi, hr, h1, h2, h3, h4, h5, h6⟩ hG
  simp only at hi hr h3 h4 h5 h6
  subst hi hr
  simp only
  refine Br_of (fun hb => ?_) (fun hb => ?_)
  · have hk : 0 < k := by have := of_decide_eq_true hb; omega
    obtain ⟨m, rfl⟩ : ∃ m, k = m + 1 := ⟨k - 1, by omega⟩
    have em : ((m + 1 : Nat) : Int) - 1 = (m : Int) := by omega
    rw [em, rdI, wrap_i64 (x := (m : Int) - 1) (by omega) (by omega)]
    simp only [Int.toNat_natCast]
    have wx := rngB hx m
    have hdrop : vl BB (x.drop m) = (x.getD m 0).toNat + BB * vl BB (x.drop (m + 1)) := by rw [getD_get (by omega)]; exact vl_drop_cons (by omega)
    generalize x.getD m 0 = X at wx hdrop ⊢
    obtain ⟨X, rfl⟩ := Int.eq_ofNat_of_zero_le wx.1
    rw [Int.toNat_natCast] at hdrop
    have hX : X < 1000000000 := by have := wx.2; omega
    have ew : IntKind.i64.wrap (IntKind.i64.wrap ((r : Int) * 1000000000) + (X : Int)) = ((r * 1000000000 + X : Nat) : Int) := small_wrap (by omega) hX
    have hnn : (0 : Int) ≤ ((r * 1000000000 + X : Nat) : Int) := Int.natCast_nonneg _
    rw [ew, tdiv_nn hnn, tmod_nn hnn, ← Int.natCast_ediv, ← Int.natCast_emod]
    have hq : (r * 1000000000 + X) / D < 1000000000 := small_lt hD h1 hX
    have hm : (r * 1000000000 + X) % D < D := Nat.mod_lt _ hD
    have hdm := Nat.div_add_mod (r * 1000000000 + X) D
    generalize (r * 1000000000 + X) / D = q at hq hdm ⊢
    generalize (r * 1000000000 + X) % D = s at hm hdm ⊢
    rw [show r * 1000000000 = BB * r from Nat.mul_comm _ _] at hdm
    rw [wrap_i64 (x := (q : Int)) (by omega) (by omega)]
    refine ⟨by omega, by omega, by omega, by omega, by omega, by omega, by omega, by omega, ?_⟩
    refine hG _ ⟨m, s, rfl, rfl, hm, by omega, by simpa using h3, rng_set h4 ⟨by omega, by rw [show ((BB : Nat) : Int) = 1000000000 from rfl]; omega⟩, fun j hj => ?_, ?_⟩ (by simp only; omega)
    · simp only
      rw [getD_set, if_neg (by omega)]
      exact h5 j (by omega)
    · simp only
      have hlen : m < (out.set m (q : Int)).length := by simp; omega
      rw [hdrop, vl_drop_cons hlen]
      simp only [List.getElem_set_self]
      rw [List.drop_set_of_lt (by omega), h6, Int.toNat_natCast]
      exact small_fin hdm
  · have hk : k = 0 := by have := of_decide_eq_false hb; omega
    subst hk
    simp only [List.drop_zero] at h6
    have hq : vl BB x / D = vl BB out := by rw [h6, Nat.mul_add_div hD, Nat.div_eq_of_lt h1, Nat.add_zero]
    have hm : vl BB x % D = r := by rw [h6, Nat.mul_add_mod, Nat.mod_eq_of_lt h1]
    refine ⟨⟨h4, by omega⟩, ?_⟩
    show (dg BB (vl BB out), (r : Int), ()) = _
    rw [hq, hm]

end Ta
end
section
/- The reference's naturals: products. -/
set_option linter.unusedVariables false
set_option linter.unusedSimpArgs false
set_option maxRecDepth 100000
namespace Ta
open Go Fw Go.Proofs Pl

/-- A digit that is set, and what is carried. -/
theorem mul_step {B S S' P o c d c' v p q : Nat} (hset : S' + B * o = S + B * d) (h : S + B * c = P) (hv : d + q * c' = v) (hs : v = o + c + p) : S' + B * q * c' = P + B * p := by
  have e := congrArg (fun t => B * t) (hv.trans hs)
  simp only [Nat.mul_add] at e
  rw [Nat.mul_assoc]
  omega
theorem vc94 : ∀ x, C94.pre x → VC T81 H94 Tryz.f94 C94 x := by
  rintro ⟨(x : List Int), (y : List Int), ⟨⟩⟩ ⟨⟨cx, lx⟩, cy, ly⟩
  refine cast (α := (0 : Int) ≤ IntKind.i64.wrap ((↑x.length : Int) + (↑y.length : Int)) ∧ IntKind.i64.wrap ((↑x.length : Int) + (↑y.length : Int)) = IntKind.i64.wrap ((↑x.length : Int) + (↑y.length : Int)) ∧ IntKind.i64.wrap ((↑x.length : Int) + (↑y.length : Int)) * (8 : Int) ≤ (140737488355328 : Int) ∧ ∃ (n : Nat), itl (fun (G : List Int × Int × PUnit → Prop) (x_1 : List Int × Int × PUnit) => Br (decide (x_1.snd.fst < (↑x.length : Int))) (∃ (n : Nat), itl (fun (G_1 : List Int × Int × Int × PUnit → Prop) (x_2 : List Int × Int × Int × PUnit) => Br (decide (x_2.snd.snd.fst < (↑y.length : Int))) ((0 : Int) ≤ IntKind.i64.wrap (x_1.snd.fst + x_2.snd.snd.fst) ∧ IntKind.i64.wrap (x_1.snd.fst + x_2.snd.snd.fst) < (↑(List.length x_2.fst) : Int) ∧ (0 : Int) ≤ IntKind.i64.wrap (x_1.snd.fst + x_2.snd.snd.fst) ∧ IntKind.i64.wrap (x_1.snd.fst + x_2.snd.snd.fst) < (↑(List.length x_2.fst) : Int) ∧ Br (decide (x_2.snd.snd.fst < (↑y.length : Int))) ((0 : Int) ≤ x_1.snd.fst ∧ x_1.snd.fst < (↑x.length : Int) ∧ (0 : Int) ≤ x_2.snd.snd.fst ∧ x_2.snd.snd.fst < (↑y.length : Int) ∧ (1000000000 : Int) ≠ (0 : Int) ∧ (0 : Int) ≤ IntKind.i64.wrap (x_1.snd.fst + x_2.snd.snd.fst) ∧ IntKind.i64.wrap (x_1.snd.fst + x_2.snd.snd.fst) < (↑(List.length x_2.fst) : Int) ∧ (0 : Int) ≤ IntKind.i64.wrap (x_1.snd.fst + x_2.snd.snd.fst) ∧ IntKind.i64.wrap (x_1.snd.fst + x_2.snd.snd.fst) < (↑(List.length x_2.fst) : Int) ∧ (1000000000 : Int) ≠ (0 : Int) ∧ G_1 (List.set x_2.fst (IntKind.i64.wrap (x_1.snd.fst + x_2.snd.snd.fst)).toNat ((IntKind.i64.wrap (IntKind.i64.wrap (rd i64 x_2.fst (IntKind.i64.wrap (x_1.snd.fst + x_2.snd.snd.fst)) + x_2.snd.fst) + IntKind.i64.wrap (rd i64 x x_1.snd.fst * rd i64 y x_2.snd.snd.fst))).tmod (1000000000 : Int)), IntKind.i64.wrap ((IntKind.i64.wrap (IntKind.i64.wrap (rd i64 x_2.fst (IntKind.i64.wrap (x_1.snd.fst + x_2.snd.snd.fst)) + x_2.snd.fst) + IntKind.i64.wrap (rd i64 x x_1.snd.fst * rd i64 y x_2.snd.snd.fst))).tdiv (1000000000 : Int)), IntKind.i64.wrap (x_2.snd.snd.fst + (1 : Int)), ())) ((1000000000 : Int) ≠ (0 : Int) ∧ (0 : Int) ≤ IntKind.i64.wrap (x_1.snd.fst + x_2.snd.snd.fst) ∧ IntKind.i64.wrap (x_1.snd.fst + x_2.snd.snd.fst) < (↑(List.length x_2.fst) : Int) ∧ (0 : Int) ≤ IntKind.i64.wrap (x_1.snd.fst + x_2.snd.snd.fst) ∧ IntKind.i64.wrap (x_1.snd.fst + x_2.snd.snd.fst) < (↑(List.length x_2.fst) : Int) ∧ (1000000000 : Int) ≠ (0 : Int) ∧ G_1 (List.set x_2.fst (IntKind.i64.wrap (x_1.snd.fst + x_2.snd.snd.fst)).toNat ((IntKind.i64.wrap (rd i64 x_2.fst (IntKind.i64.wrap (x_1.snd.fst + x_2.snd.snd.fst)) + x_2.snd.fst)).tmod (1000000000 : Int)), IntKind.i64.wrap ((IntKind.i64.wrap (rd i64 x_2.fst (IntKind.i64.wrap (x_1.snd.fst + x_2.snd.snd.fst)) + x_2.snd.fst)).tdiv (1000000000 : Int)), IntKind.i64.wrap (x_2.snd.snd.fst + (1 : Int)), ()))) (Br (decide (x_2.snd.fst > (0 : Int))) ((0 : Int) ≤ IntKind.i64.wrap (x_1.snd.fst + x_2.snd.snd.fst) ∧ IntKind.i64.wrap (x_1.snd.fst + x_2.snd.snd.fst) < (↑(List.length x_2.fst) : Int) ∧ (0 : Int) ≤ IntKind.i64.wrap (x_1.snd.fst + x_2.snd.snd.fst) ∧ IntKind.i64.wrap (x_1.snd.fst + x_2.snd.snd.fst) < (↑(List.length x_2.fst) : Int) ∧ Br (decide (x_2.snd.snd.fst < (↑y.length : Int))) ((0 : Int) ≤ x_1.snd.fst ∧ x_1.snd.fst < (↑x.length : Int) ∧ (0 : Int) ≤ x_2.snd.snd.fst ∧ x_2.snd.snd.fst < (↑y.length : Int) ∧ (1000000000 : Int) ≠ (0 : Int) ∧ (0 : Int) ≤ IntKind.i64.wrap (x_1.snd.fst + x_2.snd.snd.fst) ∧ IntKind.i64.wrap (x_1.snd.fst + x_2.snd.snd.fst) < (↑(List.length x_2.fst) : Int) ∧ (0 : Int) ≤ IntKind.i64.wrap (x_1.snd.fst + x_2.snd.snd.fst) ∧ IntKind.i64.wrap (x_1.snd.fst + x_2.snd.snd.fst) < (↑(List.length x_2.fst) : Int) ∧ (1000000000 : Int) ≠ (0 : Int) ∧ G_1 (List.set x_2.fst (IntKind.i64.wrap (x_1.snd.fst + x_2.snd.snd.fst)).toNat ((IntKind.i64.wrap (IntKind.i64.wrap (rd i64 x_2.fst (IntKind.i64.wrap (x_1.snd.fst + x_2.snd.snd.fst)) + x_2.snd.fst) + IntKind.i64.wrap (rd i64 x x_1.snd.fst * rd i64 y x_2.snd.snd.fst))).tmod (1000000000 : Int)), IntKind.i64.wrap ((IntKind.i64.wrap (IntKind.i64.wrap (rd i64 x_2.fst (IntKind.i64.wrap (x_1.snd.fst + x_2.snd.snd.fst)) + x_2.snd.fst) + IntKind.i64.wrap (rd i64 x x_1.snd.fst * rd i64 y x_2.snd.snd.fst))).tdiv (1000000000 : Int)), IntKind.i64.wrap (x_2.snd.snd.fst + (1 : Int)), ())) ((1000000000 : Int) ≠ (0 : Int) ∧ (0 : Int) ≤ IntKind.i64.wrap (x_1.snd.fst + x_2.snd.snd.fst) ∧ IntKind.i64.wrap (x_1.snd.fst + x_2.snd.snd.fst) < (↑(List.length x_2.fst) : Int) ∧ (0 : Int) ≤ IntKind.i64.wrap (x_1.snd.fst + x_2.snd.snd.fst) ∧ IntKind.i64.wrap (x_1.snd.fst + x_2.snd.snd.fst) < (↑(List.length x_2.fst) : Int) ∧ (1000000000 : Int) ≠ (0 : Int) ∧ G_1 (List.set x_2.fst (IntKind.i64.wrap (x_1.snd.fst + x_2.snd.snd.fst)).toNat ((IntKind.i64.wrap (rd i64 x_2.fst (IntKind.i64.wrap (x_1.snd.fst + x_2.snd.snd.fst)) + x_2.snd.fst)).tmod (1000000000 : Int)), IntKind.i64.wrap ((IntKind.i64.wrap (rd i64 x_2.fst (IntKind.i64.wrap (x_1.snd.fst + x_2.snd.snd.fst)) + x_2.snd.fst)).tdiv (1000000000 : Int)), IntKind.i64.wrap (x_2.snd.snd.fst + (1 : Int)), ()))) (G (x_2.1, IntKind.i64.wrap (x_1.snd.fst + (1 : Int)), ())))) n (x_1.1, (0 : Int), (0 : Int), ())) (Pl.rgL x_1.1 ∧ (Pl.rtr x_1.1, ()) = C94.post (x, y, ()))) n (List.replicate (IntKind.i64.wrap ((↑x.length : Int) + (↑y.length : Int))).toNat (0 : Int), (0 : Int), ())) (by kernel_rfl) ?_
  have e : C94.post (x, y, ()) = (dg BB (vl BB x * vl BB y), ()) := rfl
  rw [e]
  simp only at lx ly cx cy
  have hx := cx.1
  have hy := cy.1
  rw [wrap_i64 (x := (x.length : Int) + (y.length : Int)) (by omega) (by omega)]
  refine ⟨by omega, rfl, by omega, ?_⟩
  have em : ((x.length : Int) + (y.length : Int)).toNat = x.length + y.length := by omega
  rw [em]
  refine itl_rule (fun s => ∃ k : Nat, s.2.1 = (k : Int) ∧ k ≤ x.length ∧ s.1.length = x.length + y.length ∧ rng BB s.1 ∧ ZeroFrom s.1 (k + y.length) ∧ vl BB s.1 = vl BB (x.take k) * vl BB y)
    (fun s => x.length - s.2.1.toNat) ⟨0, rfl, by omega, by simp, rng_replicate (by decide), zero_replicate _ _, by simp [vl_replicate, vl]⟩ ?_
  rintro ⟨out, i, ⟨⟩⟩ G ⟨k, hi, h1, h3, h4, h5, h6⟩ hG
  simp only at hi h3 h4 h5 h6
  subst hi
  simp only
  refine Br_of (fun hb => ?_) (fun hb => ?_)
  · have hk : k < x.length := by have := of_decide_eq_true hb; omega
    have wx := rngB hx k
    have hvx : vl BB (x.take (k + 1)) = vl BB (x.take k) + BB ^ k * (x.getD k 0).toNat := vl_take_getD k
    have hrx : rd i64 x (k : Int) = x.getD k 0 := rfl
    rw [hrx]
    generalize x.getD k 0 = d at wx hvx ⊢
    refine itl_rule (fun s => ∃ t : Nat, s.2.2.1 = (t : Int) ∧ t ≤ y.length + 1 ∧ s.1.length = x.length + y.length ∧ rng BB s.1 ∧ ZeroFrom s.1 (k + max t y.length) ∧ (0 ≤ s.2.1 ∧ s.2.1 < 1000000000) ∧ (t = y.length + 1 → s.2.1 = 0) ∧
        vl BB s.1 + BB ^ (k + t) * s.2.1.toNat = vl BB (x.take k) * vl BB y + BB ^ k * (d.toNat * vl BB (y.take t)))
      (fun s => y.length + 1 - s.2.2.1.toNat) ⟨0, rfl, by omega, h3, h4, by rw [Nat.max_eq_right (Nat.zero_le _)]; exact h5, ⟨Int.le_refl 0, by simp only; omega⟩, fun h => by omega, by simp [vl, h6]⟩ ?_
    rintro ⟨out', c, j, ⟨⟩⟩ G' ⟨t, hj, g1, g2, g3, g4, g5, g7, g6⟩ hG'
    simp only at hj g2 g3 g4 g5 g6 g7
    subst hj
    simp only
    have wy := rngB hy t
    have hy0 : y.length ≤ t → y.getD t 0 = 0 := fun h => getD_out h
    have wo := rngB g3 (k + t)
    have ekt : IntKind.i64.wrap ((k : Int) + (t : Int)) = ((k + t : Nat) : Int) := by rw [wrap_i64 (by omega) (by omega)]; omega
    have hry : rd i64 y (t : Int) = y.getD t 0 := rfl
    have hro : rd i64 out' ((k + t : Nat) : Int) = out'.getD (k + t) 0 := rfl
    rw [ekt, hry, hro, wrap_i64 (x := (t : Int) + 1) (by omega) (by omega), Int.toNat_natCast]
    have hp : 0 ≤ d * y.getD t 0 ∧ d * y.getD t 0 ≤ 999999999 * 999999999 := ⟨Int.mul_nonneg wx.1 wy.1, Int.mul_le_mul (by omega) (by omega) wy.1 (by decide)⟩
    have hpn : (d * y.getD t 0).toNat = d.toNat * (y.getD t 0).toNat := Int.toNat_mul wx.1 wy.1
    have fin : (t < y.length ∨ 0 < c) → ∀ v : Int, v = out'.getD (k + t) 0 + c + d * y.getD t 0 → (1000000000 : Int) ≠ (0 : Int) ∧ (0 : Int) ≤ ((k + t : Nat) : Int) ∧ ((k + t : Nat) : Int) < (out'.length : Int) ∧ (0 : Int) ≤ ((k + t : Nat) : Int) ∧ ((k + t : Nat) : Int) < (out'.length : Int) ∧ (1000000000 : Int) ≠ (0 : Int) ∧
        G' (List.set out' (k + t) (v.tmod (1000000000 : Int)), IntKind.i64.wrap (v.tdiv (1000000000 : Int)), ((t : Int) + (1 : Int)), ()) := by
      intro hor v hv
      have hv0 : 0 ≤ v := by omega
      have hvm : v < 1000000000000000000 := by omega
      have ht : t ≤ y.length := by
        rcases Nat.lt_or_ge t (y.length + 1) with h | h
        · omega
        · have := g7 (by omega); omega
      rw [tmod_nn hv0, tdiv_nn hv0, wrap_i64 (x := v / 1000000000) (by omega) (by omega)]
      refine ⟨by decide, by omega, by omega, by omega, by omega, by decide, hG' _ ⟨t + 1, by simp only; omega, by omega, by simpa using g2, rng_set g3 (mod_B hv0), ?_, ⟨by simp only; omega, by simp only; omega⟩, ?_, ?_⟩ (by simp only; omega)⟩
      · intro j hj
        simp only
        rw [getD_set, if_neg (by omega)]
        exact g4 j (by omega)
      · intro h
        have ht2 : t = y.length := by omega
        have h8 := hy0 (by omega)
        have h9 : out'.getD (k + t) 0 = 0 := g4 (k + t) (by omega)
        rw [h8, h9, Int.mul_zero] at hv
        simp only
        omega
      · have hvy : vl BB (y.take (t + 1)) = vl BB (y.take t) + BB ^ t * (y.getD t 0).toNat := vl_take_getD t
        have hset : vl BB (out'.set (k + t) (v % 1000000000)) + BB ^ (k + t) * (out'.getD (k + t) 0).toNat = vl BB out' + BB ^ (k + t) * (v % 1000000000).toNat := by
          rw [getD_get (by omega)]; exact vl_set (by omega)
        have hst := mul_step (q := BB) (c' := (v / 1000000000).toNat) (v := v.toNat) (p := d.toNat * (y.getD t 0).toNat) hset g6 (by rw [BB_eq]; omega) (by omega)
        simp only
        rw [show k + (t + 1) = k + t + 1 by omega, Nat.pow_succ, hst, hvy, Nat.mul_add, Nat.mul_add, Nat.add_assoc]
        congr 2
        rw [Nat.pow_add, Nat.mul_assoc]
        congr 1
        exact Nat.mul_left_comm _ _ _
    have wr : ∀ a : Int, 0 ≤ a → a ≤ 9000000000000000000 → IntKind.i64.wrap a = a := fun a h1 h2 => wrap_i64 (by omega) (by omega)
    have wq : IntKind.i64.wrap (d * y.getD t 0) = d * y.getD t 0 := wr _ (by omega) (by omega)
    refine Br_of (fun u1 => ?_) (fun u1 => Br_of (fun u2 => ?_) (fun u2 => ?_))
    rotate_right 1
    · have k1 := of_decide_eq_false u1
      have k2 := of_decide_eq_false u2
      have hc0 : c = 0 := by omega
      subst hc0
      rw [wrap_i64 (x := (k : Int) + 1) (by omega) (by omega)]
      simp only [Int.toNat_zero, Nat.mul_zero, Nat.add_zero] at g6
      refine hG _ ⟨k + 1, by simp only; omega, by omega, g2, g3, ?_, ?_⟩ (by simp only; omega)
      · intro j hj
        exact g4 j (by omega)
      · simp only
        rw [g6, hvx, List.take_of_length_le (l := y) (i := t) (by omega), Nat.add_mul, Nat.mul_assoc]
    all_goals
      have hor : t < y.length ∨ 0 < c := by
        simp only [decide_eq_true_eq, decide_eq_false_iff_not] at *
        omega
      have ht : t ≤ y.length := by
        rcases Nat.lt_or_ge t (y.length + 1) with h | h
        · omega
        · have := g7 (by omega); omega
      refine ⟨by omega, by omega, by omega, by omega, Br_of (fun u5 => ⟨by omega, by omega, by omega, by have := of_decide_eq_true u5; omega, fin hor _ ?_⟩) (fun u5 => ?_)⟩
      · rw [wq, wr (out'.getD (k + t) 0 + c) (by omega) (by omega), wr _ (by omega) (by omega)]
      · have k5 := of_decide_eq_false u5
        have h8 := hy0 (by omega)
        refine fin hor _ ?_
        rw [h8, Int.mul_zero, Int.add_zero, wr (out'.getD (k + t) 0 + c) (by omega) (by omega)]
  · have hk : k = x.length := by have := of_decide_eq_false hb; omega
    subst hk
    refine ⟨⟨h4, by omega⟩, ?_⟩
    show (dg BB (vl BB out), ()) = _
    rw [h6, List.take_length]

end Ta
end
section
/- The reference's naturals: quotient and remainder, common divisor, number of digits. -/
set_option linter.unusedVariables false
set_option linter.unusedSimpArgs false
set_option maxRecDepth 100000
set_option exponentiation.threshold 6000000
namespace Ta
open Go Fw Go.Proofs Pl

theorem cmpR_ge {x y : List Int} : (cmpR x y ≥ 0) ↔ nr y ≤ nr x := by
  show cmpN (nr x) (nr y) ≥ 0 ↔ _
  unfold cmpN
  by_cases h : nr x < nr y
  · rw [if_pos h]; omega
  · rw [if_neg h]
    constructor
    · intro _; omega
    · intro _; split <;> decide
theorem vl_cons {B : Nat} (d : Int) (l : List Int) : vl B (d :: l) = d.toNat + B * vl B l := rfl
theorem vl_drop_le {B : Nat} {l : List Int} {i : Nat} (hi : i ≤ l.length) : B ^ i * vl B (l.drop i) ≤ vl B l := by
  rw [vl_drop hi]; exact Nat.le_add_left _ _
/-- The guess is never too much. -/
theorem guess_le {B P n h Y R : Nat} (hY : Y ≤ h * P) (hn : P * n ≤ R) : n / h * Y ≤ R := by
  have h1 : n / h * Y ≤ n / h * (h * P) := Nat.mul_le_mul_left _ hY
  have h2 : n / h * (h * P) = n / h * h * P := (Nat.mul_assoc _ _ _).symm
  have h3 : n / h * h * P ≤ n * P := Nat.mul_le_mul_right _ (Nat.div_mul_le_self n h)
  rw [Nat.mul_comm n P] at h3
  omega
theorem inner_q {c n Y R R0 : Nat} (h : c * Y + R = R0) (hn : n * Y ≤ R) : (c + n) * Y + (R - n * Y) = R0 := by
  rw [Nat.add_mul]; omega
theorem digit_lt {c Y R R0 B : Nat} (h : c * Y + R = R0) (h0 : R0 < Y * B) : c < B := by
  rcases Nat.lt_or_ge c B with h1 | h1
  · exact h1
  · have := Nat.mul_le_mul_right Y h1
    rw [Nat.mul_comm Y B] at h0
    omega
theorem outer_q {B Xi Xv Y Qv r c R : Nat} (h : Xv = Y * Qv + r) (hc : c * Y + R = Xi + B * r) : Xi + B * Xv = Y * (c + B * Qv) + R := by
  subst h
  rw [Nat.mul_add, Nat.mul_add, Nat.mul_comm Y c]
  have e : Y * (B * Qv) = B * (Y * Qv) := Nat.mul_left_comm _ _ _
  omega
theorem top_split {B : Nat} {l : List Int} {m : Nat} (h : l.length = m + 1) : vl B l = vl B (l.take m) + B ^ m * (l.getD m 0).toNat := by
  have := vl_take_getD (B := B) (l := l) m
  rw [List.take_of_length_le (by omega)] at this
  exact this
theorem vc78 : ∀ x, C78.pre x → VC T78 H78 Tryz.f78 C78 x := by
  rintro ⟨(x : List Int), (y : List Int), ⟨⟩⟩ ⟨⟨cx, lx⟩, ⟨cy, ly⟩, (hy0 : y ≠ [])⟩
  refine cast (α := let v1 := (↑y.length : Int) - (1 : Int); let v2 := rd i64 y (IntKind.i64.wrap v1) + (1 : Int); let v3 := Pl.timR x (IntKind.i64.wrap (Int.tdiv (1000000000 : Int) (IntKind.i64.wrap v2))); let v4 := Pl.timR y (IntKind.i64.wrap (Int.tdiv (1000000000 : Int) (IntKind.i64.wrap v2))); let v5 := (↑v4.length : Int) - (1 : Int); let v6 := rd i64 v4 (IntKind.i64.wrap v5) + (1 : Int); (0 : Int) ≤ IntKind.i64.wrap v1 ∧ IntKind.i64.wrap v1 < (↑y.length : Int) ∧ IntKind.i64.wrap v2 ≠ (0 : Int) ∧ (Pl.okL x ∧ (0 : Int) ≤ IntKind.i64.wrap (Int.tdiv (1000000000 : Int) (IntKind.i64.wrap v2)) ∧ IntKind.i64.wrap (Int.tdiv (1000000000 : Int) (IntKind.i64.wrap v2)) ≤ (1000000000 : Int)) ∧ (Pl.okL y ∧ (0 : Int) ≤ IntKind.i64.wrap (Int.tdiv (1000000000 : Int) (IntKind.i64.wrap v2)) ∧ IntKind.i64.wrap (Int.tdiv (1000000000 : Int) (IntKind.i64.wrap v2)) ≤ (1000000000 : Int)) ∧ (0 : Int) ≤ IntKind.i64.wrap v5 ∧ IntKind.i64.wrap v5 < (↑v4.length : Int) ∧ (0 : Int) ≤ (↑v3.length : Int) ∧ (↑v3.length : Int) = (↑v3.length : Int) ∧ (↑v3.length : Int) * (8 : Int) ≤ (140737488355328 : Int) ∧ ∃ (n : Nat), itl (fun (G : List Int × List Int × Int × PUnit → Prop) (x_1 : List Int × List Int × Int × PUnit) => let v7 := rd i64 v3 x_1.snd.snd.fst; Br (decide (x_1.snd.snd.fst ≥ (0 : Int))) ((0 : Int) ≤ x_1.snd.snd.fst ∧ x_1.snd.snd.fst < (↑v3.length : Int) ∧ ((↑[v7].length : Int) + (↑(List.length x_1.snd.1) : Int)) * (8 : Int) ≤ (140737488355328 : Int) ∧ Pl.rgL (v7 :: [].append x_1.snd.1) ∧ ∃ (n : Nat), itl (fun (G_1 : List Int × List Int × PUnit → Prop) (x : List Int × List Int × PUnit) => (Pl.okL x.snd.1 ∧ Pl.okL v4) ∧ Br (decide (Pl.cmpR x.snd.1 v4 ≥ (0 : Int))) (∃ (n : Nat), itl (fun (G : List Int × Int × Int × PUnit → Prop) (x_2 : List Int × Int × Int × PUnit) => let v8 := List.length x_2.fst; let v9 := Int.tdiv x_2.snd.fst (IntKind.i64.wrap v6); let v10 := if IntKind.i64.wrap v9 < (999999999 : Int) then IntKind.i64.wrap v9 else (999999999 : Int); let v11 := if v10 > (1 : Int) then v10 else (1 : Int); Br (decide (x_2.snd.snd.fst ≥ IntKind.i64.wrap v5)) ((0 : Int) ≤ x_2.snd.snd.fst ∧ x_2.snd.snd.fst < (↑(List.length x.snd.fst) : Int) ∧ G (x_2.1, IntKind.i64.wrap (IntKind.i64.wrap (x_2.snd.fst * (1000000000 : Int)) + rd i64 x.snd.fst x_2.snd.snd.fst), IntKind.i64.wrap (x_2.snd.snd.fst - (1 : Int)), ())) (IntKind.i64.wrap v6 ≠ (0 : Int) ∧ (Pl.okL v4 ∧ (0 : Int) ≤ v11 ∧ v11 ≤ (1000000000 : Int)) ∧ (Pl.okL x.snd.1 ∧ Pl.okL (Pl.timR v4 v11) ∧ Pl.leR (Pl.timR v4 v11) x.snd.1) ∧ (0 : Int) ≤ x_1.snd.snd.fst ∧ x_1.snd.snd.fst < (↑v8 : Int) ∧ (0 : Int) ≤ x_1.snd.snd.fst ∧ x_1.snd.snd.fst < (↑v8 : Int) ∧ (0 : Int) ≤ x_1.snd.snd.fst ∧ x_1.snd.snd.fst < (↑v8 : Int) ∧ (0 : Int) ≤ x_1.snd.snd.fst ∧ x_1.snd.snd.fst < (↑v8 : Int) ∧ G_1 (List.set x_2.fst (Int.toNat x_1.snd.snd.fst) (IntKind.i64.wrap (rd i64 x_2.fst x_1.snd.snd.fst + v11)), Pl.subR x.snd.1 (Pl.timR v4 v11), ()))) n (x.1, (0 : Int), IntKind.i64.wrap ((↑(List.length x.snd.fst) : Int) - (1 : Int)), ())) (G (x.1, x.snd.1, IntKind.i64.wrap (x_1.snd.snd.fst - (1 : Int)), ()))) n (x_1.1, Pl.rtr (v7 :: [].append x_1.snd.1), ())) ((Pl.okL x_1.snd.1 ∧ (0 : Int) < IntKind.i64.wrap (Int.tdiv (1000000000 : Int) (IntKind.i64.wrap v2)) ∧ IntKind.i64.wrap (Int.tdiv (1000000000 : Int) (IntKind.i64.wrap v2)) ≤ (1000000000 : Int)) ∧ Pl.rgL x_1.1 ∧ (Pl.rtr x_1.1, Pl.smq x_1.snd.1 (IntKind.i64.wrap (Int.tdiv (1000000000 : Int) (IntKind.i64.wrap v2))), ()) = C78.post (x, y, ()))) n (List.replicate (↑v3.length : Int).toNat (0 : Int), [], IntKind.i64.wrap ((↑v3.length : Int) - (1 : Int)), ())) (by kernel_rfl) ?_
  have e : C78.post (x, y, ()) = (rn (nr x / nr y), rn (nr x % nr y), ()) := rfl
  rw [e]
  simp only at lx ly cx cy
  intro v1 v2 v3 v4 v5 v6
  have hyl := List.length_pos_iff.2 hy0
  obtain ⟨m, hm⟩ : ∃ m, y.length = m + 1 := ⟨y.length - 1, by omega⟩
  have h1 : IntKind.i64.wrap v1 = (m : Int) := by show IntKind.i64.wrap ((y.length : Int) - 1) = _; rw [wrap_i64 (by omega) (by omega)]; omega
  have wb := rngB cy.1 m
  have hbt : y.getD m 0 ≠ 0 := by
    rw [getD_get (by omega)]
    exact cy.2 _ (by rw [List.getLast?_eq_getElem?, show y.length - 1 = m by omega, List.getElem?_eq_getElem (by omega)])
  have h2 : v2 = y.getD m 0 + 1 := by show rd i64 y (IntKind.i64.wrap v1) + 1 = _; rw [h1]; rfl
  have h2' : IntKind.i64.wrap v2 = y.getD m 0 + 1 := by rw [h2, wrap_i64 (by omega) (by omega)]
  obtain ⟨b, hb⟩ : ∃ b : Nat, y.getD m 0 = (b : Int) := ⟨(y.getD m 0).toNat, by omega⟩
  rw [hb] at h2 h2' wb hbt
  obtain ⟨dN, hdN⟩ : ∃ dN : Nat, dN = 1000000000 / (b + 1) := ⟨_, rfl⟩
  have hd1 : 1 ≤ dN := by rw [hdN]; exact Nat.div_pos (by omega) (by omega)
  have hd2 : dN ≤ 1000000000 := by rw [hdN]; exact Nat.div_le_self _ _
  have h3 : IntKind.i64.wrap (Int.tdiv (1000000000 : Int) (IntKind.i64.wrap v2)) = (dN : Int) := by
    rw [h2', tdiv_nn (by decide)]
    have : (1000000000 : Int) / ((b : Int) + 1) = ((1000000000 / (b + 1) : Nat) : Int) := by rw [Int.natCast_ediv]; rfl
    rw [this, ← hdN, wrap_i64 (by omega) (by omega)]
  have hY : v4 = rn (nr y * dN) := by show timR y _ = _; rw [h3]; show rn (nr y * (dN : Int).toNat) = _; rw [Int.toNat_natCast]
  have hX : v3 = rn (nr x * dN) := by show timR x _ = _; rw [h3]; show rn (nr x * (dN : Int).toNat) = _; rw [Int.toNat_natCast]
  have hsmq : ∀ r : List Int, smq r (IntKind.i64.wrap (Int.tdiv (1000000000 : Int) (IntKind.i64.wrap v2))) = rn (nr r / dN) := fun r => by rw [h3]; show rn (nr r / (dN : Int).toNat) = _; rw [Int.toNat_natCast]
  have hyp : 0 < nr y := by
    rcases Nat.eq_zero_or_pos (nr y) with h | h
    · exact absurd ((nr_zero cy).1 h) hy0
    · exact h
  have nY : nr v4 = nr y * dN := by rw [hY, nr_rn]
  have nX : nr v3 = nr x * dN := by rw [hX, nr_rn]
  have hYp : 0 < nr v4 := by rw [nY]; exact Nat.mul_pos hyp hd1
  have dB : dN < BB ^ 1 ∨ dN = BB := by rw [Nat.pow_one, BB_eq]; omega
  have dB2 : dN < BB ^ 2 := by
    have : BB ^ 2 = 1000000000000000000 := by decide
    rw [this]; omega
  have cY : can BB v4 := by rw [hY]; exact rn_can _
  have cX : can BB v3 := by rw [hX]; exact rn_can _
  have lY : v4.length ≤ 5000002 := by rw [hY]; exact len_rn (Nat.lt_of_lt_of_le (mul_lt_B (nr_lt cy.1) dB2) (pow_le_B (by omega)))
  have lX : v3.length ≤ 5000002 := by rw [hX]; exact len_rn (Nat.lt_of_lt_of_le (mul_lt_B (nr_lt cx.1) dB2) (pow_le_B (by omega)))
  have hYne : v4 ≠ [] := fun h => by rw [h] at hYp; exact absurd hYp (by decide)
  have hYl := List.length_pos_iff.2 hYne
  obtain ⟨M, hM⟩ : ∃ M, v4.length = M + 1 := ⟨v4.length - 1, by omega⟩
  have h5 : IntKind.i64.wrap v5 = (M : Int) := by show IntKind.i64.wrap ((v4.length : Int) - 1) = _; rw [wrap_i64 (by omega) (by omega)]; omega
  have wt := rngB cY.1 M
  obtain ⟨t, ht⟩ : ∃ t : Nat, v4.getD M 0 = (t : Int) := ⟨(v4.getD M 0).toNat, by omega⟩
  have h6 : v6 = (t : Int) + 1 := by show rd i64 v4 (IntKind.i64.wrap v5) + 1 = _; rw [h5, ← ht]; rfl
  rw [ht] at wt
  have h6' : IntKind.i64.wrap v6 = ((t + 1 : Nat) : Int) := by rw [h6, wrap_i64 (by omega) (by omega)]; omega
  -- Y is less than (t + 1) B^M
  have hYt : nr v4 ≤ (t + 1) * BB ^ M := by
    have e1 : nr v4 = vl BB (v4.take M) + BB ^ M * (v4.getD M 0).toNat := top_split hM
    have e2 := vl_take_lt (show 0 < BB by decide) cY.1 M
    rw [ht, Int.toNat_natCast] at e1
    rw [e1, Nat.add_mul, Nat.one_mul, Nat.mul_comm t]
    omega
  have hYB : nr v4 < BB ^ (M + 1) := by have := nr_lt cY.1; rw [hM] at this; exact this
  rw [h3]
  clear_value v6 v5 v4 v3 v2 v1
  refine ⟨by rw [h1]; omega, by rw [h1]; omega, by rw [h2']; omega, ⟨okK_L ⟨cx, lx⟩, by omega, by omega⟩, ⟨okK_L ⟨cy, ly⟩, by omega, by omega⟩, by rw [h5]; omega, by rw [h5]; omega, by omega, rfl, by omega, ?_⟩
  rw [wrap_i64 (x := (v3.length : Int) - 1) (by omega) (by omega), Int.toNat_natCast]
  refine itl_rule (fun s => ∃ k : Nat, s.2.2.1 = (k : Int) - 1 ∧ k ≤ v3.length ∧ s.1.length = v3.length ∧ rng BB s.1 ∧ (∀ j, j < k → s.1.getD j 0 = 0) ∧ can BB s.2.1 ∧ nr s.2.1 < nr v4 ∧ vl BB (v3.drop k) = nr v4 * vl BB (s.1.drop k) + nr s.2.1)
    (fun s => (s.2.2.1 + 1).toNat) ⟨v3.length, rfl, Nat.le_refl _, by simp, rng_replicate (by decide), fun j _ => zero_replicate _ 0 j (Nat.zero_le _), ⟨rng_nil, fun d h => by simp at h⟩, (show nr [] < nr v4 from hYp), by simp [vl, nr]⟩ ?_
  rintro ⟨Q, r, i, ⟨⟩⟩ G ⟨k, hi, g1, g2, g3, g4, g5, g6, g7⟩ hG
  simp only at hi g2 g3 g4 g5 g6 g7
  subst hi
  simp -zeta only
  intro v7
  have hv7 : v7 = rd i64 v3 ((k : Int) - 1) := rfl
  clear_value v7
  have lr : r.length ≤ v4.length := len_le BB2 g5 (Nat.lt_trans g6 (nr_lt cY.1))
  refine Br_of (fun hb => ?_) (fun hb => ?_)
  · have hk : 0 < k := by have := of_decide_eq_true hb; omega
    obtain ⟨i, rfl⟩ : ∃ i, k = i + 1 := ⟨k - 1, by omega⟩
    have em : ((i + 1 : Nat) : Int) - 1 = (i : Int) := by omega
    rw [em] at hv7 ⊢
    have wx := rngB cX.1 i
    have hdrop : vl BB (v3.drop i) = (v3.getD i 0).toNat + BB * vl BB (v3.drop (i + 1)) := by rw [getD_get (by omega)]; exact vl_drop_cons (by omega)
    have hv7' : v7 = v3.getD i 0 := hv7
    subst hv7'
    have hrg : rng BB (v3.getD i 0 :: r) := rng_cons.2 ⟨by rw [show ((BB : Nat) : Int) = 1000000000 from rfl]; exact wx, g5.1⟩
    obtain ⟨R0, hR0⟩ : ∃ R0, R0 = (v3.getD i 0).toNat + BB * nr r := ⟨_, rfl⟩
    have hR0v : nr (v3.getD i 0 :: r) = R0 := by rw [hR0]; rfl
    have hR0lt : R0 < nr v4 * BB := by
      have e1 : (v3.getD i 0).toNat < BB := by rw [BB_eq]; omega
      have e2 := Nat.mul_le_mul_left BB (show nr r + 1 ≤ nr v4 from g6)
      rw [Nat.mul_add, Nat.mul_one] at e2
      rw [hR0, Nat.mul_comm (nr v4)]
      omega
    refine ⟨by omega, by omega, by simp only [List.length_singleton]; omega, ⟨hrg, by simp only [List.length_cons, List.append_eq, List.nil_append]; omega⟩, ?_⟩
    have hr0 : rtr (v3.getD i 0 :: List.append [] r) = rn R0 := by show rn (nr (v3.getD i 0 :: r)) = _; rw [hR0v]
    rw [hr0]
    refine itl_rule (fun s => ∃ c : Nat, s.1 = Q.set i (c : Int) ∧ can BB s.2.1 ∧ c * nr v4 + nr s.2.1 = R0) (fun s => nr s.2.1) ⟨0, ?_, rn_can _, by simp only; rw [nr_rn, Nat.zero_mul, Nat.zero_add]⟩ ?_
    · have h0 : Q.getD i 0 = 0 := g4 i (by omega)
      show Q = Q.set i 0
      rw [← h0, getD_get (by omega), List.set_getElem_self]
    rintro ⟨Q', R, ⟨⟩⟩ G1 ⟨c, u1, u2, u3⟩ hG1
    simp only at u1 u2 u3
    simp -zeta only
    have hcB : c < BB := digit_lt u3 hR0lt
    have hRle : nr R ≤ R0 := by rw [← u3]; exact Nat.le_add_left _ _
    have hRlt : nr R < BB ^ (M + 2) := by
      refine Nat.lt_of_le_of_lt hRle (Nat.lt_of_lt_of_le hR0lt ?_)
      rw [Nat.pow_succ]
      exact Nat.mul_le_mul_right _ (Nat.le_of_lt hYB)
    have lR : R.length ≤ M + 2 := len_le BB2 u2 hRlt
    refine ⟨⟨⟨u2, by omega⟩, cY, by omega⟩, Br_of (fun hc => ?_) (fun hc => ?_)⟩
    · have hge : nr v4 ≤ nr R := cmpR_ge.1 (of_decide_eq_true hc)
      have lRM : M + 1 ≤ R.length := by
        rcases Nat.lt_or_ge R.length (M + 1) with h | h
        · have := vl_cmp_len BB2 u2.1 cY (by omega)
          have e1 : vl BB R = nr R := rfl
          have e2 : vl BB v4 = nr v4 := rfl
          omega
        · exact h
      have hn2 : vl BB (R.drop M) < BB ^ 2 := by
        have h8 : BB ^ M * vl BB (R.drop M) ≤ nr R := vl_drop_le (by omega)
        have h9 : BB ^ M * vl BB (R.drop M) < BB ^ M * BB ^ 2 := by
          rw [← Nat.pow_add]; exact Nat.lt_of_le_of_lt h8 hRlt
        exact Nat.lt_of_mul_lt_mul_left h9
      have e18 : BB ^ 2 = 1000000000000000000 := by decide
      rw [e18] at hn2
      rw [wrap_i64 (x := (R.length : Int) - 1) (by omega) (by omega)]
      refine itl_rule (fun s => ∃ j : Nat, s.1 = Q' ∧ s.2.2.1 = (j : Int) - 1 ∧ M ≤ j ∧ j ≤ R.length ∧ s.2.1 = ((vl BB (R.drop j) : Nat) : Int)) (fun s => (s.2.2.1 + 1).toNat) ⟨R.length, rfl, rfl, by omega, Nat.le_refl _, by simp [vl]⟩ ?_
      rintro ⟨Q2, n, tt', ⟨⟩⟩ G2 ⟨j, w1, w2, w3, w4, w5⟩ hG2
      simp only at w1 w2 w5
      subst w1 w2 w5
      simp -zeta only
      intro v8 v9 v10 v11
      rw [h5]
      refine Br_of (fun hd => ?_) (fun hd => ?_)
      · have hj : M + 1 ≤ j := by have := of_decide_eq_true hd; omega
        obtain ⟨p, rfl⟩ : ∃ p, j = p + 1 := ⟨j - 1, by omega⟩
        have ep : ((p + 1 : Nat) : Int) - 1 = (p : Int) := by omega
        rw [ep]
        have wR := rngB u2.1 p
        have hrR : rd i64 R (p : Int) = R.getD p 0 := rfl
        have hdp : vl BB (R.drop p) = (R.getD p 0).toNat + BB * vl BB (R.drop (p + 1)) := by rw [getD_get (by omega)]; exact vl_drop_cons (by omega)
        have hle : vl BB (R.drop p) ≤ vl BB (R.drop M) := by
          have e0 : R.drop p = (R.drop M).drop (p - M) := by rw [List.drop_drop]; congr 1; omega
          rw [e0]
          refine Nat.le_trans (Nat.le_mul_of_pos_left _ (pow_B_pos (p - M))) (vl_drop_le (by rw [List.length_drop]; omega))
        have hdp' : vl BB (R.drop p) = (R.getD p 0).toNat + 1000000000 * vl BB (R.drop (p + 1)) := hdp
        have hw : IntKind.i64.wrap (IntKind.i64.wrap (((vl BB (R.drop (p + 1)) : Nat) : Int) * 1000000000) + R.getD p 0) = ((vl BB (R.drop p) : Nat) : Int) := by
          generalize vl BB (R.drop (p + 1)) = z1 at hdp' ⊢
          generalize vl BB (R.drop p) = z2 at hdp' hle ⊢
          generalize vl BB (R.drop M) = z3 at hle hn2
          rw [wrap_i64 (x := (z1 : Int) * 1000000000) (by omega) (by omega), wrap_i64 (by omega) (by omega)]
          omega
        rw [hrR, hw, wrap_i64 (x := (p : Int) - 1) (by omega) (by omega)]
        exact ⟨by omega, by omega, hG2 _ ⟨p, rfl, rfl, by omega, by omega, rfl⟩ (by simp only; omega)⟩
      · have hj : j = M := by have := of_decide_eq_false hd; omega
        subst hj
        have hv9 : v9 = ((vl BB (R.drop j) / (t + 1) : Nat) : Int) := by
          show Int.tdiv ((vl BB (R.drop j) : Nat) : Int) (IntKind.i64.wrap v6) = _
          rw [h6', tdiv_nn (Int.natCast_nonneg _), Int.natCast_ediv]
        obtain ⟨g, hg⟩ : ∃ g, g = vl BB (R.drop j) / (t + 1) := ⟨_, rfl⟩
        have hgY : g * nr v4 ≤ nr R := by rw [hg]; exact guess_le (B := BB) hYt (vl_drop_le (by omega))
        rw [← hg] at hv9
        have hg18 : g < 1000000000000000000 := by rw [hg]; exact Nat.lt_of_le_of_lt (Nat.div_le_self _ _) hn2
        have hv11 : ∃ n : Nat, v11 = (n : Int) ∧ 1 ≤ n ∧ n ≤ 1000000000 ∧ n * nr v4 ≤ nr R := by
          have hv9' : IntKind.i64.wrap v9 = (g : Int) := by rw [hv9, wrap_i64 (by omega) (by omega)]
          have e10 : v10 = if (g : Int) < 999999999 then (g : Int) else 999999999 := by
            show (if IntKind.i64.wrap v9 < (999999999 : Int) then IntKind.i64.wrap v9 else (999999999 : Int)) = _
            rw [hv9']
          have e11 : v11 = if v10 > (1 : Int) then v10 else (1 : Int) := rfl
          rw [e11]
          split
          · rename_i h8
            rw [e10] at h8 ⊢
            split
            · rename_i h9
              rw [if_pos h9] at h8
              exact ⟨g, rfl, by omega, by omega, hgY⟩
            · rename_i h9
              refine ⟨999999999, rfl, by decide, by decide, Nat.le_trans (Nat.mul_le_mul_right _ ?_) hgY⟩
              omega
          · exact ⟨1, rfl, Nat.le_refl _, by decide, by rw [Nat.one_mul]; exact hge⟩
        obtain ⟨n, hn, n1, n2, n3⟩ := hv11
        have hv8 : v8 = Q2.length := rfl
        clear_value v11 v10 v9 v8
        subst hn hv8
        have htm : timR v4 (n : Int) = rn (n * nr v4) := by show rn (nr v4 * (n : Int).toNat) = _; rw [Int.toNat_natCast, Nat.mul_comm]
        rw [htm]
        have hq1 := inner_q u3 n3
        have hcn : c + n < BB := digit_lt hq1 hR0lt
        have hcn' : c + n < 1000000000 := hcn
        have hQl : Q2.length = v3.length := by rw [u1, List.length_set]; exact g2
        have hrdQ : rd i64 Q2 (i : Int) = (c : Int) := by
          show Q2.getD i 0 = _
          rw [u1, getD_set, if_pos ⟨rfl, by omega⟩]
        rw [hrdQ, wrap_i64 (x := (c : Int) + (n : Int)) (by omega) (by omega), Int.toNat_natCast]
        refine ⟨by rw [h6']; omega, ⟨⟨cY, by omega⟩, by omega, by omega⟩, ⟨⟨u2, by omega⟩, okL_rn (Nat.lt_of_le_of_lt n3 hRlt) (by omega), by show nr (rn _) ≤ nr R; rw [nr_rn]; exact n3⟩, by omega, by omega, by omega, by omega, by omega, by omega, by omega, by omega, ?_⟩
        have hsub : subR R (rn (n * nr v4)) = rn (nr R - n * nr v4) := by show rn (nr R - nr (rn _)) = _; rw [nr_rn]
        rw [hsub]
        refine hG1 _ ⟨c + n, ?_, rn_can _, by simp only; rw [nr_rn]; exact hq1⟩ ?_
        · simp only
          rw [u1]
          show (Q.set i (c : Int)).set i ((c : Int) + (n : Int)) = Q.set i ((c + n : Nat) : Int)
          rw [List.set_set]; rfl
        · simp only
          rw [nr_rn]
          have : 1 * nr v4 ≤ n * nr v4 := Nat.mul_le_mul_right _ n1
          omega
    · have hlt : nr R < nr v4 := by
        have h8 := of_decide_eq_false hc
        rw [cmpR_ge] at h8
        omega
      rw [wrap_i64 (x := (i : Int) - 1) (by omega) (by omega)]
      have hcB' : c < 1000000000 := hcB
      refine hG _ ⟨i, rfl, by omega, by simp only; rw [u1, List.length_set]; exact g2, by simp only; rw [u1]; exact rng_set g3 ⟨by omega, by rw [show ((BB : Nat) : Int) = 1000000000 from rfl]; omega⟩, fun j hj => ?_, u2, hlt, ?_⟩ (by simp only; omega)
      · simp only
        rw [u1, getD_set, if_neg (by omega)]
        exact g4 j (by omega)
      · simp only
        have hlen : i < (Q.set i (c : Int)).length := by simp; omega
        rw [u1, hdrop, vl_drop_cons hlen]
        simp only [List.getElem_set_self]
        rw [List.drop_set_of_lt (by omega), Int.toNat_natCast]
        exact outer_q g7 (by rw [u3, hR0])
  · have hk : k = 0 := by have := of_decide_eq_false hb; omega
    subst hk
    simp only [List.drop_zero] at g7
    have gX : nr v3 = nr v4 * vl BB Q + nr r := g7
    have hq : nr x / nr y = vl BB Q := by
      have : nr v3 / nr v4 = vl BB Q := by rw [gX, Nat.mul_add_div hYp, Nat.div_eq_of_lt g6, Nat.add_zero]
      rw [← this, nX, nY, Nat.mul_div_mul_right _ _ hd1]
    have hr : nr r / dN = nr x % nr y := by
      have : nr v3 % nr v4 = nr r := by rw [gX, Nat.mul_add_mod, Nat.mod_eq_of_lt g6]
      rw [← this, nX, nY, Nat.mul_mod_mul_right, Nat.mul_div_cancel _ hd1]
    refine ⟨⟨⟨g5, by omega⟩, by omega, by omega⟩, ⟨g3, by omega⟩, ?_⟩
    show (rn (vl BB Q), rn (nr r / (dN : Int).toNat), ()) = _
    rw [Int.toNat_natCast, hq, hr]

end Ta
end
section
/- The reference's integers. -/
set_option linter.unusedVariables false
set_option linter.unusedSimpArgs false
set_option maxRecDepth 100000
namespace Ta
open Go Fw Go.Proofs Pl

theorem vc109 : ∀ x, C109.pre x → VC T109 H109 Tryz.f109 C109 x := by
  rintro ⟨(x : List Int), (y : List Int), ⟨⟩⟩ ⟨hx, hy⟩
  refine cast (α := ∃ (n : Nat), itl (fun (G : List Int × List Int × PUnit → Prop) (x_1 : List Int × List Int × PUnit) => Br (decide ((↑(List.length x_1.snd.fst) : Int) > (0 : Int))) ((Pl.okK x_1.1 ∧ Pl.okK x_1.snd.1 ∧ x_1.snd.1 ≠ []) ∧ G (x_1.snd.1, Pl.modR x_1.1 x_1.snd.1, ())) ((x_1.1, ()) = C109.post (x, y, ()))) n (x, y, ())) (by kernel_rfl) ?_
  have e : C109.post (x, y, ()) = (rn (Nat.gcd (nr x) (nr y)), ()) := rfl
  rw [e]
  refine itl_rule (fun s => okK s.1 ∧ okK s.2.1 ∧ Nat.gcd (nr s.1) (nr s.2.1) = Nat.gcd (nr x) (nr y)) (fun s => nr s.2.1) ⟨hx, hy, rfl⟩ ?_
  rintro ⟨a, b, ⟨⟩⟩ G ⟨ha, hb, hg⟩ hG
  simp only at ha hb hg
  simp only
  refine Br_of (fun h => ?_) (fun h => ?_)
  · have h0 : 0 < b.length := by have := of_decide_eq_true h; omega
    have hne := List.length_pos_iff.1 h0
    have hp : 0 < nr b := vl_pos BB2 hb.1 hne
    have hlt := Nat.mod_lt (nr a) hp
    have hok : okK (rn (nr a % nr b)) := ⟨rn_can _, Nat.le_trans (len_rn (Nat.lt_trans hlt (nr_lt hb.1.1))) hb.2⟩
    refine ⟨⟨ha, hb, hne⟩, hG _ ⟨hb, hok, ?_⟩ ?_⟩
    · show Nat.gcd (nr b) (nr (rn (nr a % nr b))) = _
      rw [nr_rn, Nat.gcd_comm, ← Nat.gcd_rec, Nat.gcd_comm]; exact hg
    · show nr (rn (nr a % nr b)) < nr b
      rw [nr_rn]; exact hlt
  · have h0 : b = [] := List.eq_nil_of_length_eq_zero (by have := of_decide_eq_false h; omega)
    subst h0
    rw [show nr [] = 0 from rfl, Nat.gcd_zero_right] at hg
    rw [← hg, rn_nr ha.1]

theorem padk_len : ∀ (k r : Nat), (padk k r).length = k
  | 0, _ => rfl
  | k + 1, r => by show (padk k (r / 10) ++ [_]).length = _; rw [List.length_append, padk_len k]; rfl
theorem BB_pow (m : Nat) : BB ^ m = 10 ^ (9 * m) := by rw [Nat.pow_mul]; rfl
def dl (v : Nat) : Nat := if v = 0 then 0 else (Lib.decDigits v).length
theorem dl_step {v : Nat} (h : 0 < v) : dl v = dl (v / 10) + 1 := by
  unfold dl
  rw [if_neg (by omega)]
  by_cases h1 : v < 10
  · rw [dec_small h1, if_pos (Nat.div_eq_of_lt h1)]; rfl
  · rw [dec_big h1, if_neg (by omega), List.length_append]; rfl
theorem vc57 : ∀ x, C57.pre x → VC T0 H57 Tryz.f57 C57 x := by
  rintro ⟨(x : List Int), ⟨⟩⟩ ⟨(cx : can BB x), (lx : x.length ≤ 10000000)⟩
  refine cast (α := Br ((↑x.length : Int) == (0 : Int)) (((1 : Int), ()) = C57.post (x, ())) ((0 : Int) ≤ IntKind.i64.wrap ((↑x.length : Int) - (1 : Int)) ∧ IntKind.i64.wrap ((↑x.length : Int) - (1 : Int)) < (↑x.length : Int) ∧ ∃ (n : Nat), itl (fun (G : Int × Int × PUnit → Prop) (x_1 : Int × Int × PUnit) => Br (decide (x_1.snd.fst > (0 : Int))) ((10 : Int) ≠ (0 : Int) ∧ G (IntKind.i64.wrap (x_1.fst + (1 : Int)), IntKind.i64.wrap (Int.tdiv x_1.snd.fst (10 : Int)), ())) ((x_1.fst, ()) = C57.post (x, ()))) n (IntKind.i64.wrap ((9 : Int) * IntKind.i64.wrap ((↑x.length : Int) - (1 : Int))), rd i64 x (IntKind.i64.wrap ((↑x.length : Int) - (1 : Int))), ()))) (by kernel_rfl) ?_
  have e : C57.post (x, ()) = ((((Lib.decDigits (nr x)).length : Nat) : Int), ()) := rfl
  rw [e]
  refine Br_of (fun h => ?_) (fun h => ?_)
  · have h0 : x = [] := List.eq_nil_of_length_eq_zero (by have : (x.length : Int) = 0 := by simpa using h
                                                          omega)
    subst h0
    rw [show nr [] = 0 from rfl, dec_small (by decide)]; rfl
  · have hne : x ≠ [] := fun h0 => by rw [h0] at h; cases h
    have hp := List.length_pos_iff.2 hne
    obtain ⟨m, hm⟩ : ∃ m, x.length = m + 1 := ⟨x.length - 1, by omega⟩
    have w1 : IntKind.i64.wrap ((x.length : Int) - 1) = (m : Int) := by rw [wrap_i64 (by omega) (by omega)]; omega
    rw [w1, wrap_i64 (x := 9 * (m : Int)) (by omega) (by omega), rdI]
    have wb := rngB cx.1 m
    have htop : x.getD m 0 ≠ 0 := by
      rw [getD_get (by omega)]
      exact cx.2 _ (by rw [List.getLast?_eq_getElem?, show x.length - 1 = m by omega, List.getElem?_eq_getElem (by omega)])
    obtain ⟨t, ht⟩ : ∃ t : Nat, x.getD m 0 = (t : Int) := ⟨(x.getD m 0).toNat, by omega⟩
    have hsp : nr x = vl BB (x.take m) + BB ^ m * t := by
      have := top_split (B := BB) hm
      rw [ht, Int.toNat_natCast] at this
      exact this
    have hlow := vl_take_lt (show 0 < BB by decide) cx.1 m
    have hdiv : nr x / 10 ^ (9 * m) = t := by
      rw [← BB_pow, hsp, Nat.add_mul_div_left _ _ (pow_B_pos m), Nat.div_eq_of_lt hlow, Nat.zero_add]
    have hlen : (Lib.decDigits (nr x)).length = 9 * m + dl t := by
      rw [dec_split (9 * m) (nr x) (by rw [hdiv]; omega), List.length_append, padk_len, hdiv]
      unfold dl
      rw [if_neg (by omega)]; omega
    rw [hlen, ht]
    rw [ht] at wb
    refine ⟨by omega, by omega, itl_rule (fun s => ∃ (a v : Nat), s.1 = (a : Int) ∧ s.2.1 = (v : Int) ∧ v < 1000000000 ∧ a ≤ 100000000000 - v ∧ a + dl v = 9 * m + dl t) (fun s => s.2.1.toNat) ⟨9 * m, t, by omega, rfl, by omega, by omega, rfl⟩ ?_⟩
    rintro ⟨a', v', ⟨⟩⟩ G ⟨a, v, h1, h2, h3, h4, h5⟩ hG
    simp only at h1 h2
    subst h1 h2
    simp only
    refine Br_of (fun hb => ⟨by decide, ?_⟩) (fun hb => ?_)
    · have hv : 0 < v := by have := of_decide_eq_true hb; omega
      have e1 : Int.tdiv (v : Int) 10 = ((v / 10 : Nat) : Int) := by rw [tdiv_nn (by omega)]; omega
      rw [e1, wrap_i64 (x := (a : Int) + 1) (by omega) (by omega), wrap_i64 (by omega) (by omega)]
      refine hG _ ⟨a + 1, v / 10, by simp only; omega, rfl, by omega, by omega, ?_⟩ (by simp only; omega)
      rw [dl_step hv] at h5; omega
    · have hv : v = 0 := by have := of_decide_eq_false hb; omega
      subst hv
      rw [show dl 0 = 0 from rfl] at h5
      rw [← h5]; rfl

theorem vc79 : ∀ x, C79.pre x → VC T0 H0 Tryz.f79 C79 x := by
  rintro ⟨(b : Bool), (x : List Int), ⟨⟩⟩ -
  refine cast (α := Br b (((decide ((↑x.length : Int) > (0 : Int)), x, ()), ()) = C79.post (b, x, ())) (((false, x, ()), ()) = C79.post (b, x, ()))) (by kernel_rfl) ?_
  have e : C79.post (b, x, ()) = ((b && decide (0 < (x.length : Int)), x, ()), ()) := rfl
  rw [e]
  cases b <;> rfl

/-! ### Signs -/
theorem zv_t (a : List Int) : zv (true, a, ()) = -((nr a : Nat) : Int) := rfl
theorem zv_f (a : List Int) : zv (false, a, ()) = ((nr a : Nat) : Int) := rfl
theorem natAbs_zv (z : Rv) : (zv z).natAbs = nr z.2.1 := by unfold zv; split <;> omega
theorem nr_pos {a : List Int} (h : can BB a) (h0 : a ≠ []) : 0 < nr a := vl_pos BB2 h h0
theorem rsg_mk {a : List Int} (h : can BB a) (s : Bool) : rsg s a = mkR (if s then -((nr a : Nat) : Int) else ((nr a : Nat) : Int)) := by
  have e : ((if s then -((nr a : Nat) : Int) else ((nr a : Nat) : Int))).natAbs = nr a := by split <;> omega
  unfold mkR rsg
  rw [e, rn_nr h]
  congr 1
  cases s with
  | false =>
    simp only [Bool.false_and, Bool.false_eq_true, if_false]
    exact (decide_eq_false (by omega)).symm
  | true =>
    simp only [Bool.true_and, if_true]
    have h1 : nr a = 0 ↔ a = [] := nr_zero h
    have h2 : a.length = 0 ↔ a = [] := List.length_eq_zero_iff
    refine decide_eq_decide.2 ⟨fun k => ?_, fun k => ?_⟩
    · rcases Nat.eq_zero_or_pos (nr a) with h3 | h3
      · have := h2.2 (h1.1 h3); omega
      · omega
    · rcases Nat.eq_zero_or_pos a.length with h3 | h3
      · have := h1.2 (h2.1 h3); omega
      · omega
theorem rsg_rn (k : Nat) (s : Bool) : rsg s (rn k) = mkR (if s then -((k : Nat) : Int) else ((k : Nat) : Int)) := by rw [rsg_mk (rn_can k), nr_rn]
theorem zv_mk (n : Int) : zv (mkR n) = n := by
  unfold zv mkR
  simp only [nr_rn]
  by_cases h : n < 0
  · rw [decide_eq_true h, if_pos rfl]; omega
  · rw [decide_eq_false h]; simp only [Bool.false_eq_true, if_false]; omega
theorem okZ_Y {z : Rv} (h : okZ z) : okY z := ⟨h.1, by have := h.2.1; omega, h.2.2⟩
theorem mk_zv {z : Rv} (h : okY z) : mkR (zv z) = z := by
  obtain ⟨s, a, ⟨⟩⟩ := z
  obtain ⟨h1, h2, h3⟩ := h
  have := rsg_mk h1 s
  have e : mkR (zv (s, a, ())) = rsg s a := by rw [this]; rfl
  rw [e]
  unfold rsg
  cases s with
  | false => rfl
  | true =>
    have h4 : 0 < a.length := List.length_pos_iff.2 (h3 rfl)
    rw [decide_eq_true (by omega)]; rfl
theorem ok_mk {n : Int} {k m : Nat} (h : n.natAbs < BB ^ k) (hk : k ≤ m) : can BB (mkR n).2.1 ∧ (mkR n).2.1.length ≤ m ∧ ((mkR n).1 = true → (mkR n).2.1 ≠ []) := by
  refine ⟨rn_can _, Nat.le_trans (len_rn h) hk, fun h1 => ?_⟩
  have h2 : n < 0 := of_decide_eq_true h1
  intro h3
  have h4 : rn n.natAbs = [] := h3
  have : nr (rn n.natAbs) = 0 := by rw [h4]; rfl
  rw [nr_rn] at this
  omega
theorem okZ_mk {n : Int} (k : Nat) (h : n.natAbs < BB ^ k) (hk : k ≤ 4000000) : okZ (mkR n) := ok_mk h hk
theorem okY_mk {n : Int} (k : Nat) (h : n.natAbs < BB ^ k) (hk : k ≤ 9000000) : okY (mkR n) := ok_mk h hk
def Pl.K4 : Nat := 4000000
theorem K4_eq : K4 = 4000000 := rfl
theorem okZ_abs {z : Rv} (h : okZ z) : (zv z).natAbs < BB ^ K4 := by
  rw [natAbs_zv]
  exact Nat.lt_of_lt_of_le (nr_lt h.1.1) (pow_le_B h.2.1)
theorem okZ_L {s : Bool} {a : List Int} (h : okZ (s, a, ())) : okL a := ⟨h.1, by have := h.2.1; simp only at this; omega⟩
theorem okZ_K {s : Bool} {a : List Int} (h : okZ (s, a, ())) : okK a := ⟨h.1, by have := h.2.1; simp only at this; omega⟩
theorem okZ_pos {a : List Int} (h : okZ (true, a, ())) : 0 < nr a := nr_pos h.1 (h.2.2 rfl)
theorem zv_nil {z : Rv} (h : okY z) : zv z = 0 ↔ z.2.1 = [] := by
  rw [← nr_zero h.1]
  have := natAbs_zv z
  omega
theorem mkR0 : mkR 0 = (false, [], ()) := rfl

theorem dg_step {B n : Nat} (hB : 2 ≤ B) (h : 0 < n) : dg B n = ((n % B : Nat) : Int) :: dg B (n / B) := by
  have hm := Nat.mod_lt n (show 0 < B by omega)
  have hd := Nat.mod_add_div n B
  have hc : can B (((n % B : Nat) : Int) :: dg B (n / B)) := by
    refine ⟨rng_cons.2 ⟨⟨by omega, by omega⟩, (can_dg hB _).1⟩, fun d h1 => ?_⟩
    by_cases h2 : n / B = 0
    · rw [h2, dg_zero] at h1
      simp at h1
      rw [h2] at hd
      omega
    · rw [List.getLast?_cons_of_ne_nil (fun h => h2 ((dg_nil hB).1 h))] at h1
      exact (can_dg hB _).2 d h1
  refine can_eq hB (can_dg hB n) hc ?_
  rw [vl_dg hB, vl_cons, vl_dg hB, Int.toNat_natCast, hd]
theorem vc69 : ∀ x, C69.pre x → VC T69 H69 Tryz.f69 C69 x := by
  rintro ⟨(n : Int), ⟨⟩⟩ ⟨(h1 : -9223372036854775808 ≤ n), (h2 : n < 9223372036854775808)⟩
  refine cast (α := Br (decide (n < (0 : Int))) (∃ (n_1 : Nat), itl (fun (G : (Bool × List Int × PUnit) × Int × List Int × PUnit → Prop) (x : (Bool × List Int × PUnit) × Int × List Int × PUnit) => Br (decide (x.snd.fst > (0 : Int))) ((1000000000 : Int) ≠ (0 : Int) ∧ ((↑(List.length x.snd.snd.fst) : Int) + (↑[IntKind.i64.wrap (Int.tmod x.snd.fst (1000000000 : Int))].length : Int)) * (8 : Int) ≤ (140737488355328 : Int) ∧ (1000000000 : Int) ≠ (0 : Int) ∧ G (x.fst, IntKind.u64.wrap (Int.tdiv x.snd.fst (1000000000 : Int)), List.append x.snd.snd.fst [IntKind.i64.wrap (Int.tmod x.snd.fst (1000000000 : Int))], ())) (True ∧ (Pl.rsg (decide (n < (0 : Int))) x.snd.snd.1, ()) = C69.post (n, ()))) n_1 ((false, [], ()), IntKind.u64.wrap ((0 : Int) - IntKind.u64.wrap n), [], ())) (∃ (n_1 : Nat), itl (fun (G : (Bool × List Int × PUnit) × Int × List Int × PUnit → Prop) (x : (Bool × List Int × PUnit) × Int × List Int × PUnit) => Br (decide (x.snd.fst > (0 : Int))) ((1000000000 : Int) ≠ (0 : Int) ∧ ((↑(List.length x.snd.snd.fst) : Int) + (↑[IntKind.i64.wrap (Int.tmod x.snd.fst (1000000000 : Int))].length : Int)) * (8 : Int) ≤ (140737488355328 : Int) ∧ (1000000000 : Int) ≠ (0 : Int) ∧ G (x.fst, IntKind.u64.wrap (Int.tdiv x.snd.fst (1000000000 : Int)), List.append x.snd.snd.fst [IntKind.i64.wrap (Int.tmod x.snd.fst (1000000000 : Int))], ())) (True ∧ (Pl.rsg (decide (n < (0 : Int))) x.snd.snd.1, ()) = C69.post (n, ()))) n_1 ((false, [], ()), IntKind.u64.wrap n, [], ()))) (by kernel_rfl) ?_
  have e : C69.post (n, ()) = (mkR n, ()) := rfl
  rw [e]
  have main : ∃ n_1 : Nat,
    itl
      (fun (G : (Bool × List Int × PUnit) × Int × List Int × PUnit → Prop)
          (x : (Bool × List Int × PUnit) × Int × List Int × PUnit) =>
        Br (decide (x.snd.fst > (0 : Int)))
          ((1000000000 : Int) ≠ (0 : Int) ∧
            (((List.length x.snd.snd.fst : Nat) : Int) +
                    (([IntKind.i64.wrap (Int.tmod x.snd.fst (1000000000 : Int))].length : Nat) : Int)) *
                  (8 : Int) ≤
                (140737488355328 : Int) ∧
              (1000000000 : Int) ≠ (0 : Int) ∧
                G
                  (x.fst, IntKind.u64.wrap (Int.tdiv x.snd.fst (1000000000 : Int)),
                    List.append x.snd.snd.fst [IntKind.i64.wrap (Int.tmod x.snd.fst (1000000000 : Int))], ()))
          (True ∧ (Pl.rsg (decide (n < (0 : Int))) x.snd.snd.1, ()) = (mkR n, ())))
      n_1 ((false, [], ()), ((n.natAbs : Nat) : Int), [], ()) := by
    have hl3 : (rn n.natAbs).length ≤ 3 := by
      refine len_rn ?_
      have : BB ^ 3 = 1000000000000000000000000000 := by decide
      rw [this]; omega
    refine itl_rule (fun s => ∃ u : Nat, s.2.1 = (u : Int) ∧ u < 18446744073709551616 ∧ s.2.2.1 ++ rn u = rn n.natAbs) (fun s => s.2.1.toNat) ⟨n.natAbs, rfl, by omega, rfl⟩ ?_
    rintro ⟨bx, u', out, ⟨⟩⟩ G ⟨u, hu, h3, h5⟩ hG
    simp only at hu h5
    subst hu
    simp only
    have hol : out.length ≤ 3 := by
      have := congrArg List.length h5
      rw [List.length_append] at this
      omega
    refine Br_of (fun hb => ⟨by decide, ?_⟩) (fun hb => ?_)
    · have hp : 0 < u := by have := of_decide_eq_true hb; omega
      have e1 : Int.tdiv (u : Int) 1000000000 = ((u / 1000000000 : Nat) : Int) := by rw [tdiv_nn (by omega)]; omega
      have e2 : Int.tmod (u : Int) 1000000000 = ((u % 1000000000 : Nat) : Int) := by rw [tmod_nn (by omega)]; omega
      rw [e1, e2, wrap_i64 (x := ((u % 1000000000 : Nat) : Int)) (by omega) (by omega), wrap_u64]
      have e3 : ((u / 1000000000 : Nat) : Int) % 18446744073709551616 = ((u / 1000000000 : Nat) : Int) := by omega
      rw [e3]
      refine ⟨by simp only [List.length_singleton]; omega, by decide, hG _ ⟨u / 1000000000, rfl, by omega, ?_⟩ (by simp only; omega)⟩
      simp only [List.append_eq]
      rw [← h5, List.append_assoc]
      congr 1
      show _ = dg BB u
      rw [dg_step BB2 hp]; rfl
    · have hp : u = 0 := by have := of_decide_eq_false hb; omega
      subst hp
      have h7 : out = rn n.natAbs := by rw [← h5]; exact (List.append_nil _).symm
      refine ⟨trivial, ?_⟩
      rw [h7, rsg_rn]
      congr 1
      congr 1
      by_cases hn : n < 0
      · rw [decide_eq_true hn, if_pos rfl]; omega
      · rw [decide_eq_false hn]; simp only [Bool.false_eq_true, if_false]; omega
  refine Br_of (fun hb => ?_) (fun hb => ?_)
  · have hn := of_decide_eq_true hb
    have e : IntKind.u64.wrap ((0 : Int) - IntKind.u64.wrap n) = ((n.natAbs : Nat) : Int) := by rw [wrap_u64, wrap_u64]; omega
    rw [e]; exact main
  · have hn := of_decide_eq_false hb
    have e : IntKind.u64.wrap n = ((n.natAbs : Nat) : Int) := by rw [wrap_u64]; omega
    rw [e]; exact main

theorem vc51 : ∀ x, C51.pre x → VC T69 H0 Tryz.f51 C51 x := by
  rintro ⟨⟨(s : Bool), (a : List Int), ⟨⟩⟩, ⟨⟩⟩ (h : okZ (s, a, ()))
  refine cast (α := True ∧ (Pl.rsg (!s) a, ()) = C51.post ((s, a, ()), ())) (by kernel_rfl) ?_
  refine ⟨trivial, ?_⟩
  show (rsg (!s) a, ()) = (mkR (-(zv (s, a, ()))), ())
  rw [rsg_mk h.1]
  cases s
  · rfl
  · rw [zv_t]; simp
theorem vc20 : ∀ x, C20.pre x → VC T0 H0 Tryz.f20 C20 x := by
  rintro ⟨⟨(s : Bool), (a : List Int), ⟨⟩⟩, ⟨⟩⟩ (h : okY (s, a, ()))
  refine cast (α := Br ((↑a.length : Int) == (0 : Int)) (((0 : Int), ()) = C20.post ((s, a, ()), ())) (Br s (((-1 : Int), ()) = C20.post ((s, a, ()), ())) (((1 : Int), ()) = C20.post ((s, a, ()), ())))) (by kernel_rfl) ?_
  have e : C20.post ((s, a, ()), ()) = (ordI (zv (s, a, ())) 0, ()) := rfl
  rw [e]
  refine Br_of (fun hb => ?_) (fun hb => Br_of (fun hs => ?_) (fun hs => ?_))
  · have h0 : a = [] := List.eq_nil_of_length_eq_zero (by have : (a.length : Int) = 0 := by simpa using hb
                                                          omega)
    rw [ordI_zero ((zv_nil h).2 h0)]
  · subst hs
    have hp := nr_pos h.1 (h.2.2 rfl)
    simp only at hp
    rw [ordI_neg (by rw [zv_t]; omega)]
  · subst hs
    have h0 : a ≠ [] := fun h0 => by rw [h0] at hb; cases hb
    have hp := nr_pos h.1 h0
    simp only at hp
    rw [ordI_pos (by rw [zv_f]; omega)]
theorem vc33 : ∀ x, C33.pre x → VC T33 H0 Tryz.f33 C33 x := by
  rintro ⟨⟨(s : Bool), (a : List Int), ⟨⟩⟩, ⟨(t : Bool), (b : List Int), ⟨⟩⟩, ⟨⟩⟩ ⟨(h : okZ (s, a, ())), (k : okZ (t, b, ()))⟩
  refine cast (α := Br (s == t) ((Pl.okL a ∧ Pl.okL b) ∧ True ∧ (Pl.rsg s (Pl.addR a b), ()) = C33.post ((s, a, ()), (t, b, ()), ())) ((Pl.okL a ∧ Pl.okL b) ∧ Br (decide (Pl.cmpR a b ≥ (0 : Int))) ((Pl.okL a ∧ Pl.okL b ∧ Pl.leR b a) ∧ True ∧ (Pl.rsg s (Pl.subR a b), ()) = C33.post ((s, a, ()), (t, b, ()), ())) ((Pl.okL b ∧ Pl.okL a ∧ Pl.leR a b) ∧ True ∧ (Pl.rsg t (Pl.subR b a), ()) = C33.post ((s, a, ()), (t, b, ()), ())))) (by kernel_rfl) ?_
  have e : C33.post ((s, a, ()), (t, b, ()), ()) = (mkR (zv (s, a, ()) + zv (t, b, ())), ()) := rfl
  rw [e]
  refine Br_of (fun hb => ⟨⟨okZ_L h, okZ_L k⟩, trivial, ?_⟩) (fun hb => ⟨⟨okZ_L h, okZ_L k⟩, Br_of (fun hc => ?_) (fun hc => ?_)⟩)
  · have hst : s = t := by simpa using hb
    subst hst
    show (rsg s (rn (nr a + nr b)), ()) = _
    rw [rsg_rn]
    cases s
    · rfl
    · rw [zv_t, zv_t]; simp only [if_true]; congr 2; omega
  · have hle : nr b ≤ nr a := cmpR_ge.1 (of_decide_eq_true hc)
    refine ⟨⟨okZ_L h, okZ_L k, hle⟩, trivial, ?_⟩
    show (rsg s (rn (nr a - nr b)), ()) = _
    rw [rsg_rn]
    cases s <;> cases t
    · cases hb
    · rw [zv_f, zv_t]; simp only [Bool.false_eq_true, if_false]; congr 2; omega
    · rw [zv_f, zv_t]; simp only [if_true]; congr 2; omega
    · cases hb
  · have hlt : ¬ nr b ≤ nr a := fun h => of_decide_eq_false hc (cmpR_ge.2 h)
    refine ⟨⟨okZ_L k, okZ_L h, by show nr a ≤ nr b; omega⟩, trivial, ?_⟩
    show (rsg t (rn (nr b - nr a)), ()) = _
    rw [rsg_rn]
    cases s <;> cases t
    · cases hb
    · rw [zv_f, zv_t]; simp only [if_true]; congr 2; omega
    · rw [zv_f, zv_t]; simp only [Bool.false_eq_true, if_false]; congr 2; omega
    · cases hb
theorem okZ_ng {z : Rv} (h : okZ z) : okZ (ngR z) := okZ_mk K4 (by rw [Int.natAbs_neg]; exact okZ_abs h) (by rw [K4_eq]; decide)
theorem zv_ng (z : Rv) : zv (ngR z) = -(zv z) := zv_mk _
theorem vc34 : ∀ x, C34.pre x → VC T34 H0 Tryz.f34 C34 x := by
  rintro ⟨⟨(s : Bool), (a : List Int), ⟨⟩⟩, ⟨(t : Bool), (b : List Int), ⟨⟩⟩, ⟨⟩⟩ ⟨(h : okZ (s, a, ())), (k : okZ (t, b, ()))⟩
  refine cast (α := Pl.okZ (t, b, ()) ∧ (Pl.okZ (s, a, ()) ∧ Pl.okZ (Pl.ngR (t, b, ()))) ∧ (Pl.adR (s, a, ()) (Pl.ngR (t, b, ())), ()) = C34.post ((s, a, ()), (t, b, ()), ())) (by kernel_rfl) ?_
  refine ⟨k, ⟨h, okZ_ng k⟩, ?_⟩
  show (mkR (zv (s, a, ()) + zv (ngR (t, b, ()))), ()) = (mkR (zv (s, a, ()) - zv (t, b, ())), ())
  rw [zv_ng, ← Int.sub_eq_add_neg]
theorem sgn_mul (s t : Bool) (A B : Nat) : (if (!(s == t)) = true then -((A * B : Nat) : Int) else ((A * B : Nat) : Int)) = (if s then -(A : Int) else (A : Int)) * (if t then -(B : Int) else (B : Int)) := by
  cases s <;> cases t <;> simp [Int.natCast_mul, Int.neg_mul, Int.mul_neg]
theorem vc35 : ∀ x, C35.pre x → VC T35 H0 Tryz.f35 C35 x := by
  rintro ⟨⟨(s : Bool), (a : List Int), ⟨⟩⟩, ⟨(t : Bool), (b : List Int), ⟨⟩⟩, ⟨⟩⟩ ⟨(h : okZ (s, a, ())), (k : okZ (t, b, ()))⟩
  refine cast (α := (Pl.okL a ∧ Pl.okL b) ∧ True ∧ (Pl.rsg (!s == t) (Pl.mulR a b), ()) = C35.post ((s, a, ()), (t, b, ()), ())) (by kernel_rfl) ?_
  refine ⟨⟨okZ_L h, okZ_L k⟩, trivial, ?_⟩
  show (rsg (!(s == t)) (rn (nr a * nr b)), ()) = (mkR (zv (s, a, ()) * zv (t, b, ())), ())
  rw [rsg_rn, sgn_mul]; rfl
theorem zv_su (x y : Rv) : zv (suR x y) = zv x - zv y := zv_mk _
theorem ordI_sub (x y : Int) : ordI (x - y) 0 = ordI x y := by
  unfold ordI
  by_cases h : x < y
  · rw [if_pos (by omega), if_pos h]
  · rw [if_neg (by omega), if_neg h]
    by_cases h' : y < x
    · rw [if_pos (by omega), if_pos h']
    · rw [if_neg (by omega), if_neg h']
theorem vc53 : ∀ x, C53.pre x → VC T53 H0 Tryz.f53 C53 x := by
  rintro ⟨⟨(s : Bool), (a : List Int), ⟨⟩⟩, ⟨(t : Bool), (b : List Int), ⟨⟩⟩, ⟨⟩⟩ ⟨(h : okZ (s, a, ())), (k : okZ (t, b, ()))⟩
  refine cast (α := (Pl.okZ (s, a, ()) ∧ Pl.okZ (t, b, ())) ∧ Pl.okY (Pl.suR (s, a, ()) (t, b, ())) ∧ (Pl.sgR (Pl.suR (s, a, ()) (t, b, ())), ()) = C53.post ((s, a, ()), (t, b, ()), ())) (by kernel_rfl) ?_
  refine ⟨⟨h, k⟩, okY_mk (K4 + 1) ?_ (by rw [K4_eq]; decide), ?_⟩
  · have := add_lt_B (okZ_abs h) (okZ_abs k); omega
  · show (ordI (zv (suR (s, a, ()) (t, b, ()))) 0, ()) = (ordI (zv (s, a, ())) (zv (t, b, ())), ())
    rw [zv_su, ordI_sub]
theorem sgn_div (s t : Bool) (A B : Nat) : (if (!(s == t)) = true then -((A / B : Nat) : Int) else ((A / B : Nat) : Int)) = (if s then -(A : Int) else (A : Int)).tdiv (if t then -(B : Int) else (B : Int)) := by
  have e : (A : Int).tdiv (B : Int) = ((A / B : Nat) : Int) := rfl
  cases s <;> cases t <;> simp [Int.neg_tdiv, Int.tdiv_neg, e]
theorem vc86 : ∀ x, C86.pre x → VC T86 H0 Tryz.f86 C86 x := by
  rintro ⟨⟨(s : Bool), (a : List Int), ⟨⟩⟩, ⟨(t : Bool), (b : List Int), ⟨⟩⟩, ⟨⟩⟩ ⟨(h : okZ (s, a, ())), (k : okZ (t, b, ())), (hb : b ≠ [])⟩
  refine cast (α := (Pl.okK a ∧ Pl.okK b ∧ b ≠ []) ∧ True ∧ (Pl.rsg (!s == t) (Pl.divR a b), ()) = C86.post ((s, a, ()), (t, b, ()), ())) (by kernel_rfl) ?_
  refine ⟨⟨okZ_K h, okZ_K k, hb⟩, trivial, ?_⟩
  show (rsg (!(s == t)) (rn (nr a / nr b)), ()) = (mkR ((zv (s, a, ())).tdiv (zv (t, b, ()))), ())
  rw [rsg_rn, sgn_div]; rfl
theorem vc55 : ∀ x, C55.pre x → VC T55 H0 Tryz.f55 C55 x := by
  rintro ⟨⟨(s : Bool), (a : List Int), ⟨⟩⟩, ⟨(t : Bool), (b : List Int), ⟨⟩⟩, ⟨⟩⟩ ⟨(h : okZ (s, a, ())), (k : okZ (t, b, ()))⟩
  refine cast (α := (Pl.okK a ∧ Pl.okK b) ∧ True ∧ (Pl.rsg false (Pl.gcdR a b), ()) = C55.post ((s, a, ()), (t, b, ()), ())) (by kernel_rfl) ?_
  refine ⟨⟨okZ_K h, okZ_K k⟩, trivial, ?_⟩
  show (rsg false (rn (Nat.gcd (nr a) (nr b))), ()) = _
  rw [rsg_rn]; rfl

theorem vc22 : ∀ x, C22.pre x → VC T22 H0 Tryz.f22 C22 x := by
  rintro ⟨⟨(s : Bool), (a : List Int), ⟨⟩⟩, ⟨(t : Bool), (b : List Int), ⟨⟩⟩, ⟨⟩⟩ ⟨(h : okZ (s, a, ())), (k : okZ (t, b, ())), (hb : b ≠ [])⟩
  refine cast (α := (Pl.okK a ∧ Pl.okK b ∧ b ≠ []) ∧ Br (!s) (True ∧ True ∧ (Pl.rsg (!s == t) (Pl.divR a b), Pl.rsg false (Pl.modR a b), ()) = C22.post ((s, a, ()), (t, b, ()), ())) (Br ((↑(Pl.modR a b).length : Int) == (0 : Int)) (True ∧ True ∧ (Pl.rsg (!s == t) (Pl.divR a b), Pl.rsg false (Pl.modR a b), ()) = C22.post ((s, a, ()), (t, b, ()), ())) ((Pl.okL (Pl.divR a b) ∧ Pl.okL [(1 : Int)]) ∧ True ∧ (Pl.okL b ∧ Pl.okL (Pl.modR a b) ∧ Pl.leR (Pl.modR a b) b) ∧ True ∧ (Pl.rsg (!s == t) (Pl.addR (Pl.divR a b) [(1 : Int)]), Pl.rsg false (Pl.subR b (Pl.modR a b)), ()) = C22.post ((s, a, ()), (t, b, ()), ())))) (by kernel_rfl) ?_
  have e : C22.post ((s, a, ()), (t, b, ()), ()) = (mkR (zv (s, a, ()) / zv (t, b, ())), mkR (zv (s, a, ()) % zv (t, b, ())), ()) := rfl
  rw [e]
  have e1 : divR a b = rn (nr a / nr b) := rfl
  have e2 : modR a b = rn (nr a % nr b) := rfl
  have hp : 0 < nr b := nr_pos k.1 hb
  have hm := Nat.mod_lt (nr a) hp
  have hd := Nat.div_add_mod (nr a) (nr b)
  have ha := nr_lt h.1.1
  have hbl := nr_lt k.1.1
  have la := h.2.1
  have lb := k.2.1
  simp only at ha hbl la lb
  have hqa : nr a / nr b ≤ nr a := Nat.div_le_self _ _
  have sq : ∀ (q : Int) (u : Bool), (if (u == false) = true then q else -q) = (if u then -q else q) := fun q u => by cases u <;> rfl
  -- b's sign
  have hdv : ∀ q r : Int, zv (s, a, ()) = ((nr b : Nat) : Int) * q + r → 0 ≤ r → r < ((nr b : Nat) : Int) → zv (s, a, ()) / zv (t, b, ()) = (if t then -q else q) ∧ zv (s, a, ()) % zv (t, b, ()) = r := by
    intro q r h1 h2 h3
    obtain ⟨k1, k2⟩ := divmod_of (x := zv (s, a, ())) (y := ((nr b : Nat) : Int)) (q := q) (r := r) (by omega) (by omega) h2 h3
    cases t with
    | false => rw [zv_f]; exact ⟨k1, k2⟩
    | true => rw [zv_t, Int.ediv_neg, Int.emod_neg]; exact ⟨by rw [k1]; rfl, k2⟩
  have first : nr a % nr b = 0 ∨ s = false → (rsg (!(s == t)) (divR a b), rsg false (modR a b), ()) = (mkR (zv (s, a, ()) / zv (t, b, ())), mkR (zv (s, a, ()) % zv (t, b, ())), ()) := by
    intro hor
    rw [e1, e2, rsg_rn, rsg_rn]
    have hcast : ((nr a : Nat) : Int) = ((nr b : Nat) : Int) * ((nr a / nr b : Nat) : Int) + ((nr a % nr b : Nat) : Int) := by rw [← Int.natCast_mul, ← Int.natCast_add, hd]
    cases s with
    | false =>
      obtain ⟨k1, k2⟩ := hdv ((nr a / nr b : Nat) : Int) ((nr a % nr b : Nat) : Int) (by rw [zv_f]; exact hcast) (by omega) (by omega)
      rw [k1, k2]
      cases t <;> rfl
    | true =>
      have hr0 : nr a % nr b = 0 := by
        rcases hor with h | h
        · exact h
        · cases h
      rw [hr0] at hcast ⊢
      obtain ⟨k1, k2⟩ := hdv (-((nr a / nr b : Nat) : Int)) 0 (by rw [zv_t, Int.mul_neg]; omega) (Int.le_refl _) (by omega)
      rw [k1, k2]
      cases t
      · rfl
      · simp
  refine ⟨⟨okZ_K h, okZ_K k, hb⟩, Br_of (fun hs => ⟨trivial, trivial, first (.inr (by simpa using hs))⟩) (fun hs => Br_of (fun hc => ⟨trivial, trivial, first (.inl ?_)⟩) (fun hc => ?_))⟩
  · have h0 : modR a b = [] := List.eq_nil_of_length_eq_zero (by have : ((modR a b).length : Int) = 0 := by simpa using hc
                                                                 omega)
    have := (nr_zero (rn_can (nr a % nr b))).2 h0
    rwa [nr_rn] at this
  · have hst : s = true := by simpa using hs
    subst hst
    have h0 : nr a % nr b ≠ 0 := fun h1 => by
      have : modR a b = [] := by rw [e2, h1]; rfl
      rw [this] at hc; cases hc
    have hcast : ((nr a : Nat) : Int) = ((nr b : Nat) : Int) * ((nr a / nr b : Nat) : Int) + ((nr a % nr b : Nat) : Int) := by rw [← Int.natCast_mul, ← Int.natCast_add, hd]
    obtain ⟨k1, k2⟩ := hdv (-((nr a / nr b + 1 : Nat) : Int)) ((nr b - nr a % nr b : Nat) : Int) (by rw [zv_t, Int.mul_neg, Int.natCast_add, Int.mul_add]; omega) (by omega) (by omega)
    have o1 : okL (divR a b) := by rw [e1]; exact okL_rn (Nat.lt_of_le_of_lt hqa ha) (by omega)
    have o2 : okL (modR a b) := by rw [e2]; exact okL_rn (Nat.lt_trans hm hbl) (by omega)
    have o3 : okL [(1 : Int)] := ⟨⟨rng_cons.2 ⟨⟨by decide, by decide⟩, rng_nil⟩, fun d hd => by simp at hd; omega⟩, by decide⟩
    have ea : addR (divR a b) [(1 : Int)] = rn (nr a / nr b + 1) := by rw [e1]; show rn (nr (rn _) + 1) = _; rw [nr_rn]
    have es : subR b (modR a b) = rn (nr b - nr a % nr b) := by rw [e2]; show rn (nr b - nr (rn _)) = _; rw [nr_rn]
    refine ⟨⟨o1, o3⟩, trivial, ⟨okZ_L k, o2, by rw [e2]; show nr (rn _) ≤ nr b; rw [nr_rn]; omega⟩, trivial, ?_⟩
    rw [ea, es, rsg_rn, rsg_rn, k1, k2]
    cases t
    · rfl
    · simp

end Ta
end
section
/- Fractions: lowest terms, sums, products, quotients. -/
set_option linter.unusedVariables false
set_option linter.unusedSimpArgs false
set_option maxRecDepth 100000
namespace Ta
open Go Fw Go.Proofs Pl

/-! ### Plain laws of fractions -/
theorem num_mk {n : Int} {d : Nat} (h : Nat.gcd n.natAbs (d + 1) = 1) : (mkRat n (d + 1)).num = n ∧ (mkRat n (d + 1)).den = d + 1 := by
  have e : mkRat n (d + 1) = Rat.divInt n ((d + 1 : Nat) : Int) := (Rat.divInt_ofNat n (d + 1)).symm
  have hg : Int.gcd ((d + 1 : Nat) : Int) n = 1 := by
    show Nat.gcd (d + 1) n.natAbs = 1
    rw [Nat.gcd_comm]; exact h
  rw [e]
  constructor
  · rw [Rat.num_divInt, hg]
    have : Int.sign ((d + 1 : Nat) : Int) = 1 := Int.sign_eq_one_of_pos (by omega)
    rw [this, Int.one_mul]; exact Int.ediv_one _
  · rw [Rat.den_divInt, hg, if_neg (by omega)]; omega
theorem qv_num {n : Nat} {q : Qv} (h : okQn n q) : (qv q).num = iv q.1 ∧ (qv q).den = nt q.2.1 + 1 := num_mk (by rw [natAbs_iv]; exact h.2.2.2.2)
theorem mkQ_qv {n : Nat} {q : Qv} (h : okQn n q) : mkQ (qv q) = q := by
  obtain ⟨h1, h2⟩ := qv_num h
  unfold mkQ
  rw [h1, h2, mk_iv h.1, Nat.add_sub_cancel, can_tn' h.2.1]
theorem qv_mkQ (r : Rat) : qv (mkQ r) = r := by
  unfold qv mkQ
  simp only [iv_mk, nt_tn]
  rw [Nat.sub_add_cancel r.den_pos, Rat.mkRat_self]
theorem iv_mkQ (r : Rat) : iv (mkQ r).1 = r.num := iv_mk _
theorem nt_mkQ (r : Rat) : nt (mkQ r).2.1 + 1 = r.den := by
  show nt (tn (r.den - 1)) + 1 = _
  rw [nt_tn, Nat.sub_add_cancel r.den_pos]
theorem okQ_mk {r : Rat} {k n : Nat} (h : r.num.natAbs < W ^ k) (h' : r.den ≤ W ^ k) (hk : k ≤ n) (hn : n ≤ 10000000) : okQn n (mkQ r) := by
  have hd := r.den_pos
  refine ⟨okI_mk h (by omega), tn_can _, Nat.le_trans (len_tn h) hk, Nat.le_trans (len_tn (k := k) (by omega)) hk, ?_⟩
  have e1 : nt (mkQ r).1.1 = r.num.natAbs := by show nt (tn r.num.natAbs) = _; rw [nt_tn]
  rw [e1, nt_mkQ]
  exact r.reduced
theorem okI_mk' {n : Int} (k : Nat) (h : n.natAbs < W ^ k) (hk : k ≤ 10000000) : okI (mkI n) := okI_mk h hk
theorem okQ_len {n : Nat} {q : Qv} (h : okQn n q) : (iv q.1).natAbs < W ^ n ∧ nt q.2.1 + 1 ≤ W ^ n := by
  have h1 := nt_lt h.1.1
  have h2 := nt_lt h.2.1
  have h3 := pow_le_W h.2.2.1
  have h4 := pow_le_W h.2.2.2.1
  rw [natAbs_iv]
  omega
theorem dn_val (q : Qv) : iv (dnI q) = ((nt q.2.1 + 1 : Nat) : Int) := iv_mk _
theorem dn_qv {n : Nat} {q : Qv} (h : okQn n q) : iv (dnI q) = ((qv q).den : Int) := by rw [dn_val, (qv_num h).2]
theorem divInt_bound {a b : Int} (hb : b ≠ 0) : (Rat.divInt a b).num.natAbs ≤ a.natAbs ∧ (Rat.divInt a b).den ≤ b.natAbs := by
  constructor
  · rw [Rat.num_divInt, Int.natAbs_ediv_of_dvd (Int.dvd_mul_of_dvd_right (Int.gcd_dvd_right ..))]
    refine Nat.le_trans (Nat.div_le_self _ _) ?_
    rw [Int.natAbs_mul]
    have : (Int.sign b).natAbs = 1 := Int.natAbs_sign_of_ne_zero hb
    rw [this, Nat.one_mul]; exact Nat.le_refl _
  · rw [Rat.den_divInt, if_neg hb]
    exact Nat.div_le_self _ _
theorem okQ_div {a b : Int} {k n : Nat} (hb : b ≠ 0) (h1 : a.natAbs < W ^ k) (h2 : b.natAbs ≤ W ^ k) (hk : k ≤ n) (hn : n ≤ 10000000) : okQn n (mkQ (Rat.divInt a b)) := by
  obtain ⟨k1, k2⟩ := divInt_bound (a := a) hb
  exact okQ_mk (Nat.lt_of_le_of_lt k1 h1) (Nat.le_trans k2 h2) hk hn
theorem big_dn (q : Qv) : big (dnI q).1 = bigI ((nt q.2.1 + 1 : Nat) : Int) := big_mk _
theorem big_iv (z : Zv) : big z.1 = bigI (iv z) := by unfold big bigI; rw [natAbs_iv]
theorem big2_qv {n : Nat} {q : Qv} (h : okQn n q) : big2 q = bigQ (qv q) := by
  obtain ⟨h1, h2⟩ := qv_num h
  unfold big2 bigQ
  rw [h1, h2, big_dn, big_iv]
theorem big2_mk (r : Rat) : big2 (mkQ r) = bigQ r := by
  unfold big2 bigQ
  rw [big_dn, big_iv, iv_mkQ, nt_mkQ]

/-! ### The functions -/
theorem okQn_R {n : Nat} {q : Qv} (hn : n ≤ 100000000) (h : okQn n q) : rgN q.2.1 := ⟨h.2.1.1, by have := h.2.2.2.1; unfold LEN; omega⟩
theorem rgN_one : rgN (tnI 1) := okN_rng (okN_tn (n := 1) (k := 1) (by decide) (by decide))
theorem addN_one (b : List Int) : addN b (tnI 1) = tn (nt b + 1) := by
  show tn (nt b + nt (tn 1)) = _
  rw [nt_tn]
theorem vc83 : ∀ x, C83.pre x → VC T83 H0 Tryz.f83 C83 x := by
  rintro ⟨⟨⟨(a : List Int), (s : Bool), ⟨⟩⟩, (b : List Int), ⟨⟩⟩, ⟨⟩⟩ (h : okQn 9000000 ((a, s, ()), b, ()))
  refine cast (α := ((0 : Int) ≤ (1 : Int) ∧ (1 : Int) < (18446744073709551616 : Int)) ∧ (Pl.rgN b ∧ Pl.rgN (Pl.tnI (1 : Int))) ∧ True ∧ (Pl.sgn (Pl.addN b (Pl.tnI (1 : Int))) false, ()) = C83.post (((a, s, ()), b, ()), ())) (by kernel_rfl) ?_
  refine ⟨⟨by decide, by decide⟩, ⟨okQn_R (by decide) h, rgN_one⟩, trivial, ?_⟩
  show (sgn (addN b (tnI 1)) false, ()) = (mkI ((nt b + 1 : Nat) : Int), ())
  rw [addN_one, sgn_tn]; rfl

theorem lo_all {z y : Zv} (hz : okI z) (hy : okI y) (hp : 0 < iv y) :
    (okM z.1 ∧ okM y.1) ∧ (okM z.1 ∧ okM (gcdN z.1 y.1) ∧ gcdN z.1 y.1 ≠ []) ∧ (okM y.1 ∧ okM (gcdN z.1 y.1) ∧ gcdN z.1 y.1 ≠ []) ∧ True ∧ ((0 : Int) ≤ (1 : Int) ∧ (1 : Int) < (18446744073709551616 : Int)) ∧
      (okN (quoN y.1 (gcdN z.1 y.1)) ∧ okN (tnI (1 : Int)) ∧ leN (tnI (1 : Int)) (quoN y.1 (gcdN z.1 y.1))) ∧
      ((sgn (quoN z.1 (gcdN z.1 y.1)) z.2.1, subN (quoN y.1 (gcdN z.1 y.1)) (tnI (1 : Int)), ()), ()) = (mkQ (Rat.divInt (iv z) (iv y)), ()) := by
  obtain ⟨b, t, ⟨⟩⟩ := y
  have ht : t = false := by
    cases t with
    | false => rfl
    | true => rw [iv_t] at hp; omega
  subst ht
  obtain ⟨a, s, ⟨⟩⟩ := z
  rw [iv_f] at hp
  have hb : 0 < nt b := by omega
  have hg : 0 < Nat.gcd (nt a) (nt b) := Nat.gcd_pos_of_pos_right _ hb
  have hgb : Nat.gcd (nt a) (nt b) ≤ nt b := Nat.gcd_le_right _ hb
  have e1 : gcdN a b = tn (Nat.gcd (nt a) (nt b)) := rfl
  have e2 : quoN b (gcdN a b) = tn (nt b / Nat.gcd (nt a) (nt b)) := by rw [e1]; show tn (nt b / nt (tn _)) = _; rw [nt_tn]
  have e3 : quoN a (gcdN a b) = tn (nt a / Nat.gcd (nt a) (nt b)) := by rw [e1]; show tn (nt a / nt (tn _)) = _; rw [nt_tn]
  have hbl := okI_lt hy
  simp only at hbl
  have hgo : okM (gcdN a b) := by rw [e1]; exact okM_tn (k := KI) (Nat.lt_of_le_of_lt hgb hbl) (by rw [KI_eq]; decide)
  have hgn : gcdN a b ≠ [] := fun h => by
    have : nt (gcdN a b) = 0 := by rw [h]; rfl
    rw [e1, nt_tn] at this; omega
  have hdp : 0 < nt b / Nat.gcd (nt a) (nt b) := Nat.div_pos hgb hg
  refine ⟨⟨okI_M hz, okI_M hy⟩, ⟨okI_M hz, hgo, hgn⟩, ⟨okI_M hy, hgo, hgn⟩, trivial, ⟨by decide, by decide⟩, ⟨?_, okN_tn (n := 1) (k := 1) (by decide) (by decide), ?_⟩, ?_⟩
  · rw [e2]; exact okN_tn (k := KI) (Nat.lt_of_le_of_lt (Nat.div_le_self _ _) hbl) (by rw [KI_eq]; decide)
  · rw [e2]
    show nt (tn 1) ≤ nt (tn _)
    rw [nt_tn, nt_tn]; exact hdp
  · rw [e2, e3, sgn_tn]
    have hsb : subN (tn (nt b / Nat.gcd (nt a) (nt b))) (tnI 1) = tn (nt b / Nat.gcd (nt a) (nt b) - 1) := by
      show tn (nt (tn _) - nt (tn 1)) = _
      rw [nt_tn, nt_tn]
    rw [hsb, iv_f]
    unfold mkQ
    have hgc : Int.gcd ((nt b : Nat) : Int) (iv (a, s, ())) = Nat.gcd (nt a) (nt b) := by
      show Nat.gcd (((nt b : Nat) : Int).natAbs) ((iv (a, s, ())).natAbs) = _
      rw [natAbs_iv, Int.natAbs_natCast, Nat.gcd_comm]
    have hd : (Rat.divInt (iv (a, s, ())) ((nt b : Nat) : Int)).den = nt b / Nat.gcd (nt a) (nt b) := by
      rw [Rat.den_divInt, hgc, if_neg (by omega), Int.natAbs_natCast]
    have hn : (Rat.divInt (iv (a, s, ())) ((nt b : Nat) : Int)).num = if s = true then -((nt a / Nat.gcd (nt a) (nt b) : Nat) : Int) else ((nt a / Nat.gcd (nt a) (nt b) : Nat) : Int) := by
      rw [Rat.num_divInt, hgc]
      have : Int.sign ((nt b : Nat) : Int) = 1 := Int.sign_eq_one_of_pos (by omega)
      rw [this, Int.one_mul]
      cases s with
      | false => rw [iv_f]; simp only [Bool.false_eq_true, if_false]; exact (Int.natCast_ediv _ _).symm
      | true =>
        rw [iv_t, if_pos rfl, Int.neg_ediv_of_dvd (Int.natCast_dvd_natCast.2 (Nat.gcd_dvd_left _ _)), Int.natCast_ediv]
    rw [hd, hn]

theorem vc85 : ∀ x, C85.pre x → VC T85 H0 Tryz.f85 C85 x := by
  rintro ⟨⟨(a : List Int), (s : Bool), ⟨⟩⟩, ⟨(b : List Int), (t : Bool), ⟨⟩⟩, ⟨⟩⟩ ⟨(h : okI (a, s, ())), (k : okI (b, t, ())), (hb : b ≠ [])⟩
  refine cast (α := Br t (Pl.okI (a, s, ()) ∧ Pl.okI (b, t, ()) ∧ (Pl.okM (Pl.ngI (a, s, ())).1 ∧ Pl.okM (Pl.ngI (b, t, ())).1) ∧ (Pl.okM (Pl.ngI (a, s, ())).1 ∧ Pl.okM (Pl.gcdN (Pl.ngI (a, s, ())).1 (Pl.ngI (b, t, ())).1) ∧ Pl.gcdN (Pl.ngI (a, s, ())).1 (Pl.ngI (b, t, ())).1 ≠ []) ∧ (Pl.okM (Pl.ngI (b, t, ())).1 ∧ Pl.okM (Pl.gcdN (Pl.ngI (a, s, ())).1 (Pl.ngI (b, t, ())).1) ∧ Pl.gcdN (Pl.ngI (a, s, ())).1 (Pl.ngI (b, t, ())).1 ≠ []) ∧ True ∧ ((0 : Int) ≤ (1 : Int) ∧ (1 : Int) < (18446744073709551616 : Int)) ∧ (Pl.okN (Pl.quoN (Pl.ngI (b, t, ())).1 (Pl.gcdN (Pl.ngI (a, s, ())).1 (Pl.ngI (b, t, ())).1)) ∧ Pl.okN (Pl.tnI (1 : Int)) ∧ Pl.leN (Pl.tnI (1 : Int)) (Pl.quoN (Pl.ngI (b, t, ())).1 (Pl.gcdN (Pl.ngI (a, s, ())).1 (Pl.ngI (b, t, ())).1))) ∧ ((Pl.sgn (Pl.quoN (Pl.ngI (a, s, ())).1 (Pl.gcdN (Pl.ngI (a, s, ())).1 (Pl.ngI (b, t, ())).1)) (Pl.ngI (a, s, ())).snd.fst, Pl.subN (Pl.quoN (Pl.ngI (b, t, ())).1 (Pl.gcdN (Pl.ngI (a, s, ())).1 (Pl.ngI (b, t, ())).1)) (Pl.tnI (1 : Int)), ()), ()) = C85.post ((a, s, ()), (b, t, ()), ())) ((Pl.okM a ∧ Pl.okM b) ∧ (Pl.okM a ∧ Pl.okM (Pl.gcdN a b) ∧ Pl.gcdN a b ≠ []) ∧ (Pl.okM b ∧ Pl.okM (Pl.gcdN a b) ∧ Pl.gcdN a b ≠ []) ∧ True ∧ ((0 : Int) ≤ (1 : Int) ∧ (1 : Int) < (18446744073709551616 : Int)) ∧ (Pl.okN (Pl.quoN b (Pl.gcdN a b)) ∧ Pl.okN (Pl.tnI (1 : Int)) ∧ Pl.leN (Pl.tnI (1 : Int)) (Pl.quoN b (Pl.gcdN a b))) ∧ ((Pl.sgn (Pl.quoN a (Pl.gcdN a b)) s, Pl.subN (Pl.quoN b (Pl.gcdN a b)) (Pl.tnI (1 : Int)), ()), ()) = C85.post ((a, s, ()), (b, t, ()), ()))) (by kernel_rfl) ?_
  have e : C85.post ((a, s, ()), (b, t, ()), ()) = (mkQ (Rat.divInt (iv (a, s, ())) (iv (b, t, ()))), ()) := rfl
  rw [e]
  refine Br_of (fun ht => ?_) (fun ht => ?_)
  · subst ht
    have hp := okI_pos k
    have key := lo_all (okI_ng h) (okI_ng k) (by rw [iv_ng, iv_t]; omega)
    rw [iv_ng, iv_ng, Rat.neg_divInt_neg] at key
    exact ⟨h, k, key⟩
  · subst ht
    exact lo_all h k (by rw [iv_f]; have := nt_pos (okI_can k) hb; omega)

theorem dn_len {n : Nat} {q : Qv} (h : okQn n q) : (iv (dnI q)).natAbs ≤ W ^ n := by rw [dn_val]; exact (okQ_len h).2
theorem okI_dn {n : Nat} {q : Qv} (hn : n + 1 ≤ 10000000) (h : okQn n q) : okI (dnI q) := by
  refine okI_mk' (n + 1) ?_ hn
  have h1 := (okQ_len h).2
  have h2 : W ^ n < W ^ (n + 1) := Nat.pow_lt_pow_right (by decide) (by omega)
  show (nt q.2.1 + 1) < _
  omega
theorem vcx100 : ∀ x, C100.con.pre x → VCX T100 H0 Tryz.f100 C100 x := by
  rintro ⟨⟨⟨(a : List Int), (s : Bool), ⟨⟩⟩, (b : List Int), ⟨⟩⟩, ⟨⟩⟩ (h : okQn 9000000 ((a, s, ()), b, ()))
  refine cast (α := Pl.okN a ∧ Br (C113.pan (a, ())) (C100.pan (((a, s, ()), b, ()), ()) = true) (Pl.okQ2 ((a, s, ()), b, ()) ∧ Pl.okN (Pl.dnI ((a, s, ()), b, ())).1 ∧ Br (C113.pan ((Pl.dnI ((a, s, ()), b, ())).1, ())) (C100.pan (((a, s, ()), b, ()), ()) = true) (C100.pan (((a, s, ()), b, ()), ()) = false ∧ (((a, s, ()), b, ()), ()) = C100.con.post (((a, s, ()), b, ()), ())))) (by kernel_rfl) ?_
  have hp : C100.pan (((a, s, ()), b, ()), ()) = (big a || big (dnI ((a, s, ()), b, ())).1) := rfl
  rw [hp]
  refine ⟨okI_N h.1, Br_of (fun hb => ?_) (fun hb => ⟨h, okI_N (okI_dn (by decide) h), Br_of (fun hc => ?_) (fun hc => ⟨?_, rfl⟩)⟩)⟩
  · rw [show big a = true from hb]; rfl
  · rw [show big (dnI ((a, s, ()), b, ())).1 = true from hc]; exact Bool.or_true _
  · rw [show big a = false from hb, show big (dnI ((a, s, ()), b, ())).1 = false from hc]; rfl

theorem iv_ti (x y : Zv) : iv (tiI x y) = iv x * iv y := iv_mk _
theorem iv_pl (x y : Zv) : iv (plI x y) = iv x + iv y := iv_mk _
theorem okI_ti {x y : Zv} {k l : Nat} (hx : (iv x).natAbs < W ^ k) (hy : (iv y).natAbs < W ^ l) (h : k + l ≤ 10000000) : okI (tiI x y) := by
  refine okI_mk' (k + l) ?_ h
  rw [Int.natAbs_mul]; exact mul_lt_W hx hy
theorem okI_pl {x y : Zv} {k : Nat} (hx : (iv x).natAbs < W ^ k) (hy : (iv y).natAbs < W ^ k) (h : k + 1 ≤ 10000000) : okI (plI x y) := by
  refine okI_mk' (k + 1) ?_ h
  have := add_lt_W hx hy
  omega
def Pl.M1 : Nat := 1000000
theorem M1_eq : M1 = 1000000 := rfl
theorem okQ_M {q : Qv} (h : okQ q) : okQn M1 q := h
theorem okQ_1 {q : Qv} (h : okQ q) : okQ2 q := by
  obtain ⟨h1, h2, h3, h4, h5⟩ := h
  exact ⟨h1, h2, by omega, by omega, h5⟩
theorem lt_W1 {x k : Nat} (h : x ≤ W ^ k) : x < W ^ (k + 1) := Nat.lt_of_le_of_lt h (Nat.pow_lt_pow_right (by decide) (by omega))
theorem ti_abs {x y : Zv} {k l : Nat} (hx : (iv x).natAbs < W ^ k) (hy : (iv y).natAbs < W ^ l) : (iv (tiI x y)).natAbs < W ^ (k + l) := by
  rw [iv_ti, Int.natAbs_mul]; exact mul_lt_W hx hy
theorem dn_ne (q : Qv) : iv (dnI q) ≠ 0 := by rw [dn_val]; omega
theorem ne_of_iv {z : Zv} (h : iv z ≠ 0) : z.1 ≠ [] := fun h1 => by
  apply h
  have := natAbs_iv z
  rw [h1, nt_nil] at this
  omega
theorem qv_dn (q : Qv) : qv q = Rat.divInt (iv q.1) (iv (dnI q)) := by
  rw [dn_val, Rat.divInt_ofNat]; rfl

theorem vcx115 : ∀ x, C115.con.pre x → VCX T115 H0 Tryz.f115 C115 x := by
  rintro ⟨e1, e2, ⟨⟩⟩ ⟨⟨⟨f, a, s, g, b, rfl⟩, (h : okQ ((a, s, ()), b, ()))⟩, ⟨⟨f', c, t, g', d, rfl⟩, (k : okQ ((c, t, ()), d, ()))⟩⟩
  refine cast (α := (∀ (A' : AState), finishX T115 Tryz.f115.results.toList C115 (D.rptr [D.slc f (Ty.int IntKind.u64) a, D.bool s, D.slc g (Ty.int IntKind.u64) b], D.rptr [D.slc f' (Ty.int IntKind.u64) c, D.bool t, D.slc g' (Ty.int IntKind.u64) d], ()) AX.pan A') ∧ Pl.okQ2 ((c, t, ()), d, ()) ∧ (Pl.okI (a, s, ()) ∧ Pl.okI (Pl.dnI ((c, t, ()), d, ()))) ∧ Pl.okQ2 ((a, s, ()), b, ()) ∧ (Pl.okI (c, t, ()) ∧ Pl.okI (Pl.dnI ((a, s, ()), b, ()))) ∧ (Pl.okI (Pl.tiI (a, s, ()) (Pl.dnI ((c, t, ()), d, ()))) ∧ Pl.okI (Pl.tiI (c, t, ()) (Pl.dnI ((a, s, ()), b, ())))) ∧ Pl.okQ2 ((a, s, ()), b, ()) ∧ Pl.okQ2 ((c, t, ()), d, ()) ∧ (Pl.okI (Pl.dnI ((a, s, ()), b, ())) ∧ Pl.okI (Pl.dnI ((c, t, ()), d, ()))) ∧ (Pl.okI (Pl.plI (Pl.tiI (a, s, ()) (Pl.dnI ((c, t, ()), d, ()))) (Pl.tiI (c, t, ()) (Pl.dnI ((a, s, ()), b, ())))) ∧ Pl.okI (Pl.tiI (Pl.dnI ((a, s, ()), b, ())) (Pl.dnI ((c, t, ()), d, ()))) ∧ (Pl.tiI (Pl.dnI ((a, s, ()), b, ())) (Pl.dnI ((c, t, ()), d, ()))).1 ≠ []) ∧ (Pl.okQ2 (Pl.loQ (Pl.plI (Pl.tiI (a, s, ()) (Pl.dnI ((c, t, ()), d, ()))) (Pl.tiI (c, t, ()) (Pl.dnI ((a, s, ()), b, ())))) (Pl.tiI (Pl.dnI ((a, s, ()), b, ())) (Pl.dnI ((c, t, ()), d, ())))) ∧ C100.pan (Pl.loQ (Pl.plI (Pl.tiI (a, s, ()) (Pl.dnI ((c, t, ()), d, ()))) (Pl.tiI (c, t, ()) (Pl.dnI ((a, s, ()), b, ())))) (Pl.tiI (Pl.dnI ((a, s, ()), b, ())) (Pl.dnI ((c, t, ()), d, ()))), ()) = true) ∧ True ∨ Pl.okQ2 ((c, t, ()), d, ()) ∧ (Pl.okI (a, s, ()) ∧ Pl.okI (Pl.dnI ((c, t, ()), d, ()))) ∧ Pl.okQ2 ((a, s, ()), b, ()) ∧ (Pl.okI (c, t, ()) ∧ Pl.okI (Pl.dnI ((a, s, ()), b, ()))) ∧ (Pl.okI (Pl.tiI (a, s, ()) (Pl.dnI ((c, t, ()), d, ()))) ∧ Pl.okI (Pl.tiI (c, t, ()) (Pl.dnI ((a, s, ()), b, ())))) ∧ Pl.okQ2 ((a, s, ()), b, ()) ∧ Pl.okQ2 ((c, t, ()), d, ()) ∧ (Pl.okI (Pl.dnI ((a, s, ()), b, ())) ∧ Pl.okI (Pl.dnI ((c, t, ()), d, ()))) ∧ (Pl.okI (Pl.plI (Pl.tiI (a, s, ()) (Pl.dnI ((c, t, ()), d, ()))) (Pl.tiI (c, t, ()) (Pl.dnI ((a, s, ()), b, ())))) ∧ Pl.okI (Pl.tiI (Pl.dnI ((a, s, ()), b, ())) (Pl.dnI ((c, t, ()), d, ()))) ∧ (Pl.tiI (Pl.dnI ((a, s, ()), b, ())) (Pl.dnI ((c, t, ()), d, ()))).1 ≠ []) ∧ (Pl.okQ2 (Pl.loQ (Pl.plI (Pl.tiI (a, s, ()) (Pl.dnI ((c, t, ()), d, ()))) (Pl.tiI (c, t, ()) (Pl.dnI ((a, s, ()), b, ())))) (Pl.tiI (Pl.dnI ((a, s, ()), b, ())) (Pl.dnI ((c, t, ()), d, ())))) ∧ C100.pan (Pl.loQ (Pl.plI (Pl.tiI (a, s, ()) (Pl.dnI ((c, t, ()), d, ()))) (Pl.tiI (c, t, ()) (Pl.dnI ((a, s, ()), b, ())))) (Pl.tiI (Pl.dnI ((a, s, ()), b, ())) (Pl.dnI ((c, t, ()), d, ()))), ()) = false) ∧ C115.pan (D.rptr [D.slc f (Ty.int IntKind.u64) a, D.bool s, D.slc g (Ty.int IntKind.u64) b], D.rptr [D.slc f' (Ty.int IntKind.u64) c, D.bool t, D.slc g' (Ty.int IntKind.u64) d], ()) = false ∧ (Pl.loQ (Pl.plI (Pl.tiI (a, s, ()) (Pl.dnI ((c, t, ()), d, ()))) (Pl.tiI (c, t, ()) (Pl.dnI ((a, s, ()), b, ())))) (Pl.tiI (Pl.dnI ((a, s, ()), b, ())) (Pl.dnI ((c, t, ()), d, ()))), ()) = C115.con.post (D.rptr [D.slc f (Ty.int IntKind.u64) a, D.bool s, D.slc g (Ty.int IntKind.u64) b], D.rptr [D.slc f' (Ty.int IntKind.u64) c, D.bool t, D.slc g' (Ty.int IntKind.u64) d], ())) (by kernel_rfl) ?_
  obtain ⟨q, hq⟩ : ∃ q : Qv, q = ((a, s, ()), b, ()) := ⟨_, rfl⟩
  obtain ⟨p, hpq⟩ : ∃ q : Qv, q = ((c, t, ()), d, ()) := ⟨_, rfl⟩
  have hqv : qv ((a, s, ()), b, ()) + qv ((c, t, ()), d, ()) = Rat.divInt (iv (plI (tiI (a, s, ()) (dnI ((c, t, ()), d, ()))) (tiI (c, t, ()) (dnI ((a, s, ()), b, ()))))) (iv (tiI (dnI ((a, s, ()), b, ())) (dnI ((c, t, ()), d, ())))) := by
    rw [qv_dn, qv_dn, Rat.divInt_add_divInt _ _ (dn_ne _) (dn_ne _), iv_pl, iv_ti, iv_ti, iv_ti]
  have hpost : C115.con.post (D.rptr [D.slc f (Ty.int IntKind.u64) a, D.bool s, D.slc g (Ty.int IntKind.u64) b], D.rptr [D.slc f' (Ty.int IntKind.u64) c, D.bool t, D.slc g' (Ty.int IntKind.u64) d], ()) =
      (loQ (plI (tiI (a, s, ()) (dnI ((c, t, ()), d, ()))) (tiI (c, t, ()) (dnI ((a, s, ()), b, ())))) (tiI (dnI ((a, s, ()), b, ())) (dnI ((c, t, ()), d, ()))), ()) := by
    show (mkQ (qv ((a, s, ()), b, ()) + qv ((c, t, ()), d, ())), ()) = _
    rw [hqv]; rfl
  have hpan : C115.pan (D.rptr [D.slc f (Ty.int IntKind.u64) a, D.bool s, D.slc g (Ty.int IntKind.u64) b], D.rptr [D.slc f' (Ty.int IntKind.u64) c, D.bool t, D.slc g' (Ty.int IntKind.u64) d], ()) =
      C100.pan (loQ (plI (tiI (a, s, ()) (dnI ((c, t, ()), d, ()))) (tiI (c, t, ()) (dnI ((a, s, ()), b, ())))) (tiI (dnI ((a, s, ()), b, ())) (dnI ((c, t, ()), d, ()))), ()) := by
    show bigQ (qv ((a, s, ()), b, ()) + qv ((c, t, ()), d, ())) = big2 (mkQ _)
    rw [big2_mk, hqv]
  have n1 := (okQ_len (okQ_M h)).1
  have n2 := (okQ_len (okQ_M k)).1
  have d1 := lt_W1 (dn_len (okQ_M h))
  have d2 := lt_W1 (dn_len (okQ_M k))
  have o1 := okI_dn (by rw [M1_eq]; decide) (okQ_M h)
  have o2 := okI_dn (by rw [M1_eq]; decide) (okQ_M k)
  simp only at n1 n2
  have p1 := okI_ti n1 d2 (by rw [M1_eq]; decide)
  have p2 := okI_ti n2 d1 (by rw [M1_eq]; decide)
  have p3 := okI_ti d1 d2 (by rw [M1_eq]; decide)
  have a1 := ti_abs n1 d2
  have a2 := ti_abs n2 d1
  have a3 := ti_abs d1 d2
  have p4 := okI_pl a1 a2 (by rw [M1_eq]; decide)
  have a4 : (iv (plI (tiI (a, s, ()) (dnI ((c, t, ()), d, ()))) (tiI (c, t, ()) (dnI ((a, s, ()), b, ()))))).natAbs < W ^ (M1 + (M1 + 1) + 1) := by
    have := add_lt_W a1 a2
    rw [iv_pl]; omega
  have hne : iv (tiI (dnI ((a, s, ()), b, ())) (dnI ((c, t, ()), d, ()))) ≠ 0 := by rw [iv_ti]; exact Int.mul_ne_zero (dn_ne _) (dn_ne _)
  have hlo : okQ2 (loQ (plI (tiI (a, s, ()) (dnI ((c, t, ()), d, ()))) (tiI (c, t, ()) (dnI ((a, s, ()), b, ())))) (tiI (dnI ((a, s, ()), b, ())) (dnI ((c, t, ()), d, ())))) := by
    refine okQ_div (k := M1 + 1 + (M1 + 1)) hne (Nat.lt_of_lt_of_le a4 (pow_le_W (by omega))) (Nat.le_of_lt a3) (by rw [M1_eq]; decide) (by decide)
  rw [← hpan]
  cases hb : C115.pan (D.rptr [D.slc f (Ty.int IntKind.u64) a, D.bool s, D.slc g (Ty.int IntKind.u64) b], D.rptr [D.slc f' (Ty.int IntKind.u64) c, D.bool t, D.slc g' (Ty.int IntKind.u64) d], ()) with
  | true => exact .inl ⟨fun _ => hb, okQ_1 k, ⟨h.1, o2⟩, okQ_1 h, ⟨k.1, o1⟩, ⟨p1, p2⟩, okQ_1 h, okQ_1 k, ⟨o1, o2⟩, ⟨p4, p3, ne_of_iv hne⟩, ⟨hlo, rfl⟩, trivial⟩
  | false => exact .inr ⟨okQ_1 k, ⟨h.1, o2⟩, okQ_1 h, ⟨k.1, o1⟩, ⟨p1, p2⟩, okQ_1 h, okQ_1 k, ⟨o1, o2⟩, ⟨p4, p3, ne_of_iv hne⟩, ⟨hlo, rfl⟩, rfl, hpost.symm⟩

end Ta
end
section
/- Fractions: products, quotients, order, texts. -/
set_option linter.unusedVariables false
set_option linter.unusedSimpArgs false
set_option maxRecDepth 100000
namespace Ta
open Go Fw Go.Proofs Go.RowKit Pl

theorem vcx116 : ∀ x, C116.con.pre x → VCX T115 H0 Tryz.f116 C116 x := by
  rintro ⟨e1, e2, ⟨⟩⟩ ⟨⟨⟨f, a, s, g, b, rfl⟩, (h : okQ ((a, s, ()), b, ()))⟩, ⟨⟨f', c, t, g', d, rfl⟩, (k : okQ ((c, t, ()), d, ()))⟩⟩
  refine cast (α := (∀ (A' : AState), finishX T115 Tryz.f116.results.toList C116 (D.rptr [D.slc f (Ty.int IntKind.u64) a, D.bool s, D.slc g (Ty.int IntKind.u64) b], D.rptr [D.slc f' (Ty.int IntKind.u64) c, D.bool t, D.slc g' (Ty.int IntKind.u64) d], ()) AX.pan A') ∧ (Pl.okI (a, s, ()) ∧ Pl.okI (c, t, ())) ∧ Pl.okQ2 ((a, s, ()), b, ()) ∧ Pl.okQ2 ((c, t, ()), d, ()) ∧ (Pl.okI (Pl.dnI ((a, s, ()), b, ())) ∧ Pl.okI (Pl.dnI ((c, t, ()), d, ()))) ∧ (Pl.okI (Pl.tiI (a, s, ()) (c, t, ())) ∧ Pl.okI (Pl.tiI (Pl.dnI ((a, s, ()), b, ())) (Pl.dnI ((c, t, ()), d, ()))) ∧ (Pl.tiI (Pl.dnI ((a, s, ()), b, ())) (Pl.dnI ((c, t, ()), d, ()))).1 ≠ []) ∧ (Pl.okQ2 (Pl.loQ (Pl.tiI (a, s, ()) (c, t, ())) (Pl.tiI (Pl.dnI ((a, s, ()), b, ())) (Pl.dnI ((c, t, ()), d, ())))) ∧ C100.pan (Pl.loQ (Pl.tiI (a, s, ()) (c, t, ())) (Pl.tiI (Pl.dnI ((a, s, ()), b, ())) (Pl.dnI ((c, t, ()), d, ()))), ()) = true) ∧ True ∨ (Pl.okI (a, s, ()) ∧ Pl.okI (c, t, ())) ∧ Pl.okQ2 ((a, s, ()), b, ()) ∧ Pl.okQ2 ((c, t, ()), d, ()) ∧ (Pl.okI (Pl.dnI ((a, s, ()), b, ())) ∧ Pl.okI (Pl.dnI ((c, t, ()), d, ()))) ∧ (Pl.okI (Pl.tiI (a, s, ()) (c, t, ())) ∧ Pl.okI (Pl.tiI (Pl.dnI ((a, s, ()), b, ())) (Pl.dnI ((c, t, ()), d, ()))) ∧ (Pl.tiI (Pl.dnI ((a, s, ()), b, ())) (Pl.dnI ((c, t, ()), d, ()))).1 ≠ []) ∧ (Pl.okQ2 (Pl.loQ (Pl.tiI (a, s, ()) (c, t, ())) (Pl.tiI (Pl.dnI ((a, s, ()), b, ())) (Pl.dnI ((c, t, ()), d, ())))) ∧ C100.pan (Pl.loQ (Pl.tiI (a, s, ()) (c, t, ())) (Pl.tiI (Pl.dnI ((a, s, ()), b, ())) (Pl.dnI ((c, t, ()), d, ()))), ()) = false) ∧ C116.pan (D.rptr [D.slc f (Ty.int IntKind.u64) a, D.bool s, D.slc g (Ty.int IntKind.u64) b], D.rptr [D.slc f' (Ty.int IntKind.u64) c, D.bool t, D.slc g' (Ty.int IntKind.u64) d], ()) = false ∧ (Pl.loQ (Pl.tiI (a, s, ()) (c, t, ())) (Pl.tiI (Pl.dnI ((a, s, ()), b, ())) (Pl.dnI ((c, t, ()), d, ()))), ()) = C116.con.post (D.rptr [D.slc f (Ty.int IntKind.u64) a, D.bool s, D.slc g (Ty.int IntKind.u64) b], D.rptr [D.slc f' (Ty.int IntKind.u64) c, D.bool t, D.slc g' (Ty.int IntKind.u64) d], ())) (by kernel_rfl) ?_
  have hqv : qv ((a, s, ()), b, ()) * qv ((c, t, ()), d, ()) = Rat.divInt (iv (tiI (a, s, ()) (c, t, ()))) (iv (tiI (dnI ((a, s, ()), b, ())) (dnI ((c, t, ()), d, ())))) := by
    rw [qv_dn, qv_dn, Rat.divInt_mul_divInt, iv_ti, iv_ti]
  have hpost : C116.con.post (D.rptr [D.slc f (Ty.int IntKind.u64) a, D.bool s, D.slc g (Ty.int IntKind.u64) b], D.rptr [D.slc f' (Ty.int IntKind.u64) c, D.bool t, D.slc g' (Ty.int IntKind.u64) d], ()) = (loQ (tiI (a, s, ()) (c, t, ())) (tiI (dnI ((a, s, ()), b, ())) (dnI ((c, t, ()), d, ()))), ()) := by
    show (mkQ (qv ((a, s, ()), b, ()) * qv ((c, t, ()), d, ())), ()) = _
    rw [hqv]; rfl
  have hpan : C116.pan (D.rptr [D.slc f (Ty.int IntKind.u64) a, D.bool s, D.slc g (Ty.int IntKind.u64) b], D.rptr [D.slc f' (Ty.int IntKind.u64) c, D.bool t, D.slc g' (Ty.int IntKind.u64) d], ()) = C100.pan (loQ (tiI (a, s, ()) (c, t, ())) (tiI (dnI ((a, s, ()), b, ())) (dnI ((c, t, ()), d, ()))), ()) := by
    show bigQ (qv ((a, s, ()), b, ()) * qv ((c, t, ()), d, ())) = big2 (mkQ _)
    rw [big2_mk, hqv]
  have n1 := (okQ_len (okQ_M h)).1
  have n2 := (okQ_len (okQ_M k)).1
  have d1 := lt_W1 (dn_len (okQ_M h))
  have d2 := lt_W1 (dn_len (okQ_M k))
  have o1 := okI_dn (by rw [M1_eq]; decide) (okQ_M h)
  have o2 := okI_dn (by rw [M1_eq]; decide) (okQ_M k)
  simp only at n1 n2
  have p1 := okI_ti n1 n2 (by rw [M1_eq]; decide)
  have p3 := okI_ti d1 d2 (by rw [M1_eq]; decide)
  have a1 := ti_abs n1 n2
  have a3 := ti_abs d1 d2
  have hne : iv (tiI (dnI ((a, s, ()), b, ())) (dnI ((c, t, ()), d, ()))) ≠ 0 := by rw [iv_ti]; exact Int.mul_ne_zero (dn_ne _) (dn_ne _)
  have hlo : okQ2 (loQ (tiI (a, s, ()) (c, t, ())) (tiI (dnI ((a, s, ()), b, ())) (dnI ((c, t, ()), d, ())))) := by
    refine okQ_div (k := M1 + 1 + (M1 + 1)) hne (Nat.lt_of_lt_of_le a1 (pow_le_W (by omega))) (Nat.le_of_lt a3) (by rw [M1_eq]; decide) (by decide)
  rw [← hpan]
  cases hb : C116.pan (D.rptr [D.slc f (Ty.int IntKind.u64) a, D.bool s, D.slc g (Ty.int IntKind.u64) b], D.rptr [D.slc f' (Ty.int IntKind.u64) c, D.bool t, D.slc g' (Ty.int IntKind.u64) d], ()) with
  | true => exact .inl ⟨fun _ => hb, ⟨h.1, k.1⟩, okQ_1 h, okQ_1 k, ⟨o1, o2⟩, ⟨p1, p3, ne_of_iv hne⟩, ⟨hlo, rfl⟩, trivial⟩
  | false => exact .inr ⟨⟨h.1, k.1⟩, okQ_1 h, okQ_1 k, ⟨o1, o2⟩, ⟨p1, p3, ne_of_iv hne⟩, ⟨hlo, rfl⟩, rfl, hpost.symm⟩

theorem vcx117 : ∀ x, C117.con.pre x → VCX T115 H0 Tryz.f117 C117 x := by
  rintro ⟨e1, e2, ⟨⟩⟩ ⟨⟨⟨f, a, s, g, b, rfl⟩, (h : okQ ((a, s, ()), b, ()))⟩, ⟨⟨f', c, t, g', d, rfl⟩, (k : okQ ((c, t, ()), d, ()))⟩, (hc : c ≠ [])⟩
  refine cast (α := (∀ (A' : AState), finishX T115 Tryz.f117.results.toList C117 (D.rptr [D.slc f (Ty.int IntKind.u64) a, D.bool s, D.slc g (Ty.int IntKind.u64) b], D.rptr [D.slc f' (Ty.int IntKind.u64) c, D.bool t, D.slc g' (Ty.int IntKind.u64) d], ()) AX.pan A') ∧ Pl.okQ2 ((c, t, ()), d, ()) ∧ (Pl.okI (a, s, ()) ∧ Pl.okI (Pl.dnI ((c, t, ()), d, ()))) ∧ Pl.okQ2 ((a, s, ()), b, ()) ∧ (Pl.okI (Pl.dnI ((a, s, ()), b, ())) ∧ Pl.okI (c, t, ())) ∧ (Pl.okI (Pl.tiI (a, s, ()) (Pl.dnI ((c, t, ()), d, ()))) ∧ Pl.okI (Pl.tiI (Pl.dnI ((a, s, ()), b, ())) (c, t, ())) ∧ (Pl.tiI (Pl.dnI ((a, s, ()), b, ())) (c, t, ())).1 ≠ []) ∧ (Pl.okQ2 (Pl.loQ (Pl.tiI (a, s, ()) (Pl.dnI ((c, t, ()), d, ()))) (Pl.tiI (Pl.dnI ((a, s, ()), b, ())) (c, t, ()))) ∧ C100.pan (Pl.loQ (Pl.tiI (a, s, ()) (Pl.dnI ((c, t, ()), d, ()))) (Pl.tiI (Pl.dnI ((a, s, ()), b, ())) (c, t, ())), ()) = true) ∧ True ∨ Pl.okQ2 ((c, t, ()), d, ()) ∧ (Pl.okI (a, s, ()) ∧ Pl.okI (Pl.dnI ((c, t, ()), d, ()))) ∧ Pl.okQ2 ((a, s, ()), b, ()) ∧ (Pl.okI (Pl.dnI ((a, s, ()), b, ())) ∧ Pl.okI (c, t, ())) ∧ (Pl.okI (Pl.tiI (a, s, ()) (Pl.dnI ((c, t, ()), d, ()))) ∧ Pl.okI (Pl.tiI (Pl.dnI ((a, s, ()), b, ())) (c, t, ())) ∧ (Pl.tiI (Pl.dnI ((a, s, ()), b, ())) (c, t, ())).1 ≠ []) ∧ (Pl.okQ2 (Pl.loQ (Pl.tiI (a, s, ()) (Pl.dnI ((c, t, ()), d, ()))) (Pl.tiI (Pl.dnI ((a, s, ()), b, ())) (c, t, ()))) ∧ C100.pan (Pl.loQ (Pl.tiI (a, s, ()) (Pl.dnI ((c, t, ()), d, ()))) (Pl.tiI (Pl.dnI ((a, s, ()), b, ())) (c, t, ())), ()) = false) ∧ C117.pan (D.rptr [D.slc f (Ty.int IntKind.u64) a, D.bool s, D.slc g (Ty.int IntKind.u64) b], D.rptr [D.slc f' (Ty.int IntKind.u64) c, D.bool t, D.slc g' (Ty.int IntKind.u64) d], ()) = false ∧ (Pl.loQ (Pl.tiI (a, s, ()) (Pl.dnI ((c, t, ()), d, ()))) (Pl.tiI (Pl.dnI ((a, s, ()), b, ())) (c, t, ())), ()) = C117.con.post (D.rptr [D.slc f (Ty.int IntKind.u64) a, D.bool s, D.slc g (Ty.int IntKind.u64) b], D.rptr [D.slc f' (Ty.int IntKind.u64) c, D.bool t, D.slc g' (Ty.int IntKind.u64) d], ())) (by kernel_rfl) ?_
  have hqv : qv ((a, s, ()), b, ()) / qv ((c, t, ()), d, ()) = Rat.divInt (iv (tiI (a, s, ()) (dnI ((c, t, ()), d, ())))) (iv (tiI (dnI ((a, s, ()), b, ())) (c, t, ()))) := by
    rw [qv_dn, qv_dn, Rat.div_def, Rat.inv_divInt, Rat.divInt_mul_divInt, iv_ti, iv_ti]
  have hpost : C117.con.post (D.rptr [D.slc f (Ty.int IntKind.u64) a, D.bool s, D.slc g (Ty.int IntKind.u64) b], D.rptr [D.slc f' (Ty.int IntKind.u64) c, D.bool t, D.slc g' (Ty.int IntKind.u64) d], ()) = (loQ (tiI (a, s, ()) (dnI ((c, t, ()), d, ()))) (tiI (dnI ((a, s, ()), b, ())) (c, t, ())), ()) := by
    show (mkQ (qv ((a, s, ()), b, ()) / qv ((c, t, ()), d, ())), ()) = _
    rw [hqv]; rfl
  have hpan : C117.pan (D.rptr [D.slc f (Ty.int IntKind.u64) a, D.bool s, D.slc g (Ty.int IntKind.u64) b], D.rptr [D.slc f' (Ty.int IntKind.u64) c, D.bool t, D.slc g' (Ty.int IntKind.u64) d], ()) = C100.pan (loQ (tiI (a, s, ()) (dnI ((c, t, ()), d, ()))) (tiI (dnI ((a, s, ()), b, ())) (c, t, ())), ()) := by
    show bigQ (qv ((a, s, ()), b, ()) / qv ((c, t, ()), d, ())) = big2 (mkQ _)
    rw [big2_mk, hqv]
  have n1 := (okQ_len (okQ_M h)).1
  have n2 := (okQ_len (okQ_M k)).1
  have d1 := lt_W1 (dn_len (okQ_M h))
  have d2 := lt_W1 (dn_len (okQ_M k))
  have o1 := okI_dn (by rw [M1_eq]; decide) (okQ_M h)
  have o2 := okI_dn (by rw [M1_eq]; decide) (okQ_M k)
  simp only at n1 n2
  have p1 := okI_ti n1 d2 (by rw [M1_eq]; decide)
  have p3 := okI_ti d1 n2 (by rw [M1_eq]; decide)
  have a1 := ti_abs n1 d2
  have a3 := ti_abs d1 n2
  have hcn : iv (c, t, ()) ≠ 0 := fun h => hc ((iv_nil k.1).1 h)
  have hne : iv (tiI (dnI ((a, s, ()), b, ())) (c, t, ())) ≠ 0 := by rw [iv_ti]; exact Int.mul_ne_zero (dn_ne _) hcn
  have hlo : okQ2 (loQ (tiI (a, s, ()) (dnI ((c, t, ()), d, ()))) (tiI (dnI ((a, s, ()), b, ())) (c, t, ()))) := by
    refine okQ_div (k := M1 + 1 + (M1 + 1)) hne (Nat.lt_of_lt_of_le a1 (pow_le_W (by omega))) (Nat.le_of_lt (Nat.lt_of_lt_of_le a3 (pow_le_W (by omega)))) (by rw [M1_eq]; decide) (by decide)
  rw [← hpan]
  cases hb : C117.pan (D.rptr [D.slc f (Ty.int IntKind.u64) a, D.bool s, D.slc g (Ty.int IntKind.u64) b], D.rptr [D.slc f' (Ty.int IntKind.u64) c, D.bool t, D.slc g' (Ty.int IntKind.u64) d], ()) with
  | true => exact .inl ⟨fun _ => hb, okQ_1 k, ⟨h.1, o2⟩, okQ_1 h, ⟨o1, k.1⟩, ⟨p1, p3, ne_of_iv hne⟩, ⟨hlo, rfl⟩, trivial⟩
  | false => exact .inr ⟨okQ_1 k, ⟨h.1, o2⟩, okQ_1 h, ⟨o1, k.1⟩, ⟨p1, p3, ne_of_iv hne⟩, ⟨hlo, rfl⟩, rfl, hpost.symm⟩

theorem mkQ0 : mkQ 0 = (([], false, ()), [], ()) := rfl
theorem attq_of {r : Rat} {z : Qv} {p : Bool} (hz : z = mkQ r) (hp : p = bigQ r) : (p = true → atq1 r = (([], false, ()), [], ()) ∧ atq2 r = 11) ∧ (p = false → atq1 r = z ∧ atq2 r = 0) := by
  subst hz hp
  unfold atq1 atq2
  cases bigQ r
  · exact ⟨fun h => (by cases h), fun _ => ⟨rfl, rfl⟩⟩
  · exact ⟨fun _ => ⟨rfl, rfl⟩, fun h => (by cases h)⟩

theorem sgI_z {z : Zv} : sgI z = 0 ↔ iv z = 0 := ordI_eq0
theorem vc28 : ∀ x, C28.pre x → VC T28 H0 Tryz.f28 C28 x := by
  rintro ⟨⟨(a : List Int), (s : Bool), ⟨⟩⟩, ⟨(b : List Int), (t : Bool), ⟨⟩⟩, ⟨⟩⟩ ⟨(h : okI (a, s, ())), (k : okI (b, t, ()))⟩
  refine cast (α := Pl.okI (b, t, ()) ∧ Br (Pl.sgI (b, t, ()) == (0 : Int)) (((([], false, ()), [], ()), (6 : Int), ()) = C28.post ((a, s, ()), (b, t, ()), ())) ((Pl.okI (a, s, ()) ∧ Pl.okI (b, t, ()) ∧ b ≠ []) ∧ (Pl.loQ (a, s, ()) (b, t, ()), (0 : Int), ()) = C28.post ((a, s, ()), (b, t, ()), ()))) (by kernel_rfl) ?_
  have e : C28.post ((a, s, ()), (b, t, ()), ()) = (if iv (b, t, ()) = 0 then mkQ 0 else mkQ (Rat.divInt (iv (a, s, ())) (iv (b, t, ()))), if iv (b, t, ()) = 0 then 6 else 0, ()) := rfl
  rw [e]
  refine ⟨k, Br_of (fun hb => ?_) (fun hb => ?_)⟩
  · have h0 : iv (b, t, ()) = 0 := sgI_z.1 (by simpa using hb)
    rw [if_pos h0, if_pos h0, mkQ0]
  · have h0 : iv (b, t, ()) ≠ 0 := fun h => by rw [sgI_z.2 h] at hb; cases hb
    rw [if_neg h0, if_neg h0]
    exact ⟨⟨h, k, ne_of_iv h0⟩, rfl⟩
theorem okI_64 {n : Int} (h : -9223372036854775808 ≤ n ∧ n < 9223372036854775808) : okI (mkI n) := okI_mk' 1 (by rw [Nat.pow_one, W_eq]; omega) (by decide)
theorem vc24 : ∀ x, C24.pre x → VC T24 H0 Tryz.f24 C24 x := by
  rintro ⟨(m : Int), (n : Int), ⟨⟩⟩ ⟨h, k⟩
  refine cast (α := ((-9223372036854775808 : Int) ≤ m ∧ m < (9223372036854775808 : Int)) ∧ ((-9223372036854775808 : Int) ≤ n ∧ n < (9223372036854775808 : Int)) ∧ (Pl.okI (Pl.mkI m) ∧ Pl.okI (Pl.mkI n)) ∧ (Pl.mkz (Pl.mkI m) (Pl.mkI n), Pl.mkz2 (Pl.mkI n), ()) = C24.post (m, n, ())) (by kernel_rfl) ?_
  refine ⟨h, k, ⟨okI_64 h, okI_64 k⟩, ?_⟩
  show (mk1 (iv (mkI m)) (iv (mkI n)), mk2 (iv (mkI n)), ()) = (mk1 m n, mk2 n, ())
  rw [iv_mk, iv_mk]
theorem vc38 : ∀ x, C38.pre x → VC T0 H0 Tryz.f38 C38 x := by
  rintro ⟨⟨⟨(a : List Int), (s : Bool), ⟨⟩⟩, (b : List Int), ⟨⟩⟩, ⟨⟩⟩ -
  refine cast (α := ((a, s, ()), ()) = C38.post (((a, s, ()), b, ()), ())) (by kernel_rfl) ?_
  rfl
theorem vc39 : ∀ x, C39.pre x → VC T39 H0 Tryz.f39 C39 x := by
  rintro ⟨⟨⟨(a : List Int), (s : Bool), ⟨⟩⟩, (b : List Int), ⟨⟩⟩, ⟨⟩⟩ (h : okQ2 ((a, s, ()), b, ()))
  refine cast (α := Pl.okQ2 ((a, s, ()), b, ()) ∧ (Pl.dnI ((a, s, ()), b, ()), ()) = C39.post (((a, s, ()), b, ()), ())) (by kernel_rfl) ?_
  exact ⟨h, rfl⟩
theorem vc40 : ∀ x, C40.pre x → VC T40 H0 Tryz.f40 C40 x := by
  rintro ⟨⟨⟨(a : List Int), (s : Bool), ⟨⟩⟩, (b : List Int), ⟨⟩⟩, ⟨⟩⟩ (h : okQ2 ((a, s, ()), b, ()))
  refine cast (α := Pl.okI (a, s, ()) ∧ (Pl.sgI (a, s, ()), ()) = C40.post (((a, s, ()), b, ()), ())) (by kernel_rfl) ?_
  exact ⟨h.1, rfl⟩
theorem ngQ_eq {n : Nat} {q : Qv} (h : okQn n q) : ngQ q = (ngI q.1, q.2.1, ()) := by
  obtain ⟨h1, h2⟩ := qv_num h
  unfold ngQ mkQ
  rw [Rat.neg_num, Rat.neg_den, h1, h2, Nat.add_sub_cancel, can_tn' h.2.1]; rfl
theorem qv_ng (q : Qv) : qv (ngQ q) = -(qv q) := qv_mkQ _
theorem ngI_len {z : Zv} (h : okI z) : (ngI z).1 = z.1 := by
  show tn (-(iv z)).natAbs = _
  rw [Int.natAbs_neg, natAbs_iv, can_tn' h.1]
theorem okQ_ng {n : Nat} {q : Qv} (h : okQn n q) : okQn n (ngQ q) := by
  rw [ngQ_eq h]
  refine ⟨okI_ng h.1, h.2.1, ?_, h.2.2.2.1, ?_⟩
  · rw [ngI_len h.1]; exact h.2.2.1
  · rw [ngI_len h.1]; exact h.2.2.2.2
theorem vc42 : ∀ x, C42.pre x → VC T42 H0 Tryz.f42 C42 x := by
  rintro ⟨⟨⟨(a : List Int), (s : Bool), ⟨⟩⟩, (b : List Int), ⟨⟩⟩, ⟨⟩⟩ (h : okQ2 ((a, s, ()), b, ()))
  refine cast (α := Pl.okI (a, s, ()) ∧ ((Pl.ngI (a, s, ()), b, ()), ()) = C42.post (((a, s, ()), b, ()), ())) (by kernel_rfl) ?_
  refine ⟨h.1, ?_⟩
  show _ = (ngQ ((a, s, ()), b, ()), ())
  rw [ngQ_eq h]
theorem vc66 : ∀ x, C66.pre x → VC T66 H0 Tryz.f66 C66 x := by
  rintro ⟨⟨⟨(a : List Int), (s : Bool), ⟨⟩⟩, (b : List Int), ⟨⟩⟩, ⟨⟨(c : List Int), (t : Bool), ⟨⟩⟩, (d : List Int), ⟨⟩⟩, ⟨⟩⟩ ⟨(h : okQ ((a, s, ()), b, ())), (k : okQ ((c, t, ()), d, ()))⟩
  refine cast (α := Pl.okQ2 ((c, t, ()), d, ()) ∧ (Pl.okI (a, s, ()) ∧ Pl.okI (Pl.dnI ((c, t, ()), d, ()))) ∧ Pl.okQ2 ((a, s, ()), b, ()) ∧ (Pl.okI (c, t, ()) ∧ Pl.okI (Pl.dnI ((a, s, ()), b, ()))) ∧ (Pl.okI (Pl.tiI (a, s, ()) (Pl.dnI ((c, t, ()), d, ()))) ∧ Pl.okI (Pl.tiI (c, t, ()) (Pl.dnI ((a, s, ()), b, ())))) ∧ (Pl.cpI (Pl.tiI (a, s, ()) (Pl.dnI ((c, t, ()), d, ()))) (Pl.tiI (c, t, ()) (Pl.dnI ((a, s, ()), b, ()))), ()) = C66.post (((a, s, ()), b, ()), ((c, t, ()), d, ()), ())) (by kernel_rfl) ?_
  have n1 := (okQ_len (okQ_M h)).1
  have n2 := (okQ_len (okQ_M k)).1
  have d1 := lt_W1 (dn_len (okQ_M h))
  have d2 := lt_W1 (dn_len (okQ_M k))
  refine ⟨okQ_1 k, ⟨h.1, okI_dn (by rw [M1_eq]; decide) (okQ_M k)⟩, okQ_1 h, ⟨k.1, okI_dn (by rw [M1_eq]; decide) (okQ_M h)⟩, ⟨okI_ti n1 d2 (by rw [M1_eq]; decide), okI_ti n2 d1 (by rw [M1_eq]; decide)⟩, ?_⟩
  show (ordI (iv (tiI (a, s, ()) (dnI ((c, t, ()), d, ())))) (iv (tiI (c, t, ()) (dnI ((a, s, ()), b, ())))), ()) = (ordI (iv (a, s, ()) * ((nt d + 1 : Nat) : Int)) (iv (c, t, ()) * ((nt b + 1 : Nat) : Int)), ())
  rw [iv_ti, iv_ti, dn_val, dn_val]
theorem isQ_of {a b : List Int} {s : Bool} (h : okQ ((a, s, ()), b, ())) : isQ (.rptr [.slc false u64 a, .bool s, .slc false u64 b]) := ⟨⟨_, _, _, _, _, rfl⟩, h⟩
theorem vc64 : ∀ x, C64.pre x → VC T64 H64 Tryz.f64 C64 x := by
  rintro ⟨⟨⟨(a : List Int), (s : Bool), ⟨⟩⟩, (b : List Int), ⟨⟩⟩, ⟨⟨(c : List Int), (t : Bool), ⟨⟩⟩, (d : List Int), ⟨⟩⟩, ⟨⟩⟩ ⟨(h : okQ ((a, s, ()), b, ())), (k : okQ ((c, t, ()), d, ()))⟩
  refine cast (α := Pl.okCloQ (D.clo (115 : Nat) [D.rptr [D.slc false u64 a, D.bool s, D.slc false u64 b], D.rptr [D.slc false u64 c, D.bool t, D.slc false u64 d]]) ∧ (Pl.aq1 (D.clo (115 : Nat) [D.rptr [D.slc false u64 a, D.bool s, D.slc false u64 b], D.rptr [D.slc false u64 c, D.bool t, D.slc false u64 d]]), Pl.aq2 (D.clo (115 : Nat) [D.rptr [D.slc false u64 a, D.bool s, D.slc false u64 b], D.rptr [D.slc false u64 c, D.bool t, D.slc false u64 d]]), ()) = C64.post (((a, s, ()), b, ()), ((c, t, ()), d, ()), ())) (by kernel_rfl) ?_
  exact ⟨.inl ⟨.inl rfl, isQ_of h, isQ_of k⟩, rfl⟩
theorem vc65 : ∀ x, C65.pre x → VC T64 H64 Tryz.f65 C65 x := by
  rintro ⟨⟨⟨(a : List Int), (s : Bool), ⟨⟩⟩, (b : List Int), ⟨⟩⟩, ⟨⟨(c : List Int), (t : Bool), ⟨⟩⟩, (d : List Int), ⟨⟩⟩, ⟨⟩⟩ ⟨(h : okQ ((a, s, ()), b, ())), (k : okQ ((c, t, ()), d, ()))⟩
  refine cast (α := Pl.okCloQ (D.clo (116 : Nat) [D.rptr [D.slc false u64 a, D.bool s, D.slc false u64 b], D.rptr [D.slc false u64 c, D.bool t, D.slc false u64 d]]) ∧ (Pl.aq1 (D.clo (116 : Nat) [D.rptr [D.slc false u64 a, D.bool s, D.slc false u64 b], D.rptr [D.slc false u64 c, D.bool t, D.slc false u64 d]]), Pl.aq2 (D.clo (116 : Nat) [D.rptr [D.slc false u64 a, D.bool s, D.slc false u64 b], D.rptr [D.slc false u64 c, D.bool t, D.slc false u64 d]]), ()) = C65.post (((a, s, ()), b, ()), ((c, t, ()), d, ()), ())) (by kernel_rfl) ?_
  exact ⟨.inl ⟨.inr rfl, isQ_of h, isQ_of k⟩, rfl⟩
theorem vc70 : ∀ x, C70.pre x → VC T70 H0 Tryz.f70 C70 x := by
  rintro ⟨⟨⟨(a : List Int), (s : Bool), ⟨⟩⟩, (b : List Int), ⟨⟩⟩, ⟨⟨(c : List Int), (t : Bool), ⟨⟩⟩, (d : List Int), ⟨⟩⟩, ⟨⟩⟩ ⟨(h : okQ ((a, s, ()), b, ())), (k : okQ ((c, t, ()), d, ()))⟩
  refine cast (α := Pl.okQ2 ((c, t, ()), d, ()) ∧ (Pl.okQ ((a, s, ()), b, ()) ∧ Pl.okQ (Pl.ngQ ((c, t, ()), d, ()))) ∧ (Pl.aad1 ((a, s, ()), b, ()) (Pl.ngQ ((c, t, ()), d, ())), Pl.aad2 ((a, s, ()), b, ()) (Pl.ngQ ((c, t, ()), d, ())), ()) = C70.post (((a, s, ()), b, ()), ((c, t, ()), d, ()), ())) (by kernel_rfl) ?_
  refine ⟨okQ_1 k, ⟨h, okQ_ng k⟩, ?_⟩
  show (atq1 (qv ((a, s, ()), b, ()) + qv (ngQ ((c, t, ()), d, ()))), atq2 (qv ((a, s, ()), b, ()) + qv (ngQ ((c, t, ()), d, ()))), ()) = (atq1 (qv ((a, s, ()), b, ()) - qv ((c, t, ()), d, ())), atq2 (qv ((a, s, ()), b, ()) - qv ((c, t, ()), d, ())), ())
  rw [qv_ng, ← Rat.sub_eq_add_neg]
theorem vc67 : ∀ x, C67.pre x → VC T67 H67 Tryz.f67 C67 x := by
  rintro ⟨⟨⟨(a : List Int), (s : Bool), ⟨⟩⟩, (b : List Int), ⟨⟩⟩, ⟨⟨(c : List Int), (t : Bool), ⟨⟩⟩, (d : List Int), ⟨⟩⟩, ⟨⟩⟩ ⟨(h : okQ ((a, s, ()), b, ())), (k : okQ ((c, t, ()), d, ()))⟩
  refine cast (α := Pl.okQ2 ((c, t, ()), d, ()) ∧ Br (Pl.sgQ ((c, t, ()), d, ()) == (0 : Int)) (((([], false, ()), [], ()), (6 : Int), ()) = C67.post (((a, s, ()), b, ()), ((c, t, ()), d, ()), ())) (Pl.okCloQ (D.clo (117 : Nat) [D.rptr [D.slc false u64 a, D.bool s, D.slc false u64 b], D.rptr [D.slc false u64 c, D.bool t, D.slc false u64 d]]) ∧ (Pl.aq1 (D.clo (117 : Nat) [D.rptr [D.slc false u64 a, D.bool s, D.slc false u64 b], D.rptr [D.slc false u64 c, D.bool t, D.slc false u64 d]]), Pl.aq2 (D.clo (117 : Nat) [D.rptr [D.slc false u64 a, D.bool s, D.slc false u64 b], D.rptr [D.slc false u64 c, D.bool t, D.slc false u64 d]]), ()) = C67.post (((a, s, ()), b, ()), ((c, t, ()), d, ()), ()))) (by kernel_rfl) ?_
  have e : C67.post (((a, s, ()), b, ()), ((c, t, ()), d, ()), ()) = (if c = [] then mkQ 0 else atq1 (quQ ((a, s, ()), b, ()) ((c, t, ()), d, ())), if c = [] then 6 else atq2 (quQ ((a, s, ()), b, ()) ((c, t, ()), d, ())), ()) := rfl
  rw [e]
  have hz : sgQ ((c, t, ()), d, ()) = 0 ↔ c = [] := sgI_z.trans (iv_nil k.1)
  refine ⟨okQ_1 k, Br_of (fun hb => ?_) (fun hb => ?_)⟩
  · have h0 : c = [] := hz.1 (by simpa using hb)
    rw [if_pos h0, if_pos h0, mkQ0]
  · have h0 : c ≠ [] := fun h => by rw [hz.2 h] at hb; cases hb
    rw [if_neg h0, if_neg h0]
    exact ⟨.inr ⟨rfl, isQ_of h, isQ_of k, h0⟩, rfl⟩

theorem size_ba (l : List UInt8) : (ba l).size = l.length := size_bl _
theorem itoa_len {z : Zv} (h : okI z) : (Lib.itoa (iv z)).length ≤ 20 * KI + 1 := by
  obtain ⟨a, s, ⟨⟩⟩ := z
  have h1 := dec_len_W (n := nt a) (k := KI) (by rw [KI_eq]; decide) (okI_lt h)
  cases s with
  | true => rw [iv_t, Lib.itoa_neg _ (okI_pos h), List.length_cons]; omega
  | false => rw [iv_f, Lib.itoa_nonneg]; omega
theorem itoa_nat (n : Nat) : Lib.itoa ((n : Nat) : Int) = Lib.decDigits n := Lib.itoa_nonneg n
theorem vc25 : ∀ x, C25.pre x → VC T25 H0 Tryz.f25 C25 x := by
  rintro ⟨⟨⟨(a : List Int), (s : Bool), ⟨⟩⟩, (b : List Int), ⟨⟩⟩, ⟨⟩⟩ (h : okQn 9000000 ((a, s, ()), b, ()))
  refine cast (α := Br ((↑b.length : Int) == (0 : Int)) (Pl.okI (a, s, ()) ∧ (Pl.txtI (a, s, ()), ()) = C25.post (((a, s, ()), b, ()), ())) (Pl.okI (a, s, ()) ∧ (↑((Pl.txtI (a, s, ())).size + (ByteArray.mk #[(47 : UInt8)]).size) : Int) ≤ (9223372036854775807 : Int) ∧ Pl.okQ2 ((a, s, ()), b, ()) ∧ Pl.okI (Pl.dnI ((a, s, ()), b, ())) ∧ (↑((Pl.txtI (a, s, ()) ++ (ByteArray.mk #[(47 : UInt8)])).size + (Pl.txtI (Pl.dnI ((a, s, ()), b, ()))).size) : Int) ≤ (9223372036854775807 : Int) ∧ (Pl.txtI (a, s, ()) ++ (ByteArray.mk #[(47 : UInt8)]) ++ Pl.txtI (Pl.dnI ((a, s, ()), b, ())), ()) = C25.post (((a, s, ()), b, ()), ()))) (by kernel_rfl) ?_
  obtain ⟨h1, h2⟩ := qv_num h
  have e : C25.post (((a, s, ()), b, ()), ()) = (ba (if nt b + 1 = 1 then Lib.itoa (iv (a, s, ())) else Lib.itoa (iv (a, s, ())) ++ (47 :: Lib.decDigits (nt b + 1))), ()) := by
    show (ba (if (qv ((a, s, ()), b, ())).den = 1 then Lib.itoa (qv ((a, s, ()), b, ())).num else Lib.itoa (qv ((a, s, ()), b, ())).num ++ (47 :: Lib.decDigits (qv ((a, s, ()), b, ())).den)), ()) = _
    rw [h1, h2]
  rw [e]
  have hz := nt_zero h.2.1
  simp only at hz
  refine Br_of (fun hb => ?_) (fun hb => ?_)
  · have h0 : b = [] := List.eq_nil_of_length_eq_zero (by have : (b.length : Int) = 0 := by simpa using hb
                                                          omega)
    rw [if_pos (by rw [hz.2 h0])]
    exact ⟨h.1, rfl⟩
  · have h0 : b ≠ [] := fun h => by rw [h] at hb; cases hb
    have h3 : ¬ nt b + 1 = 1 := fun h => h0 (hz.1 (by omega))
    rw [if_neg h3]
    have od := okI_dn (by decide) h
    have e1 : txtI (dnI ((a, s, ()), b, ())) = ba (Lib.decDigits (nt b + 1)) := by
      show ba (Lib.itoa (iv (dnI ((a, s, ()), b, ())))) = _
      rw [dn_val, itoa_nat]
    have l1 := itoa_len h.1
    have l2 := itoa_len od
    rw [dn_val, itoa_nat] at l2
    simp only at l2 l1
    rw [KI_eq] at l1 l2
    rw [e1]
    have e2 : txtI (a, s, ()) = ba (Lib.itoa (iv (a, s, ()))) := rfl
    have e3 : (ByteArray.mk #[(47 : UInt8)]) = ba [47] := rfl
    rw [e2, e3, ba_append, ba_append, size_ba, size_ba, size_ba, size_ba]
    refine ⟨h.1, ?_, h, od, ?_, ?_⟩
    · simp only [List.length_singleton]; omega
    · simp only [List.length_append, List.length_singleton]; omega
    · rw [List.append_assoc]; rfl

theorem snd83 : Sound Tryz.prog 83 C83 := fn_sound (T := T83) (fn := Tryz.f83) (tokg (T := T83) ⟨snd111, snd120, snd106, trivial⟩ trivial trivial) Tryz.func83 (by kernel_rfl) H0 vc83 (by kernel_rfl)
theorem snd85 : Sound Tryz.prog 85 C85 := fn_sound (T := T85) (fn := Tryz.f85) (tokg (T := T85) ⟨snd50, snd108, snd119, snd106, snd111, snd121, trivial⟩ trivial trivial) Tryz.func85 (by kernel_rfl) H0 vc85 (by kernel_rfl)
theorem snd100 : SoundX Tryz.prog 130 100 C100 := fnx_sound (T := T100) (fn := Tryz.f100) (tokg (T := T100) ⟨snd83, trivial⟩ trivial ⟨snd113, trivial⟩) Tryz.func100 (by kernel_rfl) H0 vcx100 (by kernel_rfl)
theorem snd115 : SoundX Tryz.prog 130 115 C115 := fnx_sound (T := T115) (fn := Tryz.f115) (tokg (T := T115) ⟨snd83, snd92, snd89, snd85, trivial⟩ trivial ⟨snd100, trivial⟩) Tryz.func115 (by kernel_rfl) H0 vcx115 (by kernel_rfl)
theorem snd116 : SoundX Tryz.prog 130 116 C116 := fnx_sound (T := T115) (fn := Tryz.f116) (tokg (T := T115) ⟨snd83, snd92, snd89, snd85, trivial⟩ trivial ⟨snd100, trivial⟩) Tryz.func116 (by kernel_rfl) H0 vcx116 (by kernel_rfl)
theorem snd117 : SoundX Tryz.prog 130 117 C117 := fnx_sound (T := T115) (fn := Tryz.f117) (tokg (T := T115) ⟨snd83, snd92, snd89, snd85, trivial⟩ trivial ⟨snd100, trivial⟩) Tryz.func117 (by kernel_rfl) H0 vcx117 (by kernel_rfl)

theorem snd99 : Sound Tryz.prog 99 C99 := by
  rintro ⟨d, ⟨⟩⟩ hd w O vs hO hl
  obtain ⟨u, us, e1, hu, hus⟩ := hl
  have hus' : us = [] := hus
  subst hus'
  have ev := arr_eq e1
  subst ev
  have fin : ∀ {e : Ending} {w' : World}, (∃ v, e = .returned v ∧ Below w.heap.size w w' ∧ ∀ ι, ARep w' O ι (resAV (encs [QI, E] (atq1 (cloR d), atq2 (cloR d), ()))) v) → CPost C99 (d, ()) w O e w' := by
    rintro e w' ⟨v, h1, h2, h3⟩
    exact ⟨v, h1, h2, h3, fun e he => by cases he⟩
  have hd' : okCloQ d := hd
  unfold okCloQ at hd'
  split at hd'
  · rename_i f d1 d2
    obtain ⟨cs, rfl, hcs⟩ := (show ∃ cs : Array Value, u = .func (.func f) #[] cs ∧ LRep w O [d1, d2] cs.toList from hu)
    refine .inl ⟨run_callFunc Tryz.func99 (by kernel_rfl) (by kernel_rfl) _, ?_⟩
    have hcs' : LRep w O [d1, d2] (#[] ++ cs).toList := by simpa using hcs
    rcases hd' with ⟨rfl | rfl, h1, h2⟩ | ⟨rfl, h1, h2⟩
    · have hA := attq_of (r := adQ (dQ d1) (dQ d2)) (z := mkQ (adQ (dQ d1) (dQ d2))) (p := bigQ (adQ (dQ d1) (dQ d2))) rfl rfl
      exact (att99 snd115 (y := (d1, d2, ())) ⟨h1, h2⟩ hO hcs' hA.1 hA.2).mono fun e w' h => fin h
    · have hA := attq_of (r := muQ (dQ d1) (dQ d2)) (z := mkQ (muQ (dQ d1) (dQ d2))) (p := bigQ (muQ (dQ d1) (dQ d2))) rfl rfl
      exact (att99 snd116 (y := (d1, d2, ())) ⟨h1, h2⟩ hO hcs' hA.1 hA.2).mono fun e w' h => fin h
    · have hA := attq_of (r := quQ (dQ d1) (dQ d2)) (z := mkQ (quQ (dQ d1) (dQ d2))) (p := bigQ (quQ (dQ d1) (dQ d2))) rfl rfl
      exact (att99 snd117 (y := (d1, d2, ())) ⟨h1, h2⟩ hO hcs' hA.1 hA.2).mono fun e w' h => fin h
  · rename_i f d1
    obtain ⟨cs, rfl, hcs⟩ := (show ∃ cs : Array Value, u = .func (.func f) cs #[] ∧ LRep w O [d1] cs.toList from hu)
    refine .inl ⟨run_callFunc Tryz.func99 (by kernel_rfl) (by kernel_rfl) _, ?_⟩
    obtain ⟨rfl, ⟨f1, a, s, g1, b, rfl⟩, hq⟩ := hd'
    have hcs' : LRep w O (encs [QI] (((a, s, ()), b, ()), ())) (cs ++ #[]).toList := by
      obtain ⟨u, us, h1, h2, h3⟩ := hcs
      obtain ⟨vs, rfl, u0, us0, e0, k0, u1, us1, e1, k1, u2, us2, e2, k2, k3⟩ := h2
      refine ⟨.agg vs, us, by simpa using h1, ⟨vs, rfl, u0, us0, e0, ⟨k0.1, fun h => by cases h⟩, u1, us1, e1, k1, u2, us2, e2, ⟨k2.1, fun h => by cases h⟩, k3⟩, h3⟩
    have hA := attq_of (r := qv ((a, s, ()), b, ())) (z := ((a, s, ()), b, ())) (p := big2 ((a, s, ()), b, ())) (mkQ_qv hq).symm (big2_qv hq)
    exact (att99 snd100 (y := (((a, s, ()), b, ()), ())) hq hO hcs' hA.1 hA.2).mono fun e w' h => fin h
  · exact hd'.elim

theorem snd28 : Sound Tryz.prog 28 C28 := fn_sound (T := T28) (fn := Tryz.f28) (tokg (T := T28) ⟨snd21, snd85, trivial⟩ trivial trivial) Tryz.func28 (by kernel_rfl) H0 vc28 (by kernel_rfl)
theorem snd24 : Sound Tryz.prog 24 C24 := fn_sound (T := T24) (fn := Tryz.f24) (tokg (T := T24) ⟨snd75, snd28, trivial⟩ trivial trivial) Tryz.func24 (by kernel_rfl) H0 vc24 (by kernel_rfl)
theorem snd25 : Sound Tryz.prog 25 C25 := fn_sound (T := T25) (fn := Tryz.f25) (tokg (T := T25) ⟨snd46, snd83, trivial⟩ trivial trivial) Tryz.func25 (by kernel_rfl) H0 vc25 (by kernel_rfl)
theorem snd38 : Sound Tryz.prog 38 C38 := fn_sound (T := T0) (fn := Tryz.f38) (tokg (T := T0) trivial trivial trivial) Tryz.func38 (by kernel_rfl) H0 vc38 (by kernel_rfl)
theorem snd39 : Sound Tryz.prog 39 C39 := fn_sound (T := T39) (fn := Tryz.f39) (tokg (T := T39) ⟨snd83, trivial⟩ trivial trivial) Tryz.func39 (by kernel_rfl) H0 vc39 (by kernel_rfl)
theorem snd40 : Sound Tryz.prog 40 C40 := fn_sound (T := T40) (fn := Tryz.f40) (tokg (T := T40) ⟨snd21, trivial⟩ trivial trivial) Tryz.func40 (by kernel_rfl) H0 vc40 (by kernel_rfl)
theorem snd42 : Sound Tryz.prog 42 C42 := fn_sound (T := T42) (fn := Tryz.f42) (tokg (T := T42) ⟨snd50, trivial⟩ trivial trivial) Tryz.func42 (by kernel_rfl) H0 vc42 (by kernel_rfl)
theorem snd66 : Sound Tryz.prog 66 C66 := fn_sound (T := T66) (fn := Tryz.f66) (tokg (T := T66) ⟨snd83, snd92, snd52, trivial⟩ trivial trivial) Tryz.func66 (by kernel_rfl) H0 vc66 (by kernel_rfl)
theorem snd64 : Sound Tryz.prog 64 C64 := fn_sound (T := T64) (fn := Tryz.f64) (tokg (T := T64) ⟨snd99, trivial⟩ trivial trivial) Tryz.func64 (by kernel_rfl) H64 vc64 (by kernel_rfl)
theorem snd65 : Sound Tryz.prog 65 C65 := fn_sound (T := T64) (fn := Tryz.f65) (tokg (T := T64) ⟨snd99, trivial⟩ trivial trivial) Tryz.func65 (by kernel_rfl) H64 vc65 (by kernel_rfl)
theorem snd70 : Sound Tryz.prog 70 C70 := fn_sound (T := T70) (fn := Tryz.f70) (tokg (T := T70) ⟨snd42, snd64, trivial⟩ trivial trivial) Tryz.func70 (by kernel_rfl) H0 vc70 (by kernel_rfl)
theorem snd67 : Sound Tryz.prog 67 C67 := fn_sound (T := T67) (fn := Tryz.f67) (tokg (T := T67) ⟨snd40, snd99, trivial⟩ trivial trivial) Tryz.func67 (by kernel_rfl) H67 vc67 (by kernel_rfl)

end Ta
end
