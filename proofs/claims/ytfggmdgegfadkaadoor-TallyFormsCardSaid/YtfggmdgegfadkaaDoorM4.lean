import Derived.Tactics
import Derived.Tactics2
import Derived.WalkKit
import Derived.Laws.Pointers
import Derived.Lib.Builder
import Derived.Lib.Walk
import Derived.BigCall
import Derived.Lib.LaidTab
import Derived.HandedShaped
import Derived.ProofKit
import Derived.OpenShut
import Derived.Below
import Derived.Lay
import Derived.Shelf.Vars
import Derived.SevenTiedAt
import Derived.JoinedCond
import Derived.WideKeyPair
import Derived.Test.YtfggmdgegfadkaaDoorRows
import Derived.Test.YtfggmdgegfadkaaDoorM3
section
/- A natural number's text: the pieces. -/
set_option linter.unusedVariables false
set_option linter.unusedSimpArgs false
set_option maxRecDepth 100000
namespace Ta
open Go Fw Go.Proofs Pl

/-! ### Decimal digits in pieces -/
def padk : Nat → Nat → List UInt8
  | 0, _ => []
  | k + 1, r => padk k (r / 10) ++ [UInt8.ofNat (48 + r % 10)]
theorem dec_small {u : Nat} (h : u < 10) : Lib.decDigits u = [UInt8.ofNat (48 + u)] := by rw [Lib.decDigits, dif_pos h]
theorem dec_big {u : Nat} (h : ¬ u < 10) : Lib.decDigits u = Lib.decDigits (u / 10) ++ [UInt8.ofNat (48 + u % 10)] := by rw [Lib.decDigits, dif_neg h]
theorem dec_split : ∀ (k n : Nat), 0 < n / 10 ^ k → Lib.decDigits n = Lib.decDigits (n / 10 ^ k) ++ padk k (n % 10 ^ k)
  | 0, n, _ => by simp [padk]
  | k + 1, n, h => by
    have e1 : n / 10 ^ (k + 1) = n / 10 / 10 ^ k := by rw [Nat.pow_succ, Nat.mul_comm, Nat.div_div_eq_div_mul]
    rw [e1] at h ⊢
    have h10 : ¬ n < 10 := fun h1 => by
      rw [Nat.div_eq_of_lt h1] at h; simp at h
    have ih := dec_split k (n / 10) h
    rw [dec_big h10, ih, List.append_assoc]
    congr 1
    have e2 : n % 10 ^ (k + 1) / 10 = n / 10 % 10 ^ k := by rw [Nat.pow_succ, Nat.mul_comm (10 ^ k) 10, Nat.mod_mul_right_div_self]
    have e3 : n % 10 ^ (k + 1) % 10 = n % 10 := by rw [Nat.pow_succ]; exact Nat.mod_mul_left_mod _ _ _
    show _ = padk k (n % 10 ^ (k + 1) / 10) ++ [UInt8.ofNat (48 + n % 10 ^ (k + 1) % 10)]
    rw [e2, e3]
theorem padk_zero : ∀ k, padk k 0 = List.replicate k 48
  | 0 => rfl
  | k + 1 => by
    show padk k (0 / 10) ++ [UInt8.ofNat (48 + 0 % 10)] = _
    rw [Nat.zero_div, padk_zero k, List.replicate_succ']
    rfl
theorem padk_dec : ∀ (k r : Nat), 1 ≤ k → r < 10 ^ k → (Lib.decDigits r).length ≤ k ∧ padk k r = List.replicate (k - (Lib.decDigits r).length) 48 ++ Lib.decDigits r
  | 0, _, h, _ => by omega
  | k + 1, r, _, hr => by
    by_cases h : r < 10
    · rw [dec_small h]
      refine ⟨by simp, ?_⟩
      show padk k (r / 10) ++ [UInt8.ofNat (48 + r % 10)] = _
      rw [Nat.div_eq_of_lt h, Nat.mod_eq_of_lt h, padk_zero]
      rfl
    · have hk : 1 ≤ k := by
        rcases Nat.eq_zero_or_pos k with h0 | h0
        · subst h0; rw [Nat.zero_add, Nat.pow_one] at hr; omega
        · exact h0
      have hr' : r / 10 < 10 ^ k := by rw [Nat.div_lt_iff_lt_mul (by decide)]; rw [Nat.pow_succ] at hr; exact hr
      obtain ⟨i1, i2⟩ := padk_dec k (r / 10) hk hr'
      rw [dec_big h]
      refine ⟨by simp; exact i1, ?_⟩
      show padk k (r / 10) ++ [UInt8.ofNat (48 + r % 10)] = _
      rw [i2, List.append_assoc, List.length_append, List.length_singleton]
      congr 2
      omega
theorem repeat_one : ∀ c, Lib.repeatL [48] c = List.replicate c 48
  | 0 => rfl
  | c + 1 => by show [48] ++ Lib.repeatL [48] c = _; rw [repeat_one c]; rfl
theorem joinR_snoc : ∀ (l : List ByteArray) (s : ByteArray), joinR (l ++ [s]) = bl s ++ joinR l
  | [], s => by simp [joinR]
  | x :: l, s => by simp only [List.cons_append, joinR, joinR_snoc l s, List.append_assoc]
theorem szs_join : ∀ l : List ByteArray, szs l = (joinR l).length
  | [] => rfl
  | s :: l => by simp only [szs, joinR, szs_join l, List.length_append, size_bl]; omega
theorem dec_len {n k : Nat} (hk : 1 ≤ k) (h : n < 10 ^ k) : (Lib.decDigits n).length ≤ k := (padk_dec k n hk h).1

theorem vc103 : ∀ x : List Int, C103.pre (x, ()) → VC103 x := by
  rintro x ⟨(hx : okN x), (hl : x.length ≤ 100000000)⟩
  refine cast (α := ∃ (n : Nat), itl (fun (G : List Int × List ByteArray × PUnit → Prop) (x_1 : List Int × List ByteArray × PUnit) => Br (decide ((↑(List.length x_1.fst) : Int) > (0 : Int))) ((Pl.okN x_1.1 ∧ (0 : Int) < (10000000000000000000 : Int) ∧ (10000000000000000000 : Int) < (18446744073709551616 : Int)) ∧ (((0 : Int) ≤ Pl.rwN x_1.1 (10000000000000000000 : Int) ∧ Pl.rwN x_1.1 (10000000000000000000 : Int) < (18446744073709551616 : Int)) ∧ (10 : Int) = (10 : Int)) ∧ Br (decide ((↑(Pl.qwN x_1.1 (10000000000000000000 : Int)).length : Int) > (0 : Int))) (((0 : Int) ≤ IntKind.i64.wrap ((19 : Int) - (↑(Pl.decS (Pl.rwN x_1.1 (10000000000000000000 : Int))).size : Int)) ∧ IntKind.i64.wrap ((19 : Int) - (↑(Pl.decS (Pl.rwN x_1.1 (10000000000000000000 : Int))).size : Int)) ≤ (1000000 : Int) ∧ (ByteArray.mk #[(48 : UInt8)]).size ≤ (1000000 : Nat)) ∧ (↑((Pl.repS (ByteArray.mk #[(48 : UInt8)]) (IntKind.i64.wrap ((19 : Int) - (↑(Pl.decS (Pl.rwN x_1.1 (10000000000000000000 : Int))).size : Int)))).size + (Pl.decS (Pl.rwN x_1.1 (10000000000000000000 : Int))).size) : Int) ≤ (9223372036854775807 : Int) ∧ ((↑(List.length x_1.snd.fst) : Int) + (↑[Pl.repS (ByteArray.mk #[(48 : UInt8)]) (IntKind.i64.wrap ((19 : Int) - (↑(Pl.decS (Pl.rwN x_1.1 (10000000000000000000 : Int))).size : Int))) ++ Pl.decS (Pl.rwN x_1.1 (10000000000000000000 : Int))].length : Int)) * (16 : Int) ≤ (140737488355328 : Int) ∧ G (Pl.qwN x_1.1 (10000000000000000000 : Int), List.append x_1.snd.fst [Pl.repS (ByteArray.mk #[(48 : UInt8)]) (IntKind.i64.wrap ((19 : Int) - (↑(Pl.decS (Pl.rwN x_1.1 (10000000000000000000 : Int))).size : Int))) ++ Pl.decS (Pl.rwN x_1.1 (10000000000000000000 : Int))], ())) (((↑(List.length x_1.snd.fst) : Int) + (↑[Pl.decS (Pl.rwN x_1.1 (10000000000000000000 : Int))].length : Int)) * (16 : Int) ≤ (140737488355328 : Int) ∧ G (Pl.qwN x_1.1 (10000000000000000000 : Int), List.append x_1.snd.fst [Pl.decS (Pl.rwN x_1.1 (10000000000000000000 : Int))], ()))) (Br ((↑(List.length x_1.snd.fst) : Int) == (0 : Int)) (((ByteArray.mk #[(48 : UInt8)]), ()) = C103.post (x, ())) (x_1.snd.1 ≠ [] ∧ List.length x_1.snd.1 ≤ (100000000000 : Nat) ∧ Pl.szs x_1.snd.1 ≤ (140737488355328 : Nat) ∧ Pl.joinR x_1.snd.1 = Lib.decDigits (Pl.nt x)))) n (x, [], ())) (by kernel_rfl) ?_
  have e : C103.post (x, ()) = (ba (Lib.decDigits (nt x)), ()) := rfl
  rw [e]
  obtain ⟨X, hX⟩ : ∃ X, X = nt x := ⟨_, rfl⟩
  rw [← hX]
  have hXW : X < W ^ x.length := by rw [hX]; exact nt_lt hx.1
  have hW64 : (W : Nat) ^ x.length = 2 ^ (64 * x.length) := by rw [Nat.pow_mul]; rfl
  have hWX : W ^ x.length ≤ 10 ^ (20 * x.length) := by
    rw [Nat.pow_mul]
    exact Nat.pow_le_pow_left (by decide) _
  have hlen : 1 ≤ x.length → (Lib.decDigits X).length ≤ 20 * x.length := fun h => dec_len (by omega) (Nat.lt_of_lt_of_le hXW hWX)
  have hnil : x.length = 0 → X = 0 := fun h => by
    rw [h, Nat.pow_zero] at hXW; omega
  have hlen2 : (Lib.decDigits X).length ≤ 2000000001 := by
    rcases Nat.eq_zero_or_pos x.length with h | h
    · rw [hnil h, dec_small (by decide)]; decide
    · have := hlen h; omega
  refine itl_rule (fun s => okN s.1 ∧ 2 ^ s.2.1.length * nt s.1 ≤ X ∧ (s.2.1.length ≤ 64 * x.length) ∧ (s.2.1 = [] → nt s.1 = X) ∧ (0 < nt s.1 → Lib.decDigits (nt s.1) ++ joinR s.2.1 = Lib.decDigits X) ∧ (nt s.1 = 0 → s.2.1 ≠ [] → joinR s.2.1 = Lib.decDigits X))
    (fun s => nt s.1) ⟨hx, by show 2 ^ 0 * nt x ≤ X; rw [hX]; omega, Nat.zero_le _, fun _ => hX.symm, fun _ => by show Lib.decDigits (nt x) ++ [] = _; rw [List.append_nil, hX], fun _ h => absurd rfl h⟩ ?_
  rintro ⟨q, ys, ⟨⟩⟩ G ⟨g1, g2, g3, g4, g5, g6⟩ hG
  simp only at g1 g2 g3 g4 g5 g6
  simp only
  have eq1 : qwN q (10000000000000000000 : Int) = tn (nt q / 10000000000000000000) := rfl
  have er1 : rwN q (10000000000000000000 : Int) = ((nt q % 10000000000000000000 : Nat) : Int) := rfl
  rw [eq1, er1]
  refine Br_of (fun hb => ?_) (fun hb => ?_)
  · have hq0 : 0 < nt q := (len_pos_nt g1.1).1 (by have := of_decide_eq_true hb; omega)
    have hrl := Nat.mod_lt (nt q) (show 0 < 10000000000000000000 by decide)
    have hk : ys.length < 64 * x.length := by
      have h1 : 2 ^ ys.length < 2 ^ (64 * x.length) := by
        rw [← hW64]
        exact Nat.lt_of_le_of_lt (Nat.le_trans (Nat.le_mul_of_pos_right _ hq0) g2) hXW
      exact (Nat.pow_lt_pow_iff_right (by decide)).1 h1
    have hdl : (Lib.decDigits (nt q % 10000000000000000000)).length ≤ 19 := dec_len (k := 19) (by decide) hrl
    have eds : decS ((nt q % 10000000000000000000 : Nat) : Int) = ba (Lib.decDigits (nt q % 10000000000000000000)) := by
      show ba (Lib.decDigits ((nt q % 10000000000000000000 : Nat) : Int).toNat) = _
      rw [Int.toNat_natCast]
    rw [eds]
    have hsz : (ba (Lib.decDigits (nt q % 10000000000000000000))).size = (Lib.decDigits (nt q % 10000000000000000000)).length := rfl
    rw [hsz]
    have hq' : nt q / 10000000000000000000 < nt q := Nat.div_lt_self hq0 (by decide)
    have hokq : okN (tn (nt q / 10000000000000000000)) := by
      refine okM_N (okM_tn (k := x.length) ?_ (by omega))
      have : nt q ≤ X := Nat.le_trans (Nat.le_mul_of_pos_left _ (Nat.two_pow_pos _)) g2
      omega
    have hpw : 2 ^ (ys.length + 1) * (nt q / 10000000000000000000) ≤ X := by
      refine Nat.le_trans ?_ g2
      rw [Nat.pow_succ, Nat.mul_assoc]
      exact Nat.mul_le_mul_left _ (by omega)
    refine ⟨⟨g1, by decide, by decide⟩, ⟨⟨by omega, by omega⟩, trivial⟩, Br_of (fun hc => ?_) (fun hc => ?_)⟩
    · have hqp : 0 < nt q / 10000000000000000000 := by
        have := (len_pos_nt (tn_can (nt q / 10000000000000000000))).1 (by have := of_decide_eq_true hc; omega)
        rwa [nt_tn] at this
      have w1 : IntKind.i64.wrap ((19 : Int) - ((Lib.decDigits (nt q % 10000000000000000000)).length : Int)) = ((19 - (Lib.decDigits (nt q % 10000000000000000000)).length : Nat) : Int) := by
        rw [wrap_i64 (by omega) (by omega)]; omega
      rw [w1]
      have epad : repS (ByteArray.mk #[(48 : UInt8)]) ((19 - (Lib.decDigits (nt q % 10000000000000000000)).length : Nat) : Int) ++ ba (Lib.decDigits (nt q % 10000000000000000000)) = ba (padk 19 (nt q % 10000000000000000000)) := by
        rw [(padk_dec 19 _ (by decide) hrl).2, ← repeat_one]
        show ba (Lib.repeatL [48] ((19 - (Lib.decDigits (nt q % 10000000000000000000)).length : Nat) : Int).toNat) ++ ba _ = _
        rw [Int.toNat_natCast]
        unfold ba
        apply ByteArray.ext
        simp
      have esz : (repS (ByteArray.mk #[(48 : UInt8)]) ((19 - (Lib.decDigits (nt q % 10000000000000000000)).length : Nat) : Int)).size = 19 - (Lib.decDigits (nt q % 10000000000000000000)).length := by
        show (ba (Lib.repeatL [48] ((19 - (Lib.decDigits (nt q % 10000000000000000000)).length : Nat) : Int).toNat)).size = _
        rw [Int.toNat_natCast, size_bl, bl_ba, repeat_one, List.length_replicate]
      rw [epad, esz]
      refine ⟨⟨by omega, by omega, by decide⟩, by omega, by simp only [List.length_singleton]; omega, hG _ ⟨hokq, ?_, ?_, ?_, ?_, ?_⟩ ?_⟩
      · show 2 ^ (ys ++ [ba (padk 19 (nt q % 10000000000000000000))]).length * nt (tn (nt q / 10000000000000000000)) ≤ X
        rw [nt_tn, List.length_append]; exact hpw
      · show (ys ++ [ba (padk 19 (nt q % 10000000000000000000))]).length ≤ _
        rw [List.length_append, List.length_singleton]; omega
      · intro h
        have h' : ys ++ [ba (padk 19 (nt q % 10000000000000000000))] = [] := h
        simp at h'
      · intro _
        show Lib.decDigits (nt (tn (nt q / 10000000000000000000))) ++ joinR (ys ++ [ba (padk 19 (nt q % 10000000000000000000))]) = _
        rw [nt_tn, joinR_snoc, bl_ba, ← List.append_assoc, ← g5 hq0]
        have := dec_split 19 (nt q) hqp
        rw [this]
      · intro h
        have h' : nt (tn (nt q / 10000000000000000000)) = 0 := h
        rw [nt_tn] at h'
        omega
      · show nt (tn (nt q / 10000000000000000000)) < nt q
        rw [nt_tn]; exact hq'
    · have hqz : nt q / 10000000000000000000 = 0 := by
        have := mt (len_pos_nt (tn_can (nt q / 10000000000000000000))).2 (by have := of_decide_eq_false hc; omega)
        rw [nt_tn] at this
        omega
      have hqm : nt q % 10000000000000000000 = nt q := Nat.mod_eq_of_lt (by omega)
      refine ⟨by simp only [List.length_singleton]; omega, hG _ ⟨hokq, ?_, ?_, ?_, ?_, ?_⟩ ?_⟩
      · show 2 ^ (ys ++ [ba (Lib.decDigits (nt q % 10000000000000000000))]).length * nt (tn (nt q / 10000000000000000000)) ≤ X
        rw [nt_tn, List.length_append]; exact hpw
      · show (ys ++ [ba (Lib.decDigits (nt q % 10000000000000000000))]).length ≤ _
        rw [List.length_append, List.length_singleton]; omega
      · intro h
        have h' : ys ++ [ba (Lib.decDigits (nt q % 10000000000000000000))] = [] := h
        simp at h'
      · intro h
        have h' : 0 < nt (tn (nt q / 10000000000000000000)) := h
        rw [nt_tn] at h'
        omega
      · intro _ _
        show joinR (ys ++ [ba (Lib.decDigits (nt q % 10000000000000000000))]) = _
        rw [joinR_snoc, bl_ba, hqm]
        exact g5 hq0
      · show nt (tn (nt q / 10000000000000000000)) < nt q
        rw [nt_tn]; exact hq'
  · have hq0 : nt q = 0 := by
      have := mt (len_pos_nt g1.1).2 (by have := of_decide_eq_false hb; omega)
      omega
    refine Br_of (fun hc => ?_) (fun hc => ?_)
    · have hys : ys = [] := List.eq_nil_of_length_eq_zero (by have : ((ys.length : Nat) : Int) = 0 := by simpa using hc
                                                              omega)
      have : X = 0 := by rw [← g4 hys]; exact hq0
      rw [this, dec_small (by decide)]; rfl
    · have hys : ys ≠ [] := fun h => by rw [h] at hc; exact absurd hc (by decide)
      have hj := g6 hq0 hys
      exact ⟨hys, by omega, by rw [szs_join, hj]; omega, hj⟩

end Ta
end
section
/- A natural number's text: the Builder. -/
set_option linter.unusedVariables false
set_option linter.unusedSimpArgs false
set_option maxRecDepth 100000
namespace Ta
open Go Fw Go.Proofs Go.RowKit Pl

theorem list_cons {n : Nat} {l : List Value} (h : l.length = n + 1) : ∃ x l', l = x :: l' ∧ l'.length = n := by
  cases l with
  | nil => simp at h
  | cons x l' => exact ⟨x, l', rfl, by simpa using h⟩
theorem arr47 {t : Array Value} (h : t.size = 47) : ∃ x0 x1 x2 x3 x4 x5 x6 x7 x8 x9 x10 x11 x12 x13 x14 x15 x16 x17 x18 x19 x20 x21 x22 x23 x24 x25 x26 x27 x28 x29 x30 x31 x32 x33 x34 x35 x36 x37 x38 x39 x40 x41 x42 x43 x44 x45 x46 : Value, t = #[x0, x1, x2, x3, x4, x5, x6, x7, x8, x9, x10, x11, x12, x13, x14, x15, x16, x17, x18, x19, x20, x21, x22, x23, x24, x25, x26, x27, x28, x29, x30, x31, x32, x33, x34, x35, x36, x37, x38, x39, x40, x41, x42, x43, x44, x45, x46] := by
  obtain ⟨l⟩ := t
  have h : l.length = 47 := h
  obtain ⟨x0, l0, e0, h0⟩ := list_cons h
  obtain ⟨x1, l1, e1, h1⟩ := list_cons h0
  obtain ⟨x2, l2, e2, h2⟩ := list_cons h1
  obtain ⟨x3, l3, e3, h3⟩ := list_cons h2
  obtain ⟨x4, l4, e4, h4⟩ := list_cons h3
  obtain ⟨x5, l5, e5, h5⟩ := list_cons h4
  obtain ⟨x6, l6, e6, h6⟩ := list_cons h5
  obtain ⟨x7, l7, e7, h7⟩ := list_cons h6
  obtain ⟨x8, l8, e8, h8⟩ := list_cons h7
  obtain ⟨x9, l9, e9, h9⟩ := list_cons h8
  obtain ⟨x10, l10, e10, h10⟩ := list_cons h9
  obtain ⟨x11, l11, e11, h11⟩ := list_cons h10
  obtain ⟨x12, l12, e12, h12⟩ := list_cons h11
  obtain ⟨x13, l13, e13, h13⟩ := list_cons h12
  obtain ⟨x14, l14, e14, h14⟩ := list_cons h13
  obtain ⟨x15, l15, e15, h15⟩ := list_cons h14
  obtain ⟨x16, l16, e16, h16⟩ := list_cons h15
  obtain ⟨x17, l17, e17, h17⟩ := list_cons h16
  obtain ⟨x18, l18, e18, h18⟩ := list_cons h17
  obtain ⟨x19, l19, e19, h19⟩ := list_cons h18
  obtain ⟨x20, l20, e20, h20⟩ := list_cons h19
  obtain ⟨x21, l21, e21, h21⟩ := list_cons h20
  obtain ⟨x22, l22, e22, h22⟩ := list_cons h21
  obtain ⟨x23, l23, e23, h23⟩ := list_cons h22
  obtain ⟨x24, l24, e24, h24⟩ := list_cons h23
  obtain ⟨x25, l25, e25, h25⟩ := list_cons h24
  obtain ⟨x26, l26, e26, h26⟩ := list_cons h25
  obtain ⟨x27, l27, e27, h27⟩ := list_cons h26
  obtain ⟨x28, l28, e28, h28⟩ := list_cons h27
  obtain ⟨x29, l29, e29, h29⟩ := list_cons h28
  obtain ⟨x30, l30, e30, h30⟩ := list_cons h29
  obtain ⟨x31, l31, e31, h31⟩ := list_cons h30
  obtain ⟨x32, l32, e32, h32⟩ := list_cons h31
  obtain ⟨x33, l33, e33, h33⟩ := list_cons h32
  obtain ⟨x34, l34, e34, h34⟩ := list_cons h33
  obtain ⟨x35, l35, e35, h35⟩ := list_cons h34
  obtain ⟨x36, l36, e36, h36⟩ := list_cons h35
  obtain ⟨x37, l37, e37, h37⟩ := list_cons h36
  obtain ⟨x38, l38, e38, h38⟩ := list_cons h37
  obtain ⟨x39, l39, e39, h39⟩ := list_cons h38
  obtain ⟨x40, l40, e40, h40⟩ := list_cons h39
  obtain ⟨x41, l41, e41, h41⟩ := list_cons h40
  obtain ⟨x42, l42, e42, h42⟩ := list_cons h41
  obtain ⟨x43, l43, e43, h43⟩ := list_cons h42
  obtain ⟨x44, l44, e44, h44⟩ := list_cons h43
  obtain ⟨x45, l45, e45, h45⟩ := list_cons h44
  obtain ⟨x46, l46, e46, h46⟩ := list_cons h45
  have e47 : l46 = [] := List.eq_nil_of_length_eq_zero h46
  subst e47 e46 e45 e44 e43 e42 e41 e40 e39 e38 e37 e36 e35 e34 e33 e32 e31 e30 e29 e28 e27 e26 e25 e24 e23 e22 e21 e20 e19 e18 e17 e16 e15 e14 e13 e12 e11 e10 e9 e8 e7 e6 e5 e4 e3 e2 e1 e0
  exact ⟨_, _, _, _, _, _, _, _, _, _, _, _, _, _, _, _, _, _, _, _, _, _, _, _, _, _, _, _, _, _, _, _, _, _, _, _, _, _, _, _, _, _, _, _, _, _, _, rfl⟩

def mu7 (a : Act) : Nat := (intOf (a.tmps.getD 7 undef) + 1).toNat
def inv103 (ys : List ByteArray) (g cap : Nat) (w : World) (a' : Act) (w' : World) : Prop :=
  ∃ k : Nat, k ≤ ys.length ∧ a'.defers = [] ∧ a'.tmps.size = 47 ∧ a'.tmps.getD 3 undef = .slice (some ⟨g, 0, none⟩) ys.length cap ∧ a'.tmps.getD 6 undef = .pointer (some ⟨w.heap.size, 0, none⟩) ∧
      a'.tmps.getD 7 undef = .int .i64 ((ys.length : Int) - k - 1) ∧ Lib.IsBuilder 75 5 w.heap.size w.heap.size (Lib.byteCells (joinR (ys.drop (ys.length - k)))) w' ∧ Below w.heap.size w w'
theorem joinR_drop {ys : List ByteArray} {m k : Nat} (hm : m + k + 1 = ys.length) : joinR (ys.drop (ys.length - (k + 1))) = joinR (ys.drop (ys.length - k)) ++ bl (ys[m]'(by omega)) := by
  have e1 : ys.length - (k + 1) = m := by omega
  have e2 : ys.length - k = m + 1 := by omega
  rw [e1, e2, List.drop_eq_getElem_cons (by omega)]
  rfl
theorem szs_drop {ys : List ByteArray} : ∀ {m : Nat}, szs (ys.drop m) ≤ szs ys := by
  induction ys with
  | nil => intro m; simp
  | cons s l ih =>
    intro m
    cases m with
    | zero => exact Nat.le_refl _
    | succ m => have := ih (m := m); simp only [List.drop_succ_cons, szs]; omega
theorem tail103 {ys : List ByteArray} {w : World} {a : Act} {Q : Exit → Act → World → Prop} {g cap : Nat} (hsz : a.tmps.size = 47) (hdf : a.defers = []) (hys : ys ≠ [])
    (h3 : a.tmps.getD 3 undef = .slice (some ⟨g, 0, none⟩) ys.length cap) (hl : ys.length ≤ 100000000000) (hs : szs ys ≤ 140737488355328)
    (hc : ∀ (j : Nat) (h : j < ys.length), w.cell? ⟨g, j, none⟩ = some (.string ys[j]))
    (hQ : ∀ a' w', a'.tmps.size = 47 → a'.defers = [] → a'.tmps.getD 2 undef = .string (ba (joinR ys)) → Below w.heap.size w w' → Q .ret a' w') : rest103.wp Tryd.prog Q a w := by
  obtain ⟨tmps, defers⟩ := a
  simp only at hsz hdf h3
  subst hdf
  obtain ⟨x0, x1, x2, x3, x4, x5, x6, x7, x8, x9, x10, x11, x12, x13, x14, x15, x16, x17, x18, x19, x20, x21, x22, x23, x24, x25, x26, x27, x28, x29, x30, x31, x32, x33, x34, x35, x36, x37, x38, x39, x40, x41, x42, x43, x44, x45, x46, rfl⟩ := arr47 hsz
  have e3 : x3 = .slice (some ⟨g, 0, none⟩) ys.length cap := h3
  subst e3
  clear h3 hsz
  have mixed : Tryd.prog.follows .mixedOrders = true := by kernel_rfl
  have t3 := Tryd.underlying3; have a3 := Tryd.isAgg3; have z3 := Tryd.sizeOf3; have v3 := Tryd.zeroValue3
  have t9 := Tryd.underlying9; have a9 := Tryd.isAgg9; have z9 := Tryd.sizeOf9; have v9 := Tryd.zeroValue9
  have t4 := Tryd.underlying4; have a4 := Tryd.isAgg4; have z4 := Tryd.sizeOf4; have v4 := Tryd.zeroValue4
  have t134 := Tryd.underlying68; have a134 := Tryd.isAgg68; have z134 := Tryd.sizeOf68; have v134 := Tryd.zeroValue68
  have t139 := Tryd.underlying75; have a139 := Tryd.isAgg75; have z139 := Tryd.sizeOf75; have v139 := Tryd.zeroValue75
  have e132 : ∀ args w, (callFunc 36 args).run Tryd.prog w = .ok (.enter 36 args) w := enters_of Tryd.func36 (by kernel_rfl) rfl
  have e133 : ∀ args w, (callFunc 37 args).run Tryd.prog w = .ok (.enter 37 args) w := enters_of Tryd.func37 (by kernel_rfl) rfl
  simp only [rest103, bd103, sL, sR, Tryd.f20]
  have hlp : 0 < ys.length := List.length_pos_iff.2 hys
  go_wp2
  refine wp_loop (inv103 ys g cap w) (fun a' _ => mu7 a')
    ⟨0, Nat.zero_le _, rfl, rfl, rfl, rfl, ?_, ?_, Below.alloc (Below.refl _ _) (Nat.le_refl _) _⟩ ?_
  · show Value.int .i64 _ = _
    simp
  · have h0 := Lib.fresh_isBuilder 75 5 w
    rw [Nat.sub_zero, List.drop_length]
    exact h0
  rintro ⟨tmps, defers⟩ w' ⟨k, hk, hd, hsz, h3, h6, h7, hB, hbel⟩
  simp only at hd hsz h3 h6 h7
  subst hd
  obtain ⟨x0, x1, x2, x3, x4, x5, x6, x7, x8, x9, x10, x11, x12, x13, x14, x15, x16, x17, x18, x19, x20, x21, x22, x23, x24, x25, x26, x27, x28, x29, x30, x31, x32, x33, x34, x35, x36, x37, x38, x39, x40, x41, x42, x43, x44, x45, x46, rfl⟩ := arr47 hsz
  have e3 : x3 = .slice (some ⟨g, 0, none⟩) ys.length cap := h3
  have e6 : x6 = .pointer (some ⟨w.heap.size, 0, none⟩) := h6
  have e7 : x7 = .int .i64 ((ys.length : Int) - k - 1) := h7
  subst e3 e6 e7
  clear h3 h6 h7 hsz
  by_cases hkn : k = ys.length
  · subst hkn
    have hbw : w.heap.size ≤ w'.heap.size := hbel.size
    rw [Nat.sub_self, List.drop_zero] at hB
    have em : (ys.length : Int) - ys.length - 1 = -1 := by omega
    rw [em]
    have hstr := Lib.hid (Any.Builder_String_any (ρ := sl105_ren) { sl105 with } be105 w.heap.size w.heap.size (joinR ys) _ hB hbw)
    go_wp2_with (go_at_fn 37; refine hstr.out.mono ?_; rintro e w'' ⟨rfl, hb2⟩)
    exact hQ _ _ rfl rfl rfl (hbel.trans hb2)
  · obtain ⟨m, hm⟩ : ∃ m : Nat, m + k + 1 = ys.length := ⟨ys.length - k - 1, by omega⟩
    have em : (ys.length : Int) - k - 1 = (m : Int) := by omega
    rw [em]
    have hcell : w'.cell? ⟨g, m, none⟩ = some (.string (ys[m]'(by omega))) := by
      have hg := hc m (by omega)
      have h5 : g < w.heap.size := by
        rcases Nat.lt_or_ge g w.heap.size with h | h
        · exact h
        · unfold World.cell? at hg
          rw [Array.getElem?_eq_none h] at hg
          cases hg
      unfold World.cell? at hg ⊢
      rw [hbel.block g h5]; exact hg
    have hbw : w.heap.size ≤ w'.heap.size := hbel.size
    have hlen : (Lib.byteCells (joinR (ys.drop (ys.length - k)))).length + (ys[m]'(by omega)).size ≤ 140737488355328 := by
      have h1 : (joinR (ys.drop (ys.length - (k + 1)))).length ≤ szs ys := by rw [← szs_join]; exact szs_drop
      rw [joinR_drop hm, List.length_append] at h1
      rw [Lib.byteCells_length, size_bl]
      omega
    go_wp2_with (go_at_fn 36; refine (Any.Builder_WriteString (ρ := sl105_ren) { sl105 with } be105 w.heap.size w.heap.size _ _ _ hB hlen hbw).mono ?_; rintro e w'' ⟨rfl, hB2, hb2⟩)
    refine ⟨⟨k + 1, by omega, rfl, rfl, rfl, rfl, ?_, ?_, hbel.trans hb2⟩, ?_⟩
    · show Value.int .i64 ((m : Int) - 1) = _
      congr 1; omega
    · rw [joinR_drop hm]
      refine .inr ?_
      have e : Lib.byteCells (joinR (ys.drop (ys.length - k)) ++ bl (ys[m]'(by omega))) = Lib.byteCells (joinR (ys.drop (ys.length - k))) ++ Lib.strCells (ys[m]'(by omega)) := by
        unfold Lib.byteCells Lib.strCells
        rw [List.map_append]; rfl
      rw [e]
      exact hB2
    · show ((m : Int) - 1 + 1).toNat < ((m : Int) + 1).toNat
      omega

end Ta
end
section
/- A natural number's text is sound. -/
set_option linter.unusedVariables false
set_option linter.unusedSimpArgs false
set_option maxRecDepth 100000
namespace Ta
open Go Fw Go.Proofs Go.RowKit Pl

theorem body103 : Tryd.f20.body = some (.seq (sL bd103) (.seq (sL (sR bd103)) (.seq (sL (sR (sR bd103))) (.seq (sL (sR (sR (sR bd103)))) rest103)))) := by kernel_rfl
theorem tok103 : Tok Tryd.prog T103 := tokg (T := T103) ⟨snd114, snd130, snd131, trivial⟩ trivial trivial
theorem end103 {F : Fr} {w0 w : World} {O0 : Nat → Prop} {A : AState} {ι : Nat → Value} {a : Act} (R : Rel T103 F w0 O0 47 A ι a w) {x : List Int} (hK : mid103 (fun _ _ _ => True) x .ret A) :
    bodyPost Tryd.prog Tryd.f20 (CPost C103 (x, ()) w0 O0) .ret a w := by
  have hK' : finish T103 Tryd.f20.results.toList C103 (x, ()) .ret A := hK
  obtain ⟨_, v, h1, h2⟩ := finish_sound (fn := Tryd.f20) tok103.tt R hK'
  exact ⟨R.defers, v, h1, h2⟩
theorem rest_ok {F : Fr} {w0 w : World} {O0 : Nat → Prop} {A : AState} {ι : Nat → Value} {a : Act} (R : Rel T103 F w0 O0 47 A ι a w) {x : List Int} (hK : mid103 (fun _ _ _ => True) x .normal A) :
    rest103.wp Tryd.prog (bodyPost Tryd.prog Tryd.f20 (CPost C103 (x, ()) w0 O0)) a w := by
  unfold mid103 at hK
  simp only at hK
  split at hK
  · rename_i id hid
    split at hK
    · rename_i t xs hob
      split at hK
      · rename_i ys hys
        obtain ⟨k1, k2, k3, k4⟩ := hK
        have h3 := R.env 3
        rw [hid] at h3
        have h3' : a.tmps.getD 3 undef = ι id := h3
        unfold castL at hys
        split at hys
        · rename_i htb
          have := Ty.eq_of_beq htb
          subst this
          have hy : xs = ys := by injection hys
          subst hy
          obtain ⟨vs, ho, hel⟩ := R.obj id _ hob
          rcases ho.2 with ⟨e1, h0⟩ | ⟨g, cap, cur, e1, hg, hh, hnc, hcm, hcs, ht⟩
          · exact absurd (List.eq_nil_of_length_eq_zero h0) k1
          · have hn : xs.length * Ty.str.size = xs.length := Nat.mul_one _
            have hcell : ∀ (j : Nat) (h : j < xs.length), w.cell? ⟨g, j, none⟩ = some (.string xs[j]) := fun j h => by
              have h5 : vs[j * 1]? = some (.string xs[j]) := hel j h
              rw [Nat.mul_one, ← ht, hn, List.getElem?_take, if_pos h, Array.getElem?_toList] at h5
              unfold World.cell?
              simp only [hh, Option.isSome_none, Bool.false_eq_true, if_false]
              exact h5
            refine tail103 R.size R.defers k1 (h3'.trans e1) k2 k3 hcell fun a' w' q1 q2 q3 q4 => ?_
            refine ⟨q2, a'.tmps.getD 2 undef, by simp [results, Tryd.f20], ?_⟩
            rw [q3]
            refine cpost_sc rfl rfl ?_ (R.below.trans (q4.mono R.below.size))
            show Ending.returned (.string (ba (joinR xs))) = .returned (.string (ba (Lib.decDigits (nt x))))
            rw [k4]
        · cases hys
      · exact hK.elim
    · exact hK.elim
  · exact hK.elim

theorem snd103 : Sound Tryd.prog 20 C103 := by
  rintro ⟨x, ⟨⟩⟩ hx w O vs hO hl
  refine .inl ⟨run_callFunc Tryd.func20 (by kernel_rfl) (by kernel_rfl) vs, ?_⟩
  have h := vc103 x hx
  have R := start_rel (T := T103) (N := 47) rfl rfl hO hl (by show 1 ≤ 47; decide)
  refine calls_of_wp Tryd.func20 body103 ?_
  have fin : ∀ {e : AX} {A : AState} {ι : Nat → Value} {a : Act} {w' : World} (R : Rel T103 ⟨fun _ => none, fun _ => undef⟩ w O 47 A ι a w'), e ≠ .normal → mid103 (fun _ _ _ => True) x e A →
      bodyPost Tryd.prog Tryd.f20 (CPost C103 (x, ()) w O) (ax T103 e) a w' := by
    intro e A ι a w' R he hK
    cases e with
    | normal => exact absurd rfl he
    | ret => exact end103 R hK
    | exit i => exact hK.elim
    | pan => exact hK.elim
  refine wp_seq (code_sound tok103 _ 0 _ _ R h (fun e A1 a1 w1 hK haf => ?_))
  cases e with
  | normal =>
    obtain ⟨ι1, R1, _⟩ := haf
    refine wp_seq (code_sound tok103 _ 0 _ _ R1 hK (fun e A2 a2 w2 hK haf => ?_))
    cases e with
    | normal =>
      obtain ⟨ι2, R2, _⟩ := haf
      have hK2 : awp T103 H103 47 (sL (sR (sR bd103))) 0 (fun e A' => match e with
        | .normal => awp T103 H103 47 (sL (sR (sR (sR bd103)))) 0 (mid103 (fun _ _ _ => True) x) A'
        | e => mid103 (fun _ _ _ => True) x e A') A2 := hK
      refine wp_seq (code_sound tok103 _ 0 _ _ R2 hK2 (fun e A3 a3 w3 hK haf => ?_))
      cases e with
      | normal =>
        obtain ⟨ι3, R3, _⟩ := haf
        have hK3 : awp T103 H103 47 (sL (sR (sR (sR bd103)))) 0 (mid103 (fun _ _ _ => True) x) A3 := hK
        refine wp_seq (code_sound tok103 _ 0 _ _ R3 hK3 (fun e A4 a4 w4 hK haf => ?_))
        obtain ⟨ι4, R4, _⟩ := haf
        cases e with
        | normal => exact rest_ok R4 hK
        | exit i => exact fin R4 (by simp) hK
        | ret => exact fin R4 (by simp) hK
        | pan => exact fin R4 (by simp) hK
      | exit i => obtain ⟨ι3, R3, _⟩ := haf; exact fin R3 (by simp) hK
      | ret => obtain ⟨ι3, R3, _⟩ := haf; exact fin R3 (by simp) hK
      | pan => obtain ⟨ι3, R3, _⟩ := haf; exact fin R3 (by simp) hK
    | exit i => obtain ⟨ι3, R3, _⟩ := haf; exact fin R3 (by simp) hK
    | ret => obtain ⟨ι3, R3, _⟩ := haf; exact fin R3 (by simp) hK
    | pan => obtain ⟨ι3, R3, _⟩ := haf; exact fin R3 (by simp) hK
  | exit i => obtain ⟨ι3, R3, _⟩ := haf; exact fin R3 (by simp) hK
  | ret => obtain ⟨ι3, R3, _⟩ := haf; exact fin R3 (by simp) hK
  | pan => obtain ⟨ι3, R3, _⟩ := haf; exact fin R3 (by simp) hK

end Ta
end
section
/- Integers: what may be refused as too large: sums, products, powers, texts. -/
set_option linter.unusedVariables false
set_option linter.unusedSimpArgs false
set_option maxRecDepth 100000
namespace Ta
open Go Fw Go.Proofs Go.RowKit Pl

theorem snd106 : Sound Tryd.prog 12 C106 := fn_sound (T := T106) (fn := Tryd.f12) (tokg (T := T106) trivial trivial trivial) Tryd.func12 (by kernel_rfl) H0 vc106 (by kernel_rfl)
theorem snd21 : Sound Tryd.prog 40 C21 := fn_sound (T := T21) (fn := Tryd.f40) (tokg (T := T21) trivial trivial trivial) Tryd.func40 (by kernel_rfl) H0 vc21 (by kernel_rfl)
theorem snd50 : Sound Tryd.prog 66 C50 := fn_sound (T := T50) (fn := Tryd.f66) (tokg (T := T50) ⟨snd106, trivial⟩ trivial trivial) Tryd.func66 (by kernel_rfl) H0 vc50 (by kernel_rfl)
theorem snd52 : Sound Tryd.prog 10 C52 := fn_sound (T := T52) (fn := Tryd.f10) (tokg (T := T52) ⟨snd107, trivial⟩ trivial trivial) Tryd.func10 (by kernel_rfl) H0 vc52 (by kernel_rfl)
theorem snd75 : Sound Tryd.prog 4 C75 := fn_sound (T := T75) (fn := Tryd.f4) (tokg (T := T75) ⟨snd111, snd106, trivial⟩ trivial trivial) Tryd.func4 (by kernel_rfl) H0 vc75 (by kernel_rfl)
theorem snd76 : Sound Tryd.prog 41 C76 := fn_sound (T := T76) (fn := Tryd.f41) (tokg (T := T76) ⟨snd119, snd111, snd120, snd121, snd106, trivial⟩ trivial trivial) Tryd.func41 (by kernel_rfl) H0 vc76 (by kernel_rfl)
theorem snd89 : Sound Tryd.prog 51 C89 := fn_sound (T := T89) (fn := Tryd.f51) (tokg (T := T89) ⟨snd120, snd121, snd107, snd106, trivial⟩ trivial trivial) Tryd.func51 (by kernel_rfl) H0 vc89 (by kernel_rfl)
theorem snd92 : Sound Tryd.prog 49 C92 := fn_sound (T := T92) (fn := Tryd.f49) (tokg (T := T92) ⟨snd112, snd106, trivial⟩ trivial trivial) Tryd.func49 (by kernel_rfl) H0 vc92 (by kernel_rfl)
theorem snd90 : SoundX Tryd.prog 64 19 C90 := fnx_sound (T := T90) (fn := Tryd.f19) (tokg (T := T90) trivial trivial ⟨snd113, trivial⟩) Tryd.func19 (by kernel_rfl) H0 vcx90 (by kernel_rfl)
theorem snd48 : Sound Tryd.prog 5 C48 := fn_sound (T := T48) (fn := Tryd.f5) (tokg (T := T48) ⟨snd105, trivial⟩ trivial trivial) Tryd.func5 (by kernel_rfl) H0 vc48 (by kernel_rfl)
theorem snd19 : Sound Tryd.prog 23 C19 := fn_sound (T := T19) (fn := Tryd.f23) (tokg (T := T19) ⟨snd21, snd76, snd77, trivial⟩ trivial trivial) Tryd.func23 (by kernel_rfl) H0 vc19 (by kernel_rfl)
theorem snd97 : Sound Tryd.prog 15 C97 := fn_sound (T := T97) (fn := Tryd.f15) (tokg (T := T97) ⟨snd127, trivial⟩ trivial trivial) Tryd.func15 (by kernel_rfl) H97 vc97 (by kernel_rfl)
theorem snd128 : Sound Tryd.prog 31 C128 := fn_sound (T := T128) (fn := Tryd.f31) (tokg (T := T128) ⟨snd111, snd112, snd120, trivial⟩ trivial trivial) Tryd.func31 (by kernel_rfl) H128 vc128 (by kernel_rfl)
theorem snd98 : Sound Tryd.prog 18 C98 := fn_sound (T := T98) (fn := Tryd.f18) (tokg (T := T98) ⟨snd127, snd128, snd106, trivial⟩ trivial trivial) Tryd.func18 (by kernel_rfl) H0 vc98 (by kernel_rfl)
theorem snd102 : SoundX Tryd.prog 64 17 C102 := fnx_sound (T := T102) (fn := Tryd.f17) (tokg (T := T102) ⟨snd98, trivial⟩ trivial ⟨snd90, trivial⟩) Tryd.func17 (by kernel_rfl) H0 vcx102 (by kernel_rfl)
/-! ### What is attempted -/
theorem att_of {n : Int} {z : Zv} {p : Bool} (hz : z = mkI n) (hp : p = bigI n) : (p = true → att1 n = ([], false, ()) ∧ att2 n = 11) ∧ (p = false → att1 n = z ∧ att2 n = 0) := by
  subst hz hp
  unfold att1 att2
  cases bigI n
  · exact ⟨fun h => (by cases h), fun _ => ⟨rfl, rfl⟩⟩
  · exact ⟨fun _ => ⟨rfl, rfl⟩, fun h => (by cases h)⟩
theorem snd87 : Sound Tryd.prog 16 C87 := by
  rintro ⟨d, ⟨⟩⟩ hd w O vs hO hl
  obtain ⟨u, us, e1, hu, hus⟩ := hl
  have hus' : us = [] := hus
  subst hus'
  have ev := arr_eq e1
  subst ev
  have hpost : C87.post (d, ()) = (att1 (cloV d), att2 (cloV d), ()) := rfl
  have fin : ∀ {e : Ending} {w' : World}, (∃ v, e = .returned v ∧ Below w.heap.size w w' ∧ ∀ ι, ARep w' O ι (resAV (encs [ZI, E] (att1 (cloV d), att2 (cloV d), ()))) v) → CPost C87 (d, ()) w O e w' := by
    rintro e w' ⟨v, h1, h2, h3⟩
    exact ⟨v, h1, h2, h3, fun e he => by cases he⟩
  have hd' : okClo d := hd
  unfold okClo at hd'
  split at hd'
  · rename_i f d1 d2
    exact hd'.elim
  · rename_i f d1
    obtain ⟨cs, rfl, hcs⟩ := (show ∃ cs : Array Value, u = .func (.func f) #[] cs ∧ LRep w O [d1] cs.toList from hu)
    refine .inl ⟨run_callFunc Tryd.func16 (by kernel_rfl) (by kernel_rfl) _, ?_⟩
    obtain ⟨rfl, h1⟩ := hd'
    have hA := att_of (n := parS (dS d1)) (z := froI (dS d1)) (p := big (froI (dS d1)).1) rfl (big_mk _)
    exact (att87 snd102 (y := (d1, ())) h1 hO hcs hA.1 hA.2).mono fun e w' h => fin h
  · exact hd'.elim

theorem isZ_of {a : List Int} {s : Bool} (h : okI (a, s, ())) : isZ (.rptr [.slc false u64 a, .bool s]) := ⟨⟨_, _, _, rfl⟩, h⟩
theorem okI_ng {z : Zv} (h : okI z) : okI (ngI z) := okI_mk (k := KI) (by rw [Int.natAbs_neg]; exact okI_abs h) (by rw [KI_eq]; decide)
theorem iv_ng (z : Zv) : iv (ngI z) = -(iv z) := iv_mk _
theorem vc45 : ∀ x, C45.pre x → VC T45 H45 Tryd.f6 C45 x := by
  rintro ⟨(s : ByteArray), ⟨⟩⟩ (h : s.size ≤ 9000000000000000000)
  refine cast (α := s.size ≤ (9000000000000000000 : Nat) ∧ Br (!Pl.isF s) ((([], false, ()), (10 : Int), ()) = C45.post (s, ())) (Br (decide ((↑s.size : Int) > (40000 : Int))) ((([], false, ()), (11 : Int), ()) = C45.post (s, ())) (Pl.okClo (D.clo (17 : Nat) [D.rptr [D.str s]]) ∧ (((Pl.at1 (D.clo (17 : Nat) [D.rptr [D.str s]])).1, (Pl.at1 (D.clo (17 : Nat) [D.rptr [D.str s]])).snd.fst, ()), Pl.at2 (D.clo (17 : Nat) [D.rptr [D.str s]]), ()) = C45.post (s, ())))) (by kernel_rfl) ?_
  have e : C45.post (s, ()) = (if isF s = true ∧ s.size ≤ 40000 then att1 (parS s) else mkI 0, if isF s = true then (if s.size ≤ 40000 then att2 (parS s) else 11) else 10, ()) := rfl
  rw [e]
  refine ⟨h, Br_of (fun hb => ?_) (fun hb => Br_of (fun hc => ?_) (fun hc => ?_))⟩
  · have hf : isF s = false := by simpa using hb
    rw [hf]; rfl
  · have hf : isF s = true := by simpa using hb
    have := of_decide_eq_true hc
    rw [hf, if_neg (by omega), if_pos rfl, if_neg (by omega)]; rfl
  · have hf : isF s = true := by simpa using hb
    have := of_decide_eq_false hc
    have hs : s.size ≤ 40000 := by omega
    rw [hf, if_pos ⟨rfl, hs⟩, if_pos rfl, if_pos hs]
    exact ⟨⟨rfl, ⟨s, rfl⟩, hf, hs⟩, rfl⟩
theorem bl_append (a b : ByteArray) : bl (a ++ b) = bl a ++ bl b := by
  obtain ⟨⟨a⟩⟩ := a
  obtain ⟨⟨b⟩⟩ := b
  show bl (ByteArray.append _ _) = _
  unfold bl
  simp [ByteArray.append, ByteArray.copySlice]
theorem ba_append (a b : List UInt8) : ba a ++ ba b = ba (a ++ b) := by
  rw [← ba_bl (ba a ++ ba b), bl_append, bl_ba, bl_ba]
theorem dec_len_W {n k : Nat} (hk : 1 ≤ k) (h : n < W ^ k) : (Lib.decDigits n).length ≤ 20 * k := by
  refine dec_len (by omega) (Nat.lt_of_lt_of_le h ?_)
  rw [Nat.pow_mul]
  exact Nat.pow_le_pow_left (by decide) _
theorem vc46 : ∀ x, C46.pre x → VC T46 H0 Tryd.f7 C46 x := by
  rintro ⟨⟨(a : List Int), (s : Bool), ⟨⟩⟩, ⟨⟩⟩ (h : okI (a, s, ()))
  refine cast (α := Br s ((Pl.okN a ∧ a.length ≤ (100000000 : Nat)) ∧ (↑((ByteArray.mk #[(45 : UInt8)]).size + (Pl.txtN (Pl.nt a)).size) : Int) ≤ (9223372036854775807 : Int) ∧ ((ByteArray.mk #[(45 : UInt8)]) ++ Pl.txtN (Pl.nt a), ()) = C46.post ((a, s, ()), ())) ((Pl.okN a ∧ a.length ≤ (100000000 : Nat)) ∧ (Pl.txtN (Pl.nt a), ()) = C46.post ((a, s, ()), ()))) (by kernel_rfl) ?_
  have e : C46.post ((a, s, ()), ()) = (ba (Lib.itoa (iv (a, s, ()))), ()) := rfl
  rw [e]
  refine Br_of (fun hs => ?_) (fun hs => ?_)
  · subst hs
    have hp := okI_pos h
    refine ⟨⟨okI_N h, by have := okI_len h; omega⟩, ?_, ?_⟩
    · have := dec_len_W (n := nt a) (k := KI) (by rw [KI_eq]; decide) (okI_lt h)
      have e1 : (txtN (nt a)).size = (Lib.decDigits (nt a)).length := size_bl _
      rw [e1]
      show (((1 + (Lib.decDigits (nt a)).length : Nat)) : Int) ≤ _
      rw [KI_eq] at this
      omega
    · show (ba [45] ++ ba (Lib.decDigits (nt a)), ()) = _
      rw [ba_append, iv_t, Lib.itoa_neg _ hp]; rfl
  · subst hs
    refine ⟨⟨okI_N h, by have := okI_len h; omega⟩, ?_⟩
    rw [iv_f, Lib.itoa_nonneg]; rfl
theorem snd45 : Sound Tryd.prog 6 C45 := fn_sound (T := T45) (fn := Tryd.f6) (tokg (T := T45) ⟨snd97, snd87, trivial⟩ trivial trivial) Tryd.func6 (by kernel_rfl) H45 vc45 (by kernel_rfl)
theorem snd46 : Sound Tryd.prog 7 C46 := fn_sound (T := T46) (fn := Tryd.f7) (tokg (T := T46) ⟨snd103, trivial⟩ trivial trivial) Tryd.func7 (by kernel_rfl) H0 vc46 (by kernel_rfl)

end Ta
end
section
/- What is left by a panic is caught: fractions (attempt). -/
set_option linter.unusedVariables false
set_option linter.unusedSimpArgs false
set_option maxRecDepth 100000
namespace Ta
open Go Fw Go.Proofs Go.RowKit Pl

theorem catch129_idle (p q : Addr) (w : World) :
    CallsD Tryd.prog 68 #[.pointer (some p), .pointer (some q)] .returning w fun e u' w' => e = .returned (.tuple #[]) ∧ u' = .returning ∧ w' = w := by
  have t3 := Tryd.underlying3; have a3 := Tryd.isAgg3; have z3 := Tryd.sizeOf3; have v3 := Tryd.zeroValue3
  have t4 := Tryd.underlying4; have a4 := Tryd.isAgg4; have z4 := Tryd.sizeOf4; have v4 := Tryd.zeroValue4
  have t20 := Tryd.underlying20; have a20 := Tryd.isAgg20; have z20 := Tryd.sizeOf20; have v20 := Tryd.zeroValue20
  have t25 := Tryd.underlying25; have a25 := Tryd.isAgg25; have z25 := Tryd.sizeOf25; have v25 := Tryd.zeroValue25
  have t44 := Tryd.underlying56; have a44 := Tryd.isAgg56; have z44 := Tryd.sizeOf56; have v44 := Tryd.zeroValue56
  have t33 := Tryd.underlying29; have a33 := Tryd.isAgg29; have z33 := Tryd.sizeOf29; have v33 := Tryd.zeroValue29
  have t130 := Tryd.underlying64; have a130 := Tryd.isAgg64; have z130 := Tryd.sizeOf64; have v130 := Tryd.zeroValue64
  refine callsD_of_wpS Tryd.func68 rfl fun c₀ cs hu => ?_
  apply wpS_seq
  apply wpS_region
  simp [wpOpsS, go_sem, recoverD, hu, Tryd.ntmps68, Exit.thenS]
  show Code.wpS _ _ _ (⟨#[.pointer (some p), .pointer (some q), .nilIface, undef, undef, undef, .nilIface, undef, undef, undef, undef, undef, undef, undef, undef, undef, undef, undef], []⟩ : Act) _ _
  refine wpS_of_wp ?_
  go_wp2
  cases c₀
  simp_all [bodyPostS, results, Tryd.results68]

/-- Behind a panic that was caught. -/
def caughtQ (w : World) (n : Nat) : World :=
  (((((w.alloc (.cells #[] 64)).alloc (.cells #[.slice none 0 0, .bool false, .slice none 0 0] 56)).setCell ⟨n, 0, none⟩ (.slice none 0 0)).setCell ⟨n, 1, none⟩ (.bool false)).setCell ⟨n, 2, none⟩ (.slice none 0 0)).setCell ⟨n + 1, 0, none⟩ (.int .i64 11)

set_option maxHeartbeats 1000000 in
theorem catch129 (n : Nat) (older : List PanicEntry) (w : World) {a0 a1 a2 c0 : Value} {T T' : TypeId} (hn : w.heap[n]? = some (.cells #[a0, a1, a2] T (0, 0))) (hn1 : w.heap[n + 1]? = some (.cells #[c0] T' (0, 0))) :
    CallsD Tryd.prog 68 #[.pointer (some ⟨n, 0, none⟩), .pointer (some ⟨n + 1, 0, none⟩)] (.panicking ({ v := .iface 64 (.agg #[]), recovered := false } :: older)) w fun e u' w' =>
      e = .returned (.tuple #[]) ∧ u' = .panicking ({ v := .iface 64 (.agg #[]), recovered := true } :: older) ∧ w' = caughtQ w n := by
  have hta := assert130
  have k0 : ((w.alloc (.cells #[] 64)).alloc (.cells #[.slice none 0 0, .bool false, .slice none 0 0] 56)).heap[n]? = some (.cells #[a0, a1, a2] T (0, 0)) := heap_alloc_old (heap_alloc_old hn)
  have k1 : ((w.alloc (.cells #[] 64)).alloc (.cells #[.slice none 0 0, .bool false, .slice none 0 0] 56)).heap[n + 1]? = some (.cells #[c0] T' (0, 0)) := heap_alloc_old (heap_alloc_old hn1)
  have f0 := cell_at (off := 0) k0
  have f1 := frozen_at (off := 0) k0
  have k2 := heap_set_same (off := 0) (v := .slice none 0 0) k0
  have f2 := cell_at (off := 1) k2
  have f3 := frozen_at (off := 1) k2
  have k4 := heap_set_same (off := 1) (v := .bool false) k2
  have f6 := cell_at (off := 2) k4
  have f7 := frozen_at (off := 2) k4
  have k3 : (((((w.alloc (.cells #[] 64)).alloc (.cells #[.slice none 0 0, .bool false, .slice none 0 0] 56)).setCell ⟨n, 0, none⟩ (.slice none 0 0)).setCell ⟨n, 1, none⟩ (.bool false)).setCell ⟨n, 2, none⟩ (.slice none 0 0)).heap[n + 1]? = some (.cells #[c0] T' (0, 0)) := by
    rw [heap_set_other (by omega), heap_set_other (by omega), heap_set_other (by omega)]; exact k1
  have f4 := cell_at (off := 0) k3
  have f5 := frozen_at (off := 0) k3
  have g0 : (#[a0, a1, a2] : Array Value)[0]? = some a0 := rfl
  have g1 : ((#[a0, a1, a2] : Array Value).setIfInBounds 0 (.slice none 0 0))[1]? = some a1 := rfl
  have g3 : (((#[a0, a1, a2] : Array Value).setIfInBounds 0 (.slice none 0 0)).setIfInBounds 1 (.bool false))[2]? = some a2 := rfl
  have g2 : (#[c0] : Array Value)[0]? = some c0 := rfl
  rw [g0] at f0
  rw [g1] at f2
  rw [g3] at f6
  rw [g2] at f4
  clear k0 k1 k2 k3 k4 g0 g1 g2 g3
  have t3 := Tryd.underlying3; have a3 := Tryd.isAgg3; have z3 := Tryd.sizeOf3; have v3 := Tryd.zeroValue3
  have t4 := Tryd.underlying4; have a4 := Tryd.isAgg4; have z4 := Tryd.sizeOf4; have v4 := Tryd.zeroValue4
  have t20 := Tryd.underlying20; have a20 := Tryd.isAgg20; have z20 := Tryd.sizeOf20; have v20 := Tryd.zeroValue20
  have t23 := Tryd.underlying23; have a23 := Tryd.isAgg23; have z23 := Tryd.sizeOf23; have v23 := Tryd.zeroValue23
  have t25 := Tryd.underlying25; have a25 := Tryd.isAgg25; have z25 := Tryd.sizeOf25; have v25 := Tryd.zeroValue25
  have t33 := Tryd.underlying29; have a33 := Tryd.isAgg29; have z33 := Tryd.sizeOf29; have v33 := Tryd.zeroValue29
  have t44 := Tryd.underlying56; have a44 := Tryd.isAgg56; have z44 := Tryd.sizeOf56; have v44 := Tryd.zeroValue56
  have t130 := Tryd.underlying64; have a130 := Tryd.isAgg64; have z130 := Tryd.sizeOf64; have v130 := Tryd.zeroValue64
  refine callsD_of_wpS Tryd.func68 rfl fun c₀ cs hu => ?_
  apply wpS_seq
  apply wpS_region
  simp [wpOpsS, go_sem, recoverD, hu, Tryd.ntmps68, Exit.thenS]
  show Code.wpS _ _ _ (⟨#[.pointer (some ⟨n, 0, none⟩), .pointer (some ⟨n + 1, 0, none⟩), .iface 64 (.agg #[]), undef, undef, undef, .iface 64 (.agg #[]), undef, undef, undef, undef, undef, undef, undef, undef, undef, undef, undef], []⟩ : Act) _ _
  refine wpS_of_wp ?_
  go_wp2
  simp [bodyPostS, results, Tryd.results68, caughtQ]

theorem caughtQ_at {w : World} {n : Nat} {a0 a1 a2 c0 : Value} {T T' : TypeId} (hn : w.heap[n]? = some (.cells #[a0, a1, a2] T (0, 0))) (hn1 : w.heap[n + 1]? = some (.cells #[c0] T' (0, 0))) :
    (caughtQ w n).heap[n]? = some (.cells #[.slice none 0 0, .bool false, .slice none 0 0] T (0, 0)) ∧ (caughtQ w n).heap[n + 1]? = some (.cells #[.int .i64 11] T' (0, 0)) := by
  have k0 : ((w.alloc (.cells #[] 64)).alloc (.cells #[.slice none 0 0, .bool false, .slice none 0 0] 56)).heap[n]? = some (.cells #[a0, a1, a2] T (0, 0)) := heap_alloc_old (heap_alloc_old hn)
  have k1 : ((w.alloc (.cells #[] 64)).alloc (.cells #[.slice none 0 0, .bool false, .slice none 0 0] 56)).heap[n + 1]? = some (.cells #[c0] T' (0, 0)) := heap_alloc_old (heap_alloc_old hn1)
  have k2 := heap_set_same (off := 2) (v := .slice none 0 0) (heap_set_same (off := 1) (v := .bool false) (heap_set_same (off := 0) (v := .slice none 0 0) k0))
  unfold caughtQ
  constructor
  · rw [heap_set_other (by omega)]; exact k2
  · have k3 : (((((w.alloc (.cells #[] 64)).alloc (.cells #[.slice none 0 0, .bool false, .slice none 0 0] 56)).setCell ⟨n, 0, none⟩ (.slice none 0 0)).setCell ⟨n, 1, none⟩ (.bool false)).setCell ⟨n, 2, none⟩ (.slice none 0 0)).heap[n + 1]? = some (.cells #[c0] T' (0, 0)) := by
      rw [heap_set_other (by omega), heap_set_other (by omega), heap_set_other (by omega)]; exact k1
    exact heap_set_same (off := 0) (v := .int .i64 11) k3

set_option maxHeartbeats 1000000 in
theorem attempt99 (g : FuncId) (first caps : Array Value) (w : World) (Rr : Ending → World → Prop)
    (hrun : (callFunc g (first ++ caps)).run Tryd.prog ((w.alloc (.cells #[.slice none 0 0, .bool false, .slice none 0 0] 56)).alloc (.cells #[.int .i64 0] 29)) = .ok (.enter g (first ++ caps)) ((w.alloc (.cells #[.slice none 0 0, .bool false, .slice none 0 0] 56)).alloc (.cells #[.int .i64 0] 29)))
    (hcall : Calls Tryd.prog g (first ++ caps) ((w.alloc (.cells #[.slice none 0 0, .bool false, .slice none 0 0] 56)).alloc (.cells #[.int .i64 0] 29)) Rr)
    (hR : ∀ e w', Rr e w' → (e = .panicked (panChain 64) ∧ Below (w.heap.size + 2) ((w.alloc (.cells #[.slice none 0 0, .bool false, .slice none 0 0] 56)).alloc (.cells #[.int .i64 0] 29)) w') ∨
      ∃ u0 u1 u2, e = .returned (.agg #[u0, u1, u2]) ∧ ((∃ p l c, u0 = .slice p l c) ∧ (∃ b, u1 = .bool b) ∧ ∃ p l c, u2 = .slice p l c) ∧ Below (w.heap.size + 2) ((w.alloc (.cells #[.slice none 0 0, .bool false, .slice none 0 0] 56)).alloc (.cells #[.int .i64 0] 29)) w') :
    Calls Tryd.prog 46 #[.func (.func g) first caps] w fun e w' =>
      (∃ w1, Rr (.panicked (panChain 64)) w1 ∧ e = .returned (.tuple #[.agg #[.slice none 0 0, .bool false, .slice none 0 0], .int .i64 11]) ∧ w' = caughtQ w1 w.heap.size) ∨
      (∃ w1 u0 u1 u2, Rr (.returned (.agg #[u0, u1, u2])) w1 ∧ e = .returned (.tuple #[.agg #[u0, u1, u2], .int .i64 0]) ∧ w' = (((w1.setCell ⟨w.heap.size, 0, none⟩ u0).setCell ⟨w.heap.size, 1, none⟩ u1).setCell ⟨w.heap.size, 2, none⟩ u2).setCell ⟨w.heap.size + 1, 0, none⟩ (.int .i64 0)) := by
  have mixed : Tryd.prog.follows .mixedOrders = true := by kernel_rfl
  have hmf : ∀ (fn : Fn) (first cap : Array Value) (w : World), (Instr.makeFunc fn first cap).run Tryd.prog w = .ok (.func fn first cap) w := fun _ _ _ _ => rfl
  have t3 := Tryd.underlying3; have a3 := Tryd.isAgg3; have z3 := Tryd.sizeOf3; have v3 := Tryd.zeroValue3
  have t4 := Tryd.underlying4; have a4 := Tryd.isAgg4; have z4 := Tryd.sizeOf4; have v4 := Tryd.zeroValue4
  have t20 := Tryd.underlying20; have a20 := Tryd.isAgg20; have z20 := Tryd.sizeOf20; have v20 := Tryd.zeroValue20
  have t23 := Tryd.underlying23; have a23 := Tryd.isAgg23; have z23 := Tryd.sizeOf23; have v23 := Tryd.zeroValue23
  have t25 := Tryd.underlying25; have a25 := Tryd.isAgg25; have z25 := Tryd.sizeOf25; have v25 := Tryd.zeroValue25
  have t33 := Tryd.underlying29; have a33 := Tryd.isAgg29; have z33 := Tryd.sizeOf29; have v33 := Tryd.zeroValue29
  have t44 := Tryd.underlying56; have a44 := Tryd.isAgg56; have z44 := Tryd.sizeOf56; have v44 := Tryd.zeroValue56
  have t130 := Tryd.underlying64; have a130 := Tryd.isAgg64; have z130 := Tryd.sizeOf64; have v130 := Tryd.zeroValue64
  have HR := Lib.hid hR
  have HC := Lib.hid hcall
  clear hR hcall
  go_enter_defers Tryd.func46, Tryd.ntmps46
  go_wp2
  refine HC.out.mono ?_
  intro e w1 hr
  have ho : ∀ x, w1.heap[w.heap.size]? = some x ↔ ((w.alloc (.cells #[.slice none 0 0, .bool false, .slice none 0 0] 56)).alloc (.cells #[.int .i64 0] 29)).heap[w.heap.size]? = some x := fun x => by
    rcases HR.out e w1 hr with ⟨_, hb⟩ | ⟨_, _, _, _, _, hb⟩ <;> rw [hb.block _ (by omega)]
  have ho' : ∀ x, w1.heap[w.heap.size + 1]? = some x ↔ ((w.alloc (.cells #[.slice none 0 0, .bool false, .slice none 0 0] 56)).alloc (.cells #[.int .i64 0] 29)).heap[w.heap.size + 1]? = some x := fun x => by
    rcases HR.out e w1 hr with ⟨_, hb⟩ | ⟨_, _, _, _, _, hb⟩ <;> rw [hb.block _ (by omega)]
  have hn : w1.heap[w.heap.size]? = some (.cells #[.slice none 0 0, .bool false, .slice none 0 0] 56 (0, 0)) := (ho _).2 (alloc_at0 w _ _)
  have hn1 : w1.heap[w.heap.size + 1]? = some (.cells #[.int .i64 0] 29 (0, 0)) := (ho' _).2 (alloc_at1 w _ _)
  clear ho ho'
  rcases HR.out e w1 hr with ⟨rfl, hb⟩ | ⟨_, _, _, rfl, ⟨⟨p, l, c, rfl⟩, ⟨b, rfl⟩, p2, l2, c2, rfl⟩, hb⟩
  · show Leaves _ _ _ _ _ _ _
    refine leaves_cons (f := 68) (args := #[.pointer (some ⟨w.heap.size, 0, none⟩), .pointer (some ⟨w.heap.size + 1, 0, none⟩)]) (by simp) (by simp [go_sem]) ?_
    refine (catch129 w.heap.size [] w1 hn hn1).mono ?_
    rintro e u' w'' ⟨rfl, rfl, rfl⟩
    obtain ⟨k0, k1⟩ := caughtQ_at hn hn1
    have f0 := cell_at (off := 0) k0
    have f1 := cell_at (off := 1) k0
    have f3 := cell_at (off := 2) k0
    have f2 := cell_at (off := 0) k1
    refine ⟨.tuple #[.agg #[.slice none 0 0, .bool false, .slice none 0 0], .int .i64 11], ?_, .inl ⟨w1, hr, rfl, rfl⟩⟩
    generalize caughtQ w1 w.heap.size = W at f0 f1 f2 f3 ⊢
    simp [results, Tryd.results46, go_sem, f0, f1, f2, f3]
  · have f0 : w1.cell? ⟨w.heap.size, 0, none⟩ = some (.slice none 0 0) := cell_at (off := 0) hn
    have f1 := frozen_at (off := 0) hn
    have k2 := heap_set_same (off := 0) (v := (.slice p l c)) hn
    have f2 : (w1.setCell ⟨w.heap.size, 0, none⟩ (.slice p l c)).cell? ⟨w.heap.size, 1, none⟩ = some (.bool false) := cell_at (off := 1) k2
    have f3 := frozen_at (off := 1) k2
    have k4 := heap_set_same (off := 1) (v := (.bool b)) k2
    have f6 : ((w1.setCell ⟨w.heap.size, 0, none⟩ (.slice p l c)).setCell ⟨w.heap.size, 1, none⟩ (.bool b)).cell? ⟨w.heap.size, 2, none⟩ = some (.slice none 0 0) := cell_at (off := 2) k4
    have f7 := frozen_at (off := 2) k4
    have k5 := heap_set_same (off := 2) (v := (.slice p2 l2 c2)) k4
    have k3 : (((w1.setCell ⟨w.heap.size, 0, none⟩ (.slice p l c)).setCell ⟨w.heap.size, 1, none⟩ (.bool b)).setCell ⟨w.heap.size, 2, none⟩ (.slice p2 l2 c2)).heap[w.heap.size + 1]? = some (.cells #[.int .i64 0] 29 (0, 0)) := by
      rw [heap_set_other (by omega), heap_set_other (by omega), heap_set_other (by omega)]; exact hn1
    have f4 : (((w1.setCell ⟨w.heap.size, 0, none⟩ (.slice p l c)).setCell ⟨w.heap.size, 1, none⟩ (.bool b)).setCell ⟨w.heap.size, 2, none⟩ (.slice p2 l2 c2)).cell? ⟨w.heap.size + 1, 0, none⟩ = some (.int .i64 0) := cell_at (off := 0) k3
    have f5 := frozen_at (off := 0) k3
    have K2 := Lib.hid k2
    have K3 := Lib.hid k3
    have K4 := Lib.hid k4
    have K5 := Lib.hid k5
    have HN := Lib.hid hn
    have HN1 := Lib.hid hn1
    have HRR := Lib.hid hr
    have HB := Lib.hid hb
    clear k2 k3 k4 k5 hn hn1 hr hb
    go_wp2
    show Leaves _ _ _ _ _ _ _
    refine leaves_cons (f := 68) (args := #[.pointer (some ⟨w.heap.size, 0, none⟩), .pointer (some ⟨w.heap.size + 1, 0, none⟩)]) (by simp) (by simp [go_sem]) ?_
    refine (catch129_idle ⟨w.heap.size, 0, none⟩ ⟨w.heap.size + 1, 0, none⟩ _).mono ?_
    rintro e u' w'' ⟨rfl, rfl, rfl⟩
    have q4 : ((((w1.setCell ⟨w.heap.size, 0, none⟩ (.slice p l c)).setCell ⟨w.heap.size, 1, none⟩ (.bool b)).setCell ⟨w.heap.size, 2, none⟩ (.slice p2 l2 c2)).setCell ⟨w.heap.size + 1, 0, none⟩ (.int .i64 0)).heap[w.heap.size]? = some (.cells #[(.slice p l c), (.bool b), (.slice p2 l2 c2)] 56 (0, 0)) := by
      rw [heap_set_other (by omega)]; exact K5.out
    have q3 := heap_set_same (off := 0) (v := .int .i64 0) K3.out
    have p0 : ((((w1.setCell ⟨w.heap.size, 0, none⟩ (.slice p l c)).setCell ⟨w.heap.size, 1, none⟩ (.bool b)).setCell ⟨w.heap.size, 2, none⟩ (.slice p2 l2 c2)).setCell ⟨w.heap.size + 1, 0, none⟩ (.int .i64 0)).cell? ⟨w.heap.size, 0, none⟩ = some (.slice p l c) := cell_at (off := 0) q4
    have p1 : ((((w1.setCell ⟨w.heap.size, 0, none⟩ (.slice p l c)).setCell ⟨w.heap.size, 1, none⟩ (.bool b)).setCell ⟨w.heap.size, 2, none⟩ (.slice p2 l2 c2)).setCell ⟨w.heap.size + 1, 0, none⟩ (.int .i64 0)).cell? ⟨w.heap.size, 1, none⟩ = some (.bool b) := cell_at (off := 1) q4
    have p3 : ((((w1.setCell ⟨w.heap.size, 0, none⟩ (.slice p l c)).setCell ⟨w.heap.size, 1, none⟩ (.bool b)).setCell ⟨w.heap.size, 2, none⟩ (.slice p2 l2 c2)).setCell ⟨w.heap.size + 1, 0, none⟩ (.int .i64 0)).cell? ⟨w.heap.size, 2, none⟩ = some (.slice p2 l2 c2) := cell_at (off := 2) q4
    have p2' : ((((w1.setCell ⟨w.heap.size, 0, none⟩ (.slice p l c)).setCell ⟨w.heap.size, 1, none⟩ (.bool b)).setCell ⟨w.heap.size, 2, none⟩ (.slice p2 l2 c2)).setCell ⟨w.heap.size + 1, 0, none⟩ (.int .i64 0)).cell? ⟨w.heap.size + 1, 0, none⟩ = some (.int .i64 0) := cell_at (off := 0) q3
    refine ⟨.tuple #[.agg #[(.slice p l c), (.bool b), (.slice p2 l2 c2)], .int .i64 0], ?_, .inr ⟨w1, (.slice p l c), (.bool b), (.slice p2 l2 c2), HRR.out, rfl, rfl⟩⟩
    clear q4 q3
    generalize ((((w1.setCell ⟨w.heap.size, 0, none⟩ (.slice p l c)).setCell ⟨w.heap.size, 1, none⟩ (.bool b)).setCell ⟨w.heap.size, 2, none⟩ (.slice p2 l2 c2)).setCell ⟨w.heap.size + 1, 0, none⟩ (.int .i64 0)) = W at p0 p1 p2' p3 ⊢
    simp [results, Tryd.results46, go_sem, p0, p1, p2', p3]

end Ta
end
section
/- What comes of an attempt: fractions. -/
set_option linter.unusedVariables false
set_option linter.unusedSimpArgs false
set_option maxRecDepth 100000
namespace Ta
open Go Fw Go.Proofs Go.RowKit Pl

abbrev Qt : Ty := .pair Zt (.pair nat .unit)
abbrev QI : Ar := .ty Qt
abbrev Qv := Zv × List Int × Unit

theorem two_below' (w : World) (o o' : Go.Obj) : Below w.heap.size w ((w.alloc o).alloc o') := two_below w o o'
theorem below_caughtQ {B n : Nat} {w w1 : World} (h : Below B w w1) (hn : B ≤ n) (hs : B ≤ w1.heap.size) : Below B w (caughtQ w1 n) := by
  unfold caughtQ
  refine below_set (below_set (below_set (below_set ((h.alloc hs _).alloc ?_ _) hn) hn) hn) (by omega)
  exact Nat.le_trans hs (by show _ ≤ (w1.heap.push _).size; rw [Array.size_push]; omega)
theorem two_keepsQ {O : Nat → Prop} {w : World} {o o' : Go.Obj} : Keeps w O ((w.alloc o).alloc o') (two O w) := two_keeps

theorem att99 {args : List Ar} {pre : Ars args → Prop} {post : Ars args → Qv × Unit} {pan : Ars args → Bool} {g : FuncId} (hS : SoundX Tryd.prog 64 g ⟨⟨args, [QI], pre, post, none⟩, pan⟩)
    {y : Ars args} (hy : pre y) {w : World} {O : Nat → Prop} (hO : OKO O w) {first caps : Array Value} (hl : LRep w O (encs args y) (first ++ caps).toList) {z : Qv} {c : Int}
    (hz1 : pan y = true → z = (([], false, ()), [], ()) ∧ c = 11) (hz2 : pan y = false → z = (post y).1 ∧ c = 0) :
    Calls Tryd.prog 46 #[.func (.func g) first caps] w fun e w' => ∃ v, e = .returned v ∧ Below w.heap.size w w' ∧ ∀ ι, ARep w' O ι (resAV (encs [QI, E] (z, c, ()))) v := by
  have hl1 := LRep.keeps (two_keeps (o := .cells #[.slice none 0 0, .bool false, .slice none 0 0] 56) (o' := .cells #[.int .i64 0] 29)) _ _ hl
  obtain ⟨hrun, hcall⟩ := hS y hy _ _ (first ++ caps) (two_oko hO) hl1
  refine (attempt99 g first caps w _ hrun hcall ?_).mono ?_
  · rintro e w' (⟨_, rfl, hb⟩ | ⟨_, v, rfl, hb, hv, _⟩)
    · rw [alloc_size, alloc_size] at hb
      exact .inl ⟨rfl, hb⟩
    · rw [alloc_size, alloc_size] at hb
      refine .inr ?_
      obtain ⟨vs, rfl, us⟩ := hv (fun _ => undef)
      obtain ⟨u0, us0, e0, h0, u1, us1, e1, h1, u2, us2, e2, h2, e3⟩ := us
      subst e3 e2 e1
      have ev : vs = #[u0, u1, u2] := arr_eq e0
      subst ev
      obtain ⟨⟨a, cc, rfl, _⟩, _⟩ := h0
      obtain ⟨⟨a2, cc2, rfl, _⟩, _⟩ := h2
      exact ⟨_, _, _, rfl, ⟨⟨_, _, _, rfl⟩, ⟨_, h1⟩, _, _, _, rfl⟩, hb⟩
  · rintro e w' (⟨w1, hx, rfl, rfl⟩ | ⟨w1, u0, u1, u2, hx, rfl, rfl⟩)
    · rcases hx with ⟨hp, _, hb⟩ | ⟨_, v, hv, _⟩
      · obtain ⟨rfl, rfl⟩ := hz1 hp
        have hb1 : Below w.heap.size w w1 := (two_below w _ _).trans (hb.mono (by rw [alloc_size, alloc_size]; omega))
        refine ⟨_, rfl, below_caughtQ hb1 (Nat.le_refl _) hb1.size, fun ι => ?_⟩
        exact ⟨_, rfl, _, _, rfl, ⟨_, rfl, _, _, rfl, nil_rep, _, _, rfl, rfl, _, _, rfl, nil_rep, rfl⟩, _, _, rfl, rfl, rfl⟩
      · cases hv
    · rcases hx with ⟨_, hv, _⟩ | ⟨hp, v, hv, hb, hrep, _⟩
      · cases hv
      · injection hv with hv
        subst hv
        obtain ⟨rfl, rfl⟩ := hz2 hp
        have hb1 : Below w.heap.size w w1 := (two_below w _ _).trans (hb.mono (by rw [alloc_size, alloc_size]; omega))
        refine ⟨_, rfl, below_set (below_set (below_set (below_set hb1 (Nat.le_refl _)) (Nat.le_refl _)) (Nat.le_refl _)) (by omega), fun ι => ?_⟩
        have hk : Keeps w1 (two O w) ((((w1.setCell ⟨w.heap.size, 0, none⟩ u0).setCell ⟨w.heap.size, 1, none⟩ u1).setCell ⟨w.heap.size, 2, none⟩ u2).setCell ⟨w.heap.size + 1, 0, none⟩ (.int .i64 0)) O := by
          refine ⟨fun b _ hn => ?_, fun b _ hn h => hn (.inl h)⟩
          have n1 : w.heap.size ≠ b := fun e => hn (.inr (.inl e.symm))
          have n2 : w.heap.size + 1 ≠ b := fun e => hn (.inr (.inr e.symm))
          rw [heap_set_other n2, heap_set_other n1, heap_set_other n1, heap_set_other n1]
        have hr := hrep ι
        have hr' : VRep w1 (two O w) (QI.enc (post y).1) (.agg #[u0, u1, u2]) := hr
        exact ⟨_, rfl, _, _, rfl, VRep.keeps hk _ _ hr', _, _, rfl, rfl, rfl⟩

end Ta
end
section
/- Fractions: contracts. -/
set_option linter.unusedVariables false
set_option linter.unusedSimpArgs false
set_option maxRecDepth 100000
namespace Ta
open Go Fw Go.Proofs

/-- The fraction; its form. -/
def Pl.qv (q : Qv) : Rat := mkRat (Pl.iv q.1) (Pl.nt q.2.1 + 1)
def Pl.mkQ (r : Rat) : Qv := (Pl.mkI r.num, Pl.tn (r.den - 1), ())
def Pl.okQn (n : Nat) (q : Qv) : Prop := Pl.okI q.1 ∧ Pl.can Pl.W q.2.1 ∧ q.1.1.length ≤ n ∧ q.2.1.length ≤ n ∧ Nat.gcd (Pl.nt q.1.1) (Pl.nt q.2.1 + 1) = 1
def Pl.okQ (q : Qv) : Prop := Pl.okQn 1000000 q
def Pl.okQ2 (q : Qv) : Prop := Pl.okQn 9000000 q
def Pl.dnI (q : Qv) : Zv := Pl.mkI ((Pl.nt q.2.1 + 1 : Nat) : Int)
def Pl.loQ (a b : Zv) : Qv := Pl.mkQ (Rat.divInt (Pl.iv a) (Pl.iv b))
def Pl.bigQ (r : Rat) : Bool := Pl.bigI r.num || Pl.bigI (r.den : Int)
def Pl.atq1 (r : Rat) : Qv := if Pl.bigQ r then Pl.mkQ 0 else Pl.mkQ r
def Pl.atq2 (r : Rat) : Int := if Pl.bigQ r then 11 else 0
def Pl.big2 (q : Qv) : Bool := Pl.big q.1.1 || Pl.big (Pl.dnI q).1
def Pl.dQ : D → Qv
  | .rptr [.slc _ (.int .u64) a, .bool s, .slc _ (.int .u64) b] => ((a, s, ()), b, ())
  | .agg [.slc _ (.int .u64) a, .bool s, .slc _ (.int .u64) b] => ((a, s, ()), b, ())
  | _ => (([], false, ()), [], ())
def Pl.isQ (d : D) : Prop := (∃ f a s g b, d = .rptr [.slc f (.int .u64) a, .bool s, .slc g (.int .u64) b]) ∧ Pl.okQ (Pl.dQ d)
def Pl.isQa (d : D) : Prop := (∃ f a s g b, d = .agg [.slc f (.int .u64) a, .bool s, .slc g (.int .u64) b]) ∧ Pl.okQ2 (Pl.dQ d)
def Pl.isQn (d : D) : Prop := Pl.isQ d ∧ (Pl.dQ d).1.1 ≠ []
def Pl.adQ (a b : Qv) : Rat := Pl.qv a + Pl.qv b
def Pl.suQ (a b : Qv) : Rat := Pl.qv a - Pl.qv b
def Pl.muQ (a b : Qv) : Rat := Pl.qv a * Pl.qv b
def Pl.quQ (a b : Qv) : Rat := Pl.qv a / Pl.qv b
def Pl.ngQ (a : Qv) : Qv := Pl.mkQ (-(Pl.qv a))
def Pl.cpQ (a b : Qv) : Int := Pl.ordI (Pl.iv a.1 * ((Pl.nt b.2.1 + 1 : Nat) : Int)) (Pl.iv b.1 * ((Pl.nt a.2.1 + 1 : Nat) : Int))
def Pl.sgQ (a : Qv) : Int := Pl.sgI a.1
def Pl.txtR (r : Rat) : List UInt8 := if r.den = 1 then Lib.itoa r.num else Lib.itoa r.num ++ (47 :: Lib.decDigits r.den)
def Pl.txtQ (a : Qv) : ByteArray := Pl.ba (Pl.txtR (Pl.qv a))
def Pl.mk1 (a b : Int) : Qv := if b = 0 then Pl.mkQ 0 else Pl.mkQ (Rat.divInt a b)
def Pl.mk2 (b : Int) : Int := if b = 0 then 6 else 0
def Pl.mkz (a b : Zv) : Qv := Pl.mk1 (Pl.iv a) (Pl.iv b)
def Pl.mkz2 (b : Zv) : Int := Pl.mk2 (Pl.iv b)
/-- What a text without its slash is, and what is behind it. -/
def Pl.topL (l : List UInt8) : List UInt8 := (Lib.cut l [47]).1
def Pl.botL (l : List UInt8) : List UInt8 := if (Lib.cut l [47]).2.2 then (Lib.cut l [47]).2.1 else [49]
def Pl.rdB (l : List UInt8) : Bool := Pl.isFl (Pl.topL l) && Pl.isFl (Pl.botL l) && !decide ((Pl.botL l).head? = some 45) && !decide (Pl.botL l = [48])
def Pl.rdR (l : List UInt8) : Rat := Rat.divInt (Pl.parV (Pl.topL l)) (Pl.parV (Pl.botL l))
def Pl.rdV (l : List UInt8) : Bool := Pl.rdB l && decide (Pl.txtR (Pl.rdR l) = l)
def Pl.pq1 (s : ByteArray) : Qv := if Pl.rdV (Pl.bl s) then Pl.atq1 (Pl.rdR (Pl.bl s)) else Pl.mkQ 0
def Pl.pq2 (s : ByteArray) : Int := if Pl.rdV (Pl.bl s) then Pl.atq2 (Pl.rdR (Pl.bl s)) else 10

def C83 : Con := ⟨[QI], [ZI], fun (x : Qv × Unit) => Pl.okQ2 x.1, fun (x : Qv × Unit) => (Pl.dnI x.1, ()), none⟩
def C85 : Con := ⟨[ZI, ZI], [QI], fun (x : Zv × Zv × Unit) => Pl.okI x.1 ∧ Pl.okI x.2.1 ∧ x.2.1.1 ≠ [], fun (x : Zv × Zv × Unit) => (Pl.loQ x.1 x.2.1, ()), none⟩
def C100 : ConP := ⟨⟨[QI], [QI], fun (x : Qv × Unit) => Pl.okQ2 x.1, fun (x : Qv × Unit) => (x.1, ()), none⟩, fun (x : Qv × Unit) => Pl.big2 x.1⟩
def C115 : ConP := ⟨⟨[.raw, .raw], [QI], fun (x : D × D × Unit) => Pl.isQ x.1 ∧ Pl.isQ x.2.1, fun (x : D × D × Unit) => (Pl.mkQ (Pl.adQ (Pl.dQ x.1) (Pl.dQ x.2.1)), ()), none⟩, fun (x : D × D × Unit) => Pl.bigQ (Pl.adQ (Pl.dQ x.1) (Pl.dQ x.2.1))⟩
def C116 : ConP := ⟨⟨[.raw, .raw], [QI], fun (x : D × D × Unit) => Pl.isQ x.1 ∧ Pl.isQ x.2.1, fun (x : D × D × Unit) => (Pl.mkQ (Pl.muQ (Pl.dQ x.1) (Pl.dQ x.2.1)), ()), none⟩, fun (x : D × D × Unit) => Pl.bigQ (Pl.muQ (Pl.dQ x.1) (Pl.dQ x.2.1))⟩
def C117 : ConP := ⟨⟨[.raw, .raw], [QI], fun (x : D × D × Unit) => Pl.isQ x.1 ∧ Pl.isQn x.2.1, fun (x : D × D × Unit) => (Pl.mkQ (Pl.quQ (Pl.dQ x.1) (Pl.dQ x.2.1)), ()), none⟩, fun (x : D × D × Unit) => Pl.bigQ (Pl.quQ (Pl.dQ x.1) (Pl.dQ x.2.1))⟩
/-- What a function computes that is attempted. -/
def Pl.cloR : D → Rat
  | .clo f [d1, d2] => bif Nat.beq f 48 then Pl.adQ (Pl.dQ d1) (Pl.dQ d2) else bif Nat.beq f 100116 then Pl.muQ (Pl.dQ d1) (Pl.dQ d2) else Pl.quQ (Pl.dQ d1) (Pl.dQ d2)
  | .bfn _ [d] => Pl.qv (Pl.dQ d)
  | _ => 0
def Pl.okCloQ : D → Prop
  | .clo f [d1, d2] => f = 48 ∧ Pl.isQ d1 ∧ Pl.isQ d2
  | .bfn f [d] => f = 47 ∧ Pl.isQa d
  | _ => False
def Pl.aq1 (d : D) : Qv := Pl.atq1 (Pl.cloR d)
def Pl.aq2 (d : D) : Int := Pl.atq2 (Pl.cloR d)
def C99 : Con := ⟨[.raw], [QI, E], fun (x : D × Unit) => Pl.okCloQ x.1, fun (x : D × Unit) => (Pl.aq1 x.1, Pl.aq2 x.1, ()), none⟩
def Pl.aad1 (a b : Qv) : Qv := Pl.atq1 (Pl.adQ a b)
def Pl.aad2 (a b : Qv) : Int := Pl.atq2 (Pl.adQ a b)
def Pl.asu1 (a b : Qv) : Qv := Pl.atq1 (Pl.suQ a b)
def Pl.asu2 (a b : Qv) : Int := Pl.atq2 (Pl.suQ a b)
def Pl.amu1 (a b : Qv) : Qv := Pl.atq1 (Pl.muQ a b)
def Pl.amu2 (a b : Qv) : Int := Pl.atq2 (Pl.muQ a b)
def Pl.aqu1 (a b : Qv) : Qv := if b.1.1 = [] then Pl.mkQ 0 else Pl.atq1 (Pl.quQ a b)
def Pl.aqu2 (a b : Qv) : Int := if b.1.1 = [] then 6 else Pl.atq2 (Pl.quQ a b)

def C28 : Con := ⟨[ZI, ZI], [QI, E], fun (x : Zv × Zv × Unit) => Pl.okI x.1 ∧ Pl.okI x.2.1, fun (x : Zv × Zv × Unit) => (Pl.mkz x.1 x.2.1, Pl.mkz2 x.2.1, ()), none⟩
def C24 : Con := ⟨[I, I], [QI, E], fun (x : Int × Int × Unit) => (-9223372036854775808 ≤ x.1 ∧ x.1 < 9223372036854775808) ∧ (-9223372036854775808 ≤ x.2.1 ∧ x.2.1 < 9223372036854775808), fun (x : Int × Int × Unit) => (Pl.mk1 x.1 x.2.1, Pl.mk2 x.2.1, ()), none⟩
def C25 : Con := ⟨[QI], [S], fun (x : Qv × Unit) => Pl.okQ2 x.1, fun (x : Qv × Unit) => (Pl.txtQ x.1, ()), none⟩
def C37 : Con := ⟨[S], [QI, E], fun (x : ByteArray × Unit) => x.1.size ≤ 1100000, fun (x : ByteArray × Unit) => (Pl.pq1 x.1, Pl.pq2 x.1, ()), none⟩
def C38 : Con := ⟨[QI], [ZI], fun (x : Qv × Unit) => True, fun (x : Qv × Unit) => (x.1.1, ()), none⟩
def C39 : Con := ⟨[QI], [ZI], fun (x : Qv × Unit) => Pl.okQ2 x.1, fun (x : Qv × Unit) => (Pl.dnI x.1, ()), none⟩
def C40 : Con := ⟨[QI], [I], fun (x : Qv × Unit) => Pl.okQ2 x.1, fun (x : Qv × Unit) => (Pl.sgQ x.1, ()), none⟩
def C42 : Con := ⟨[QI], [QI], fun (x : Qv × Unit) => Pl.okQ2 x.1, fun (x : Qv × Unit) => (Pl.ngQ x.1, ()), none⟩
def C66 : Con := ⟨[QI, QI], [I], fun (x : Qv × Qv × Unit) => Pl.okQ x.1 ∧ Pl.okQ x.2.1, fun (x : Qv × Qv × Unit) => (Pl.cpQ x.1 x.2.1, ()), none⟩
def C64 : Con := ⟨[QI, QI], [QI, E], fun (x : Qv × Qv × Unit) => Pl.okQ x.1 ∧ Pl.okQ x.2.1, fun (x : Qv × Qv × Unit) => (Pl.aad1 x.1 x.2.1, Pl.aad2 x.1 x.2.1, ()), none⟩
def C70 : Con := ⟨[QI, QI], [QI, E], fun (x : Qv × Qv × Unit) => Pl.okQ x.1 ∧ Pl.okQ x.2.1, fun (x : Qv × Qv × Unit) => (Pl.asu1 x.1 x.2.1, Pl.asu2 x.1 x.2.1, ()), none⟩
def C65 : Con := ⟨[QI, QI], [QI, E], fun (x : Qv × Qv × Unit) => Pl.okQ x.1 ∧ Pl.okQ x.2.1, fun (x : Qv × Qv × Unit) => (Pl.amu1 x.1 x.2.1, Pl.amu2 x.1 x.2.1, ()), none⟩
def C67 : Con := ⟨[QI, QI], [QI, E], fun (x : Qv × Qv × Unit) => Pl.okQ x.1 ∧ Pl.okQ x.2.1, fun (x : Qv × Qv × Unit) => (Pl.aqu1 x.1 x.2.1, Pl.aqu2 x.1 x.2.1, ()), none⟩

def T83 : Ctx := ⟨tt, [(13, C111), (54, C120), (12, C106)], [], none, [], 0, [], [], 64⟩
def T85 : Ctx := ⟨tt, [(66, C50), (67, C108), (62, C119), (12, C106), (13, C111), (63, C121)], [], none, [], 0, [], [], 64⟩
def T100 : Ctx := ⟨tt, [(50, C83)], [], none, [], 0, [], [(32, C113)], 64⟩
def T115 : Ctx := ⟨tt, [(50, C83), (49, C92), (51, C89), (45, C85)], [], none, [], 0, [], [(47, C100)], 64⟩
def T28 : Ctx := ⟨tt, [(40, C21), (45, C85)], [], none, [], 0, [], [], 64⟩
def T24 : Ctx := ⟨tt, [(4, C75), (43, C28)], [], none, [], 0, [], [], 64⟩
def T25 : Ctx := ⟨tt, [(7, C46), (50, C83)], [], none, [], 0, [], [], 64⟩
def T37 : Ctx := ⟨tt, [(44, C96), (15, C97), (18, C98), (45, C85), (27, C25), (46, C99)], [], none, [], 0, [], [], 64⟩
def T39 : Ctx := ⟨tt, [(50, C83)], [], none, [], 0, [], [], 64⟩
def T40 : Ctx := ⟨tt, [(40, C21)], [], none, [], 0, [], [], 64⟩
def T42 : Ctx := ⟨tt, [(66, C50)], [], none, [], 0, [], [], 64⟩
def T66 : Ctx := ⟨tt, [(50, C83), (49, C92), (10, C52)], [], none, [], 0, [], [], 64⟩
def T64 : Ctx := ⟨tt, [(46, C99)], [], none, [], 0, [], [], 64⟩
def T70 : Ctx := ⟨tt, [(26, C64)], [], none, [], 0, [], [], 64⟩
def T67 : Ctx := ⟨tt, [(46, C99)], [], none, [], 0, [], [], 64⟩
def H64 : Hints := ⟨[], [(1, [2, 3])], [], []⟩
def H67 : Hints := ⟨[], [(3, [2, 3])], [], []⟩

end Ta
end
section
/- The reference's numbers: contracts. -/
set_option linter.unusedVariables false
set_option linter.unusedSimpArgs false
set_option maxRecDepth 100000
namespace Ta
open Go Fw Go.Proofs

abbrev RL : Ty := .slc i64
abbrev RN : Ar := .ty RL
abbrev RZt : Ty := .pair .bool (.pair RL .unit)
abbrev RZ : Ar := .ty RZt
abbrev RQt : Ty := .pair RZt (.pair RZt .unit)
abbrev RQ : Ar := .ty RQt
abbrev Rv := Bool × List Int × Unit
abbrev RQv := Rv × Rv × Unit

def Pl.BB : Nat := 1000000000
def Pl.nr (x : List Int) : Nat := Pl.vl Pl.BB x
def Pl.rn (n : Nat) : List Int := Pl.dg Pl.BB n
def Pl.okL (x : List Int) : Prop := Pl.can Pl.BB x ∧ x.length ≤ 10000000
def Pl.okK (x : List Int) : Prop := Pl.can Pl.BB x ∧ x.length ≤ 5000000
def Pl.rgL (x : List Int) : Prop := Pl.rng Pl.BB x ∧ x.length ≤ 20000000000000
def Pl.rtr (x : List Int) : List Int := Pl.rn (Pl.nr x)
def Pl.cmpR (x y : List Int) : Int := Pl.cmpN (Pl.nr x) (Pl.nr y)
def Pl.addR (x y : List Int) : List Int := Pl.rn (Pl.nr x + Pl.nr y)
def Pl.subR (x y : List Int) : List Int := Pl.rn (Pl.nr x - Pl.nr y)
def Pl.mulR (x y : List Int) : List Int := Pl.rn (Pl.nr x * Pl.nr y)
def Pl.timR (x : List Int) (k : Int) : List Int := Pl.rn (Pl.nr x * k.toNat)
def Pl.smq (x : List Int) (k : Int) : List Int := Pl.rn (Pl.nr x / k.toNat)
def Pl.smr (x : List Int) (k : Int) : Int := ((Pl.nr x % k.toNat : Nat) : Int)
def Pl.divR (x y : List Int) : List Int := Pl.rn (Pl.nr x / Pl.nr y)
def Pl.modR (x y : List Int) : List Int := Pl.rn (Pl.nr x % Pl.nr y)
def Pl.gcdR (x y : List Int) : List Int := Pl.rn (Nat.gcd (Pl.nr x) (Pl.nr y))
def Pl.lenR (x : List Int) : Int := (((Lib.decDigits (Pl.nr x)).length : Nat) : Int)
def Pl.leR (x y : List Int) : Prop := Pl.nr x ≤ Pl.nr y
/-- The integer; its form. -/
def Pl.zv (z : Rv) : Int := if z.1 then -((Pl.nr z.2.1 : Nat) : Int) else ((Pl.nr z.2.1 : Nat) : Int)
def Pl.mkR (n : Int) : Rv := (decide (n < 0), Pl.rn n.natAbs, ())
def Pl.rsg (b : Bool) (x : List Int) : Rv := (b && decide (0 < (x.length : Int)), x, ())
def Pl.okZ (z : Rv) : Prop := Pl.can Pl.BB z.2.1 ∧ z.2.1.length ≤ 4000000 ∧ (z.1 = true → z.2.1 ≠ [])
def Pl.okY (z : Rv) : Prop := Pl.can Pl.BB z.2.1 ∧ z.2.1.length ≤ 9000000 ∧ (z.1 = true → z.2.1 ≠ [])
def Pl.sgR (z : Rv) : Int := Pl.ordI (Pl.zv z) 0
def Pl.ngR (z : Rv) : Rv := Pl.mkR (-(Pl.zv z))
def Pl.adR (a b : Rv) : Rv := Pl.mkR (Pl.zv a + Pl.zv b)
def Pl.suR (a b : Rv) : Rv := Pl.mkR (Pl.zv a - Pl.zv b)
def Pl.muR (a b : Rv) : Rv := Pl.mkR (Pl.zv a * Pl.zv b)
def Pl.cpR (a b : Rv) : Int := Pl.ordI (Pl.zv a) (Pl.zv b)
def Pl.qoR (a b : Rv) : Rv := Pl.mkR ((Pl.zv a).tdiv (Pl.zv b))
def Pl.dqR (a b : Rv) : Rv := Pl.mkR (Pl.zv a / Pl.zv b)
def Pl.drR (a b : Rv) : Rv := Pl.mkR (Pl.zv a % Pl.zv b)
def Pl.gcR (a b : Rv) : Rv := Pl.mkR ((Nat.gcd (Pl.nr a.2.1) (Pl.nr b.2.1) : Nat) : Int)
def Pl.txR (z : Rv) : ByteArray := Pl.ba (Lib.itoa (Pl.zv z))
/-- The fraction; its form. -/
def Pl.rqv (q : RQv) : Rat := Rat.divInt (Pl.zv q.1) (Pl.zv q.2.1)
def Pl.mkRQ (r : Rat) : RQv := (Pl.mkR r.num, Pl.mkR (r.den : Int), ())
def Pl.okRQ (q : RQv) : Prop := Pl.okZ q.1 ∧ Pl.okZ q.2.1 ∧ q.1.2.1.length ≤ 1000000 ∧ q.2.1.2.1.length ≤ 1000000 ∧ 0 < Pl.zv q.2.1 ∧ Nat.gcd (Pl.nr q.1.2.1) (Pl.nr q.2.1.2.1) = 1
def Pl.raR (a b : Rv) : RQv := Pl.mkRQ (Rat.divInt (Pl.zv a) (Pl.zv b))
def Pl.frR (a b : Int) : RQv := Pl.mkRQ (Rat.divInt a b)
def Pl.whR (a : Rv) : RQv := (a, Pl.mkR 1, ())
def Pl.pqR (a b : RQv) : RQv := Pl.mkRQ (Pl.rqv a + Pl.rqv b)
def Pl.mqR (a b : RQv) : RQv := Pl.mkRQ (Pl.rqv a - Pl.rqv b)
def Pl.tqR (a b : RQv) : RQv := Pl.mkRQ (Pl.rqv a * Pl.rqv b)
def Pl.oqR (a b : RQv) : RQv := Pl.mkRQ (Pl.rqv a / Pl.rqv b)
def Pl.cqR (a b : RQv) : Int := Pl.ordI (Pl.zv a.1 * Pl.zv b.2.1) (Pl.zv b.1 * Pl.zv a.2.1)
def Pl.sqR (a : RQv) : Int := Pl.sgR a.1
def Pl.foR (a : RQv) : ByteArray := Pl.ba (Pl.txtR (Pl.rqv a))
def Pl.paR (s : ByteArray) : Rv := if Pl.isF s then Pl.mkR (Pl.parS s) else (false, [], ())
def Pl.reR (s : ByteArray) : RQv := if Pl.rdV (Pl.bl s) then Pl.mkRQ (Pl.rdR (Pl.bl s)) else ((false, [], ()), (false, [], ()), ())
def Pl.rvS (s : ByteArray) : Bool := Pl.rdV (Pl.bl s)
def Pl.twR (n : Int) : Rv := Pl.mkR (2 ^ n.toNat)
def Pl.smR (z : Rv) : Bool := decide ((Pl.zv z).natAbs < 2 ^ 40000)
def Pl.poR (a : Rv) (n : Int) : Rv := Pl.mkR (Pl.zv a ^ n.toNat)
def Pl.okP (a : Rv) (n : Int) : Prop := 0 ≤ n ∧ n ≤ 1000000 ∧ a.2.1.length * n.toNat ≤ 1000000
def Pl.coR (n k : Int) : Rv := if k < 0 ∨ n < k then Pl.mkR 0 else Pl.mkR ((Pl.cho n.toNat k.toNat : Nat) : Int)
def Pl.faR (n : Int) : Rv := Pl.mkR ((Pl.fac n.toNat : Nat) : Int)
def Pl.i6v (z : Rv) : Int := if Pl.in64 (Pl.zv z) then Pl.zv z else 0
def Pl.i6b (z : Rv) : Bool := Pl.in64 (Pl.zv z)
def Pl.rg64 (n : Int) : Prop := -9223372036854775808 ≤ n ∧ n < 9223372036854775808

def C101 : Con := ⟨[RN], [RN], fun (x : List Int × Unit) => Pl.rgL x.1, fun (x : List Int × Unit) => (Pl.rtr x.1, ()), none⟩
def C93 : Con := ⟨[RN, RN], [I], fun (x : List Int × List Int × Unit) => Pl.okL x.1 ∧ Pl.okL x.2.1, fun (x : List Int × List Int × Unit) => (Pl.cmpR x.1 x.2.1, ()), none⟩
def C80 : Con := ⟨[RN, RN], [RN], fun (x : List Int × List Int × Unit) => Pl.okL x.1 ∧ Pl.okL x.2.1, fun (x : List Int × List Int × Unit) => (Pl.addR x.1 x.2.1, ()), none⟩
def C81 : Con := ⟨[RN, RN], [RN], fun (x : List Int × List Int × Unit) => Pl.okL x.1 ∧ Pl.okL x.2.1 ∧ Pl.leR x.2.1 x.1, fun (x : List Int × List Int × Unit) => (Pl.subR x.1 x.2.1, ()), none⟩
def C94 : Con := ⟨[RN, RN], [RN], fun (x : List Int × List Int × Unit) => Pl.okL x.1 ∧ Pl.okL x.2.1, fun (x : List Int × List Int × Unit) => (Pl.mulR x.1 x.2.1, ()), none⟩
def C123 : Con := ⟨[RN, I], [RN], fun (x : List Int × Int × Unit) => Pl.okL x.1 ∧ 0 ≤ x.2.1 ∧ x.2.1 ≤ 1000000000, fun (x : List Int × Int × Unit) => (Pl.timR x.1 x.2.1, ()), none⟩
def C124 : Con := ⟨[RN, I], [RN, I], fun (x : List Int × Int × Unit) => Pl.okL x.1 ∧ 0 < x.2.1 ∧ x.2.1 ≤ 1000000000, fun (x : List Int × Int × Unit) => (Pl.smq x.1 x.2.1, Pl.smr x.1 x.2.1, ()), none⟩
def C78 : Con := ⟨[RN, RN], [RN, RN], fun (x : List Int × List Int × Unit) => Pl.okK x.1 ∧ Pl.okK x.2.1 ∧ x.2.1 ≠ [], fun (x : List Int × List Int × Unit) => (Pl.divR x.1 x.2.1, Pl.modR x.1 x.2.1, ()), none⟩
def C109 : Con := ⟨[RN, RN], [RN], fun (x : List Int × List Int × Unit) => Pl.okK x.1 ∧ Pl.okK x.2.1, fun (x : List Int × List Int × Unit) => (Pl.gcdR x.1 x.2.1, ()), none⟩
def C57 : Con := ⟨[RN], [I], fun (x : List Int × Unit) => Pl.okL x.1, fun (x : List Int × Unit) => (Pl.lenR x.1, ()), none⟩
def C79 : Con := ⟨[B, RN], [RZ], fun (x : Bool × List Int × Unit) => True, fun (x : Bool × List Int × Unit) => (Pl.rsg x.1 x.2.1, ()), none⟩
def C69 : Con := ⟨[I], [RZ], fun (x : Int × Unit) => Pl.rg64 x.1, fun (x : Int × Unit) => (Pl.mkR x.1, ()), none⟩
def C51 : Con := ⟨[RZ], [RZ], fun (x : Rv × Unit) => Pl.okZ x.1, fun (x : Rv × Unit) => (Pl.ngR x.1, ()), none⟩
def C20 : Con := ⟨[RZ], [I], fun (x : Rv × Unit) => Pl.okY x.1, fun (x : Rv × Unit) => (Pl.sgR x.1, ()), none⟩
def C33 : Con := ⟨[RZ, RZ], [RZ], fun (x : Rv × Rv × Unit) => Pl.okZ x.1 ∧ Pl.okZ x.2.1, fun (x : Rv × Rv × Unit) => (Pl.adR x.1 x.2.1, ()), none⟩
def C34 : Con := ⟨[RZ, RZ], [RZ], fun (x : Rv × Rv × Unit) => Pl.okZ x.1 ∧ Pl.okZ x.2.1, fun (x : Rv × Rv × Unit) => (Pl.suR x.1 x.2.1, ()), none⟩
def C35 : Con := ⟨[RZ, RZ], [RZ], fun (x : Rv × Rv × Unit) => Pl.okZ x.1 ∧ Pl.okZ x.2.1, fun (x : Rv × Rv × Unit) => (Pl.muR x.1 x.2.1, ()), none⟩
def C53 : Con := ⟨[RZ, RZ], [I], fun (x : Rv × Rv × Unit) => Pl.okZ x.1 ∧ Pl.okZ x.2.1, fun (x : Rv × Rv × Unit) => (Pl.cpR x.1 x.2.1, ()), none⟩
def C86 : Con := ⟨[RZ, RZ], [RZ], fun (x : Rv × Rv × Unit) => Pl.okZ x.1 ∧ Pl.okZ x.2.1 ∧ x.2.1.2.1 ≠ [], fun (x : Rv × Rv × Unit) => (Pl.qoR x.1 x.2.1, ()), none⟩
def C22 : Con := ⟨[RZ, RZ], [RZ, RZ], fun (x : Rv × Rv × Unit) => Pl.okZ x.1 ∧ Pl.okZ x.2.1 ∧ x.2.1.2.1 ≠ [], fun (x : Rv × Rv × Unit) => (Pl.dqR x.1 x.2.1, Pl.drR x.1 x.2.1, ()), none⟩
def C55 : Con := ⟨[RZ, RZ], [RZ], fun (x : Rv × Rv × Unit) => Pl.okZ x.1 ∧ Pl.okZ x.2.1, fun (x : Rv × Rv × Unit) => (Pl.gcR x.1 x.2.1, ()), none⟩
def C29 : Con := ⟨[RZ, RZ], [RQ], fun (x : Rv × Rv × Unit) => Pl.okZ x.1 ∧ Pl.okZ x.2.1 ∧ x.2.1.2.1 ≠ [], fun (x : Rv × Rv × Unit) => (Pl.raR x.1 x.2.1, ()), none⟩
def C27 : Con := ⟨[I, I], [RQ], fun (x : Int × Int × Unit) => Pl.rg64 x.1 ∧ Pl.rg64 x.2.1 ∧ x.2.1 ≠ 0, fun (x : Int × Int × Unit) => (Pl.frR x.1 x.2.1, ()), none⟩
def C95 : Con := ⟨[RZ], [RQ], fun (x : Rv × Unit) => True, fun (x : Rv × Unit) => (Pl.whR x.1, ()), none⟩
def C71 : Con := ⟨[RQ, RQ], [RQ], fun (x : RQv × RQv × Unit) => Pl.okRQ x.1 ∧ Pl.okRQ x.2.1, fun (x : RQv × RQv × Unit) => (Pl.pqR x.1 x.2.1, ()), none⟩
def C43 : Con := ⟨[RQ, RQ], [RQ], fun (x : RQv × RQv × Unit) => Pl.okRQ x.1 ∧ Pl.okRQ x.2.1, fun (x : RQv × RQv × Unit) => (Pl.mqR x.1 x.2.1, ()), none⟩
def C72 : Con := ⟨[RQ, RQ], [RQ], fun (x : RQv × RQv × Unit) => Pl.okRQ x.1 ∧ Pl.okRQ x.2.1, fun (x : RQv × RQv × Unit) => (Pl.tqR x.1 x.2.1, ()), none⟩
def C74 : Con := ⟨[RQ, RQ], [RQ], fun (x : RQv × RQv × Unit) => Pl.okRQ x.1 ∧ Pl.okRQ x.2.1 ∧ x.2.1.1.2.1 ≠ [], fun (x : RQv × RQv × Unit) => (Pl.oqR x.1 x.2.1, ()), none⟩
def C73 : Con := ⟨[RQ, RQ], [I], fun (x : RQv × RQv × Unit) => Pl.okRQ x.1 ∧ Pl.okRQ x.2.1, fun (x : RQv × RQv × Unit) => (Pl.cqR x.1 x.2.1, ()), none⟩
def C41 : Con := ⟨[RQ], [I], fun (x : RQv × Unit) => Pl.okRQ x.1, fun (x : RQv × Unit) => (Pl.sqR x.1, ()), none⟩
def C84 : Con := ⟨[RQ], [S], fun (x : RQv × Unit) => Pl.okRQ x.1, fun (x : RQv × Unit) => (Pl.foR x.1, ()), none⟩
def C82 : Con := ⟨[RZ], [S], fun (x : Rv × Unit) => Pl.okZ x.1, fun (x : Rv × Unit) => (Pl.txR x.1, ()), none⟩
def C44 : Con := ⟨[S], [RZ, B], fun (x : ByteArray × Unit) => x.1.size ≤ 140737488355328, fun (x : ByteArray × Unit) => (Pl.paR x.1, Pl.isF x.1, ()), none⟩
def C36 : Con := ⟨[S], [RQ, B], fun (x : ByteArray × Unit) => x.1.size ≤ 1100000, fun (x : ByteArray × Unit) => (Pl.reR x.1, Pl.rvS x.1, ()), none⟩
def C104 : Con := ⟨[I], [RZ], fun (x : Int × Unit) => 0 ≤ x.1 ∧ x.1 ≤ 100000, fun (x : Int × Unit) => (Pl.twR x.1, ()), none⟩
def C47 : Con := ⟨[RZ], [B], fun (x : Rv × Unit) => Pl.okZ x.1, fun (x : Rv × Unit) => (Pl.smR x.1, ()), none⟩
def C58 : Con := ⟨[RZ, I], [RZ], fun (x : Rv × Int × Unit) => Pl.okZ x.1 ∧ Pl.okP x.1 x.2.1, fun (x : Rv × Int × Unit) => (Pl.poR x.1 x.2.1, ()), none⟩
def C61 : Con := ⟨[I, I], [RZ], fun (x : Int × Int × Unit) => 0 ≤ x.1 ∧ x.1 ≤ 1000, fun (x : Int × Int × Unit) => (Pl.coR x.1 x.2.1, ()), none⟩
def C62 : Con := ⟨[I], [RZ], fun (x : Int × Unit) => 0 ≤ x.1 ∧ x.1 ≤ 1000, fun (x : Int × Unit) => (Pl.faR x.1, ()), none⟩
def C49 : Con := ⟨[RZ], [I, B], fun (x : Rv × Unit) => Pl.okZ x.1, fun (x : Rv × Unit) => (Pl.i6v x.1, Pl.i6b x.1, ()), none⟩

abbrev ro : Sh := .own 3 i64
abbrev rb : Sh := .own 5 (.int .u8)
abbrev sl : Sh := .ty RL
abbrev bz : Sh := .box [B, RN]
def H101 : Hints := ⟨[], [], [(0, ⟨[], [(0, sl)]⟩)], []⟩
def H93 : Hints := ⟨[], [], [(0, ⟨[0, 1], [(5, si)]⟩)], []⟩
def H80 : Hints := ⟨[], [], [(0, ⟨[0, 1], [(5, ro), (6, si), (7, si)]⟩)], []⟩
def H81 : Hints := ⟨[], [(14, [1000005])], [(0, ⟨[0, 1], [(5, ro), (6, si), (7, si)]⟩)], []⟩
def H94 : Hints := ⟨[], [(14, [1000005])], [(0, ⟨[0, 1], [(5, ro), (6, si)]⟩), (2, ⟨[0, 1, 6], [(5, ro), (7, si), (8, si)]⟩)], []⟩
def H123 : Hints := ⟨[], [(10, [1000005])], [(0, ⟨[0, 1], [(5, ro), (6, si), (7, si)]⟩)], []⟩
def H124 : Hints := ⟨[], [(9, [1000006])], [(0, ⟨[0, 1], [(6, ro), (7, si), (8, si)]⟩)], []⟩
def H78 : Hints := ⟨[56], [(21, [1000010])], [(0, ⟨[6, 7, 8, 9], [(10, ro), (11, sl), (12, si)]⟩), (2, ⟨[6, 7, 8, 9, 12], [(10, ro), (11, sl)]⟩), (4, ⟨[6, 7, 8, 9, 11, 12], [(10, ro), (14, si), (15, si)]⟩)], []⟩
def H109 : Hints := ⟨[], [], [(0, ⟨[], [(0, sl), (1, sl)]⟩)], []⟩
def H57 : Hints := ⟨[], [], [(0, ⟨[], [(3, si), (4, si)]⟩)], []⟩
def H69 : Hints := ⟨[], [(8, [1000004])], [(0, ⟨[0], [(2, bz), (3, su), (4, ro)]⟩)], []⟩
def H82 : Hints := ⟨[50], [(1, [1])], [(0, ⟨[1], [(3, rb), (4, si)]⟩), (2, ⟨[1, 4], [(3, rb), (5, si), (6, si)]⟩), (4, ⟨[1], [(3, rb)]⟩), (6, ⟨[], [(3, rb), (7, si), (8, si)]⟩)], []⟩
def H44 : Hints := ⟨[], [(20, [1000005, 76])], [(0, ⟨[0, 4], [(2, bz), (5, ro), (6, si), (7, si), (8, si)]⟩)], []⟩
def H36 : Hints := ⟨[], [], [(0, ⟨[0], [(2, .box [B, RN, B, RN]), (4, si)]⟩)], []⟩
def H104 : Hints := ⟨[], [], [(0, ⟨[0], [(2, bz), (3, bz), (4, si)]⟩)], []⟩
def H58 : Hints := ⟨[], [(1, [2])], [(0, ⟨[1, 2], [(4, bz), (5, bz), (6, si)]⟩)], []⟩
def H61 : Hints := ⟨[], [], [(0, ⟨[0, 1], [(4, bz), (5, bz), (6, si)]⟩)], []⟩
def H62 : Hints := ⟨[], [], [(0, ⟨[0], [(2, bz), (3, bz), (4, si)]⟩)], []⟩
def H49 : Hints := ⟨[], [(1, [1])], [(0, ⟨[1], [(4, si), (5, si)]⟩)], []⟩
def cT (l : List (Nat × Con)) : Ctx := ⟨tt, l, [], none, [], 0, [], [], 64⟩
def T81 : Ctx := cT []
def T78 : Ctx := cT []
def T109 : Ctx := cT []
def T69 : Ctx := cT [(21, C79)]
def T44 : Ctx := cT [(21, C79)]
def T33 : Ctx := cT [(21, C79)]
def T34 : Ctx := cT []
def T35 : Ctx := cT [(21, C79)]
def T53 : Ctx := cT []
def T86 : Ctx := cT [(21, C79)]
def T22 : Ctx := cT [(21, C79)]
def T55 : Ctx := cT [(21, C79)]
def T29 : Ctx := cT []
def T27 : Ctx := cT [(9, C69)]
def T95 : Ctx := cT [(9, C69)]
def T71 : Ctx := cT []
def T73 : Ctx := cT []
def T41 : Ctx := cT []
def T84 : Ctx := cT [(9, C69), (8, C82)]
def T36 : Ctx := cT [(9, C69)]
def T104 : Ctx := cT [(9, C69)]
def T47 : Ctx := cT []
def T58 : Ctx := cT [(9, C69)]
def T61 : Ctx := cT [(9, C69)]
def T49 : Ctx := cT [(9, C69)]

end Ta
end
section
/- The reference's naturals: comparison, sums, differences, products by one limb. -/
set_option linter.unusedVariables false
set_option linter.unusedSimpArgs false
set_option maxRecDepth 100000
namespace Ta
open Go Fw Go.Proofs Pl

theorem BB_eq : BB = 1000000000 := rfl
theorem BB2 : 2 ≤ BB := by rw [BB_eq]; decide
theorem rngB {l : List Int} (h : rng BB l) (i : Nat) : 0 ≤ l.getD i 0 ∧ l.getD i 0 < 1000000000 := rng_getD (by decide) h i
theorem rdI {l : List Int} {i : Nat} : rd i64 l (i : Int) = l.getD i 0 := rfl
theorem nr_rn (n : Nat) : nr (rn n) = n := vl_dg BB2 n
theorem rn_can (n : Nat) : can BB (rn n) := can_dg BB2 n
theorem rn_nr {x : List Int} (h : can BB x) : rn (nr x) = x := dg_vl BB2 h
theorem len_rn {n k : Nat} (h : n < BB ^ k) : (rn n).length ≤ k := len_dg BB2 h
theorem nr_lt {x : List Int} (h : rng BB x) : nr x < BB ^ x.length := vl_lt h
theorem nr_ge {x : List Int} (h : can BB x) (h0 : x ≠ []) : BB ^ (x.length - 1) ≤ nr x := vl_ge BB2 h h0
theorem nr_zero {x : List Int} (h : can BB x) : nr x = 0 ↔ x = [] := by
  constructor
  · intro h0
    rcases Classical.em (x = []) with h1 | h1
    · exact h1
    · have := vl_pos BB2 h h1
      have e : vl BB x = 0 := h0
      omega
  · rintro rfl; rfl
theorem pow_le_B {m n : Nat} (h : m ≤ n) : BB ^ m ≤ BB ^ n := Nat.pow_le_pow_right (by decide) h
theorem pow_B_pos (k : Nat) : 0 < BB ^ k := Nat.pow_pos (by decide)
theorem mul_lt_B {x y k l : Nat} (hx : x < BB ^ k) (hy : y < BB ^ l) : x * y < BB ^ (k + l) := by
  rw [Nat.pow_add]; exact Nat.mul_lt_mul'' hx hy
theorem add_lt_B {x y k : Nat} (hx : x < BB ^ k) (hy : y < BB ^ k) : x + y < BB ^ (k + 1) := by
  have e : BB ^ (k + 1) = BB ^ k * BB := Nat.pow_succ ..
  have h2 : BB ^ k * 2 ≤ BB ^ k * BB := Nat.mul_le_mul_left _ BB2
  omega
theorem okL_rn {n k : Nat} (h : n < BB ^ k) (hk : k ≤ 10000000) : okL (rn n) := ⟨rn_can n, Nat.le_trans (len_rn h) hk⟩
theorem okK_L {x : List Int} (h : okK x) : okL x := ⟨h.1, by have := h.2; omega⟩
/-- Digits whose number is as great as it may be are a number's form. -/
theorem can_ge {B : Nat} (hB : 2 ≤ B) {l : List Int} (h : rng B l) (hg : l = [] ∨ B ^ (l.length - 1) ≤ vl B l) : can B l := by
  refine ⟨h, fun d hd => ?_⟩
  rcases List.eq_nil_or_concat l with h1 | ⟨m, x, h1⟩
  · subst h1; simp at hd
  · subst h1
    rw [List.concat_eq_append] at h hg hd
    rw [List.getLast?_concat] at hd
    injection hd with hd
    subst hd
    intro h0
    subst h0
    rcases hg with hg | hg
    · simp at hg
    · rw [vl_append] at hg
      have := vl_lt (rng_append.1 h).1
      simp [vl] at hg
      omega
theorem vl_snoc {B : Nat} (l : List Int) (d : Int) : vl B (l ++ [d]) = vl B l + B ^ l.length * d.toNat := by
  rw [vl_append]; simp [vl]
theorem rng_snoc {B : Nat} {l : List Int} {d : Int} (h : rng B l) (hd : 0 ≤ d ∧ d < B) : rng B (l ++ [d]) := rng_append.2 ⟨h, rng_cons.2 ⟨hd, rng_nil⟩⟩

/-- One more digit, and what is carried. -/
theorem carry_step {L : List Int} {c s : Int} {k P Q : Nat} (hl : L.length = k) (hs0 : 0 ≤ s) (h : vl BB L + BB ^ k * c.toNat = P) (hc0 : 0 ≤ c) (hs : s.toNat = c.toNat + Q) :
    vl BB (L ++ [s % 1000000000]) + BB ^ (k + 1) * (s / 1000000000).toNat = P + BB ^ k * Q := by
  have e1 : (s % 1000000000).toNat = s.toNat % BB := by rw [BB_eq]; omega
  have e2 : (s / 1000000000).toNat = s.toNat / BB := by rw [BB_eq]; omega
  rw [vl_snoc, hl, e1, e2, Nat.pow_succ, Nat.mul_assoc]
  have := Nat.mod_add_div s.toNat BB
  have e3 : BB ^ k * s.toNat = BB ^ k * (s.toNat % BB) + BB ^ k * (BB * (s.toNat / BB)) := by rw [← Nat.mul_add, this]
  have e4 : BB ^ k * s.toNat = BB ^ k * c.toNat + BB ^ k * Q := by rw [hs, Nat.mul_add]
  omega
theorem mod_B {s : Int} (h : 0 ≤ s) : 0 ≤ s % 1000000000 ∧ s % 1000000000 < (BB : Int) := by rw [show ((BB : Nat) : Int) = 1000000000 from rfl]; omega

/-- One more digit, and what is borrowed. -/
theorem borrow_step {L : List Int} {b d z : Int} {k P Q X Y : Nat} (hl : L.length = k) (h : vl BB L + Q = P + BB ^ k * b.toNat) (hb : 0 ≤ b ∧ b ≤ 1) (hd : 0 ≤ d ∧ d < 1000000000) (hz : 0 ≤ z ∧ z ≤ 1)
    (hs : (X : Int) - b - Y + 1000000000 * z = d) : vl BB (L ++ [d]) + (Q + BB ^ k * Y) = P + BB ^ k * X + BB ^ (k + 1) * z.toNat := by
  rw [vl_snoc, hl, Nat.pow_succ, Nat.mul_assoc]
  have e : X + BB * z.toNat = d.toNat + b.toNat + Y := by rw [BB_eq]; omega
  have e2 := congrArg (fun t => BB ^ k * t) e
  simp only [Nat.mul_add] at e2
  omega
theorem small_wrap {r X : Nat} (hr : r < 1000000000) (hX : X < 1000000000) : IntKind.i64.wrap (IntKind.i64.wrap ((r : Int) * 1000000000) + (X : Int)) = ((r * 1000000000 + X : Nat) : Int) := by
  rw [wrap_i64 (x := (r : Int) * 1000000000) (by omega) (by omega), wrap_i64 (by omega) (by omega)]
  omega
theorem small_lt {r X D : Nat} (hD : 0 < D) (h1 : r < D) (hX : X < 1000000000) : (r * 1000000000 + X) / D < 1000000000 := by
  rw [Nat.div_lt_iff_lt_mul hD]
  have : (r + 1) * 1000000000 ≤ D * 1000000000 := Nat.mul_le_mul_right _ h1
  omega
theorem small_fin {b X D v r q s : Nat} (hdm : D * q + s = b * r + X) : X + b * (D * v + r) = D * (q + b * v) + s := by
  rw [Nat.mul_add, Nat.mul_add]
  have e3 : D * (b * v) = b * (D * v) := by rw [← Nat.mul_assoc, Nat.mul_comm D b, Nat.mul_assoc]
  omega
end Ta
end
section
/- The reference's naturals: products. -/
set_option linter.unusedVariables false
set_option linter.unusedSimpArgs false
set_option maxRecDepth 100000
namespace Ta
open Go Fw Go.Proofs Pl

/-- A digit that is set, and what is carried. -/
theorem mul_step {B S S' P o c d c' v p q : Nat} (hset : S' + B * o = S + B * d) (h : S + B * c = P) (hv : d + q * c' = v) (hs : v = o + c + p) : S' + B * q * c' = P + B * p := by
  have e := congrArg (fun t => B * t) (hv.trans hs)
  simp only [Nat.mul_add] at e
  rw [Nat.mul_assoc]
  omega
end Ta
end
section
/- The reference's naturals: quotient and remainder, common divisor, number of digits. -/
set_option linter.unusedVariables false
set_option linter.unusedSimpArgs false
set_option maxRecDepth 100000
set_option exponentiation.threshold 6000000
namespace Ta
open Go Fw Go.Proofs Pl

theorem cmpR_ge {x y : List Int} : (cmpR x y ≥ 0) ↔ nr y ≤ nr x := by
  show cmpN (nr x) (nr y) ≥ 0 ↔ _
  unfold cmpN
  by_cases h : nr x < nr y
  · rw [if_pos h]; omega
  · rw [if_neg h]
    constructor
    · intro _; omega
    · intro _; split <;> decide
theorem vl_cons {B : Nat} (d : Int) (l : List Int) : vl B (d :: l) = d.toNat + B * vl B l := rfl
theorem vl_drop_le {B : Nat} {l : List Int} {i : Nat} (hi : i ≤ l.length) : B ^ i * vl B (l.drop i) ≤ vl B l := by
  rw [vl_drop hi]; exact Nat.le_add_left _ _
/-- The guess is never too much. -/
theorem guess_le {B P n h Y R : Nat} (hY : Y ≤ h * P) (hn : P * n ≤ R) : n / h * Y ≤ R := by
  have h1 : n / h * Y ≤ n / h * (h * P) := Nat.mul_le_mul_left _ hY
  have h2 : n / h * (h * P) = n / h * h * P := (Nat.mul_assoc _ _ _).symm
  have h3 : n / h * h * P ≤ n * P := Nat.mul_le_mul_right _ (Nat.div_mul_le_self n h)
  rw [Nat.mul_comm n P] at h3
  omega
theorem inner_q {c n Y R R0 : Nat} (h : c * Y + R = R0) (hn : n * Y ≤ R) : (c + n) * Y + (R - n * Y) = R0 := by
  rw [Nat.add_mul]; omega
theorem digit_lt {c Y R R0 B : Nat} (h : c * Y + R = R0) (h0 : R0 < Y * B) : c < B := by
  rcases Nat.lt_or_ge c B with h1 | h1
  · exact h1
  · have := Nat.mul_le_mul_right Y h1
    rw [Nat.mul_comm Y B] at h0
    omega
theorem outer_q {B Xi Xv Y Qv r c R : Nat} (h : Xv = Y * Qv + r) (hc : c * Y + R = Xi + B * r) : Xi + B * Xv = Y * (c + B * Qv) + R := by
  subst h
  rw [Nat.mul_add, Nat.mul_add, Nat.mul_comm Y c]
  have e : Y * (B * Qv) = B * (Y * Qv) := Nat.mul_left_comm _ _ _
  omega
theorem top_split {B : Nat} {l : List Int} {m : Nat} (h : l.length = m + 1) : vl B l = vl B (l.take m) + B ^ m * (l.getD m 0).toNat := by
  have := vl_take_getD (B := B) (l := l) m
  rw [List.take_of_length_le (by omega)] at this
  exact this
end Ta
end
section
/- The reference's integers. -/
set_option linter.unusedVariables false
set_option linter.unusedSimpArgs false
set_option maxRecDepth 100000
namespace Ta
open Go Fw Go.Proofs Pl

theorem padk_len : ∀ (k r : Nat), (padk k r).length = k
  | 0, _ => rfl
  | k + 1, r => by show (padk k (r / 10) ++ [_]).length = _; rw [List.length_append, padk_len k]; rfl
theorem BB_pow (m : Nat) : BB ^ m = 10 ^ (9 * m) := by rw [Nat.pow_mul]; rfl
def dl (v : Nat) : Nat := if v = 0 then 0 else (Lib.decDigits v).length
theorem dl_step {v : Nat} (h : 0 < v) : dl v = dl (v / 10) + 1 := by
  unfold dl
  rw [if_neg (by omega)]
  by_cases h1 : v < 10
  · rw [dec_small h1, if_pos (Nat.div_eq_of_lt h1)]; rfl
  · rw [dec_big h1, if_neg (by omega), List.length_append]; rfl
theorem vc79 : ∀ x, C79.pre x → VC T0 H0 Tryd.f21 C79 x := by
  rintro ⟨(b : Bool), (x : List Int), ⟨⟩⟩ -
  refine cast (α := Br b (((decide ((↑x.length : Int) > (0 : Int)), x, ()), ()) = C79.post (b, x, ())) (((false, x, ()), ()) = C79.post (b, x, ()))) (by kernel_rfl) ?_
  have e : C79.post (b, x, ()) = ((b && decide (0 < (x.length : Int)), x, ()), ()) := rfl
  rw [e]
  cases b <;> rfl

/-! ### Signs -/
theorem zv_t (a : List Int) : zv (true, a, ()) = -((nr a : Nat) : Int) := rfl
theorem zv_f (a : List Int) : zv (false, a, ()) = ((nr a : Nat) : Int) := rfl
theorem natAbs_zv (z : Rv) : (zv z).natAbs = nr z.2.1 := by unfold zv; split <;> omega
theorem nr_pos {a : List Int} (h : can BB a) (h0 : a ≠ []) : 0 < nr a := vl_pos BB2 h h0
theorem rsg_mk {a : List Int} (h : can BB a) (s : Bool) : rsg s a = mkR (if s then -((nr a : Nat) : Int) else ((nr a : Nat) : Int)) := by
  have e : ((if s then -((nr a : Nat) : Int) else ((nr a : Nat) : Int))).natAbs = nr a := by split <;> omega
  unfold mkR rsg
  rw [e, rn_nr h]
  congr 1
  cases s with
  | false =>
    simp only [Bool.false_and, Bool.false_eq_true, if_false]
    exact (decide_eq_false (by omega)).symm
  | true =>
    simp only [Bool.true_and, if_true]
    have h1 : nr a = 0 ↔ a = [] := nr_zero h
    have h2 : a.length = 0 ↔ a = [] := List.length_eq_zero_iff
    refine decide_eq_decide.2 ⟨fun k => ?_, fun k => ?_⟩
    · rcases Nat.eq_zero_or_pos (nr a) with h3 | h3
      · have := h2.2 (h1.1 h3); omega
      · omega
    · rcases Nat.eq_zero_or_pos a.length with h3 | h3
      · have := h1.2 (h2.1 h3); omega
      · omega
theorem rsg_rn (k : Nat) (s : Bool) : rsg s (rn k) = mkR (if s then -((k : Nat) : Int) else ((k : Nat) : Int)) := by rw [rsg_mk (rn_can k), nr_rn]
theorem zv_mk (n : Int) : zv (mkR n) = n := by
  unfold zv mkR
  simp only [nr_rn]
  by_cases h : n < 0
  · rw [decide_eq_true h, if_pos rfl]; omega
  · rw [decide_eq_false h]; simp only [Bool.false_eq_true, if_false]; omega
theorem okZ_Y {z : Rv} (h : okZ z) : okY z := ⟨h.1, by have := h.2.1; omega, h.2.2⟩
theorem mk_zv {z : Rv} (h : okY z) : mkR (zv z) = z := by
  obtain ⟨s, a, ⟨⟩⟩ := z
  obtain ⟨h1, h2, h3⟩ := h
  have := rsg_mk h1 s
  have e : mkR (zv (s, a, ())) = rsg s a := by rw [this]; rfl
  rw [e]
  unfold rsg
  cases s with
  | false => rfl
  | true =>
    have h4 : 0 < a.length := List.length_pos_iff.2 (h3 rfl)
    rw [decide_eq_true (by omega)]; rfl
theorem ok_mk {n : Int} {k m : Nat} (h : n.natAbs < BB ^ k) (hk : k ≤ m) : can BB (mkR n).2.1 ∧ (mkR n).2.1.length ≤ m ∧ ((mkR n).1 = true → (mkR n).2.1 ≠ []) := by
  refine ⟨rn_can _, Nat.le_trans (len_rn h) hk, fun h1 => ?_⟩
  have h2 : n < 0 := of_decide_eq_true h1
  intro h3
  have h4 : rn n.natAbs = [] := h3
  have : nr (rn n.natAbs) = 0 := by rw [h4]; rfl
  rw [nr_rn] at this
  omega
theorem okZ_mk {n : Int} (k : Nat) (h : n.natAbs < BB ^ k) (hk : k ≤ 4000000) : okZ (mkR n) := ok_mk h hk
theorem okY_mk {n : Int} (k : Nat) (h : n.natAbs < BB ^ k) (hk : k ≤ 9000000) : okY (mkR n) := ok_mk h hk
def Pl.K4 : Nat := 4000000
theorem K4_eq : K4 = 4000000 := rfl
theorem okZ_abs {z : Rv} (h : okZ z) : (zv z).natAbs < BB ^ K4 := by
  rw [natAbs_zv]
  exact Nat.lt_of_lt_of_le (nr_lt h.1.1) (pow_le_B h.2.1)
theorem okZ_L {s : Bool} {a : List Int} (h : okZ (s, a, ())) : okL a := ⟨h.1, by have := h.2.1; simp only at this; omega⟩
theorem okZ_K {s : Bool} {a : List Int} (h : okZ (s, a, ())) : okK a := ⟨h.1, by have := h.2.1; simp only at this; omega⟩
theorem okZ_pos {a : List Int} (h : okZ (true, a, ())) : 0 < nr a := nr_pos h.1 (h.2.2 rfl)
theorem zv_nil {z : Rv} (h : okY z) : zv z = 0 ↔ z.2.1 = [] := by
  rw [← nr_zero h.1]
  have := natAbs_zv z
  omega
theorem mkR0 : mkR 0 = (false, [], ()) := rfl

theorem dg_step {B n : Nat} (hB : 2 ≤ B) (h : 0 < n) : dg B n = ((n % B : Nat) : Int) :: dg B (n / B) := by
  have hm := Nat.mod_lt n (show 0 < B by omega)
  have hd := Nat.mod_add_div n B
  have hc : can B (((n % B : Nat) : Int) :: dg B (n / B)) := by
    refine ⟨rng_cons.2 ⟨⟨by omega, by omega⟩, (can_dg hB _).1⟩, fun d h1 => ?_⟩
    by_cases h2 : n / B = 0
    · rw [h2, dg_zero] at h1
      simp at h1
      rw [h2] at hd
      omega
    · rw [List.getLast?_cons_of_ne_nil (fun h => h2 ((dg_nil hB).1 h))] at h1
      exact (can_dg hB _).2 d h1
  refine can_eq hB (can_dg hB n) hc ?_
  rw [vl_dg hB, vl_cons, vl_dg hB, Int.toNat_natCast, hd]
theorem vc69 : ∀ x, C69.pre x → VC T69 H69 Tryd.f9 C69 x := by
  rintro ⟨(n : Int), ⟨⟩⟩ ⟨(h1 : -9223372036854775808 ≤ n), (h2 : n < 9223372036854775808)⟩
  refine cast (α := Br (decide (n < (0 : Int))) (∃ (n_1 : Nat), itl (fun (G : (Bool × List Int × PUnit) × Int × List Int × PUnit → Prop) (x : (Bool × List Int × PUnit) × Int × List Int × PUnit) => Br (decide (x.snd.fst > (0 : Int))) ((1000000000 : Int) ≠ (0 : Int) ∧ ((↑(List.length x.snd.snd.fst) : Int) + (↑[IntKind.i64.wrap (Int.tmod x.snd.fst (1000000000 : Int))].length : Int)) * (8 : Int) ≤ (140737488355328 : Int) ∧ (1000000000 : Int) ≠ (0 : Int) ∧ G (x.fst, IntKind.u64.wrap (Int.tdiv x.snd.fst (1000000000 : Int)), List.append x.snd.snd.fst [IntKind.i64.wrap (Int.tmod x.snd.fst (1000000000 : Int))], ())) (True ∧ (Pl.rsg (decide (n < (0 : Int))) x.snd.snd.1, ()) = C69.post (n, ()))) n_1 ((false, [], ()), IntKind.u64.wrap ((0 : Int) - IntKind.u64.wrap n), [], ())) (∃ (n_1 : Nat), itl (fun (G : (Bool × List Int × PUnit) × Int × List Int × PUnit → Prop) (x : (Bool × List Int × PUnit) × Int × List Int × PUnit) => Br (decide (x.snd.fst > (0 : Int))) ((1000000000 : Int) ≠ (0 : Int) ∧ ((↑(List.length x.snd.snd.fst) : Int) + (↑[IntKind.i64.wrap (Int.tmod x.snd.fst (1000000000 : Int))].length : Int)) * (8 : Int) ≤ (140737488355328 : Int) ∧ (1000000000 : Int) ≠ (0 : Int) ∧ G (x.fst, IntKind.u64.wrap (Int.tdiv x.snd.fst (1000000000 : Int)), List.append x.snd.snd.fst [IntKind.i64.wrap (Int.tmod x.snd.fst (1000000000 : Int))], ())) (True ∧ (Pl.rsg (decide (n < (0 : Int))) x.snd.snd.1, ()) = C69.post (n, ()))) n_1 ((false, [], ()), IntKind.u64.wrap n, [], ()))) (by kernel_rfl) ?_
  have e : C69.post (n, ()) = (mkR n, ()) := rfl
  rw [e]
  have main : ∃ n_1 : Nat,
    itl
      (fun (G : (Bool × List Int × PUnit) × Int × List Int × PUnit → Prop)
          (x : (Bool × List Int × PUnit) × Int × List Int × PUnit) =>
        Br (decide (x.snd.fst > (0 : Int)))
          ((1000000000 : Int) ≠ (0 : Int) ∧
            (((List.length x.snd.snd.fst : Nat) : Int) +
                    (([IntKind.i64.wrap (Int.tmod x.snd.fst (1000000000 : Int))].length : Nat) : Int)) *
                  (8 : Int) ≤
                (140737488355328 : Int) ∧
              (1000000000 : Int) ≠ (0 : Int) ∧
                G
                  (x.fst, IntKind.u64.wrap (Int.tdiv x.snd.fst (1000000000 : Int)),
                    List.append x.snd.snd.fst [IntKind.i64.wrap (Int.tmod x.snd.fst (1000000000 : Int))], ()))
          (True ∧ (Pl.rsg (decide (n < (0 : Int))) x.snd.snd.1, ()) = (mkR n, ())))
      n_1 ((false, [], ()), ((n.natAbs : Nat) : Int), [], ()) := by
    have hl3 : (rn n.natAbs).length ≤ 3 := by
      refine len_rn ?_
      have : BB ^ 3 = 1000000000000000000000000000 := by decide
      rw [this]; omega
    refine itl_rule (fun s => ∃ u : Nat, s.2.1 = (u : Int) ∧ u < 18446744073709551616 ∧ s.2.2.1 ++ rn u = rn n.natAbs) (fun s => s.2.1.toNat) ⟨n.natAbs, rfl, by omega, rfl⟩ ?_
    rintro ⟨bx, u', out, ⟨⟩⟩ G ⟨u, hu, h3, h5⟩ hG
    simp only at hu h5
    subst hu
    simp only
    have hol : out.length ≤ 3 := by
      have := congrArg List.length h5
      rw [List.length_append] at this
      omega
    refine Br_of (fun hb => ⟨by decide, ?_⟩) (fun hb => ?_)
    · have hp : 0 < u := by have := of_decide_eq_true hb; omega
      have e1 : Int.tdiv (u : Int) 1000000000 = ((u / 1000000000 : Nat) : Int) := by rw [tdiv_nn (by omega)]; omega
      have e2 : Int.tmod (u : Int) 1000000000 = ((u % 1000000000 : Nat) : Int) := by rw [tmod_nn (by omega)]; omega
      rw [e1, e2, wrap_i64 (x := ((u % 1000000000 : Nat) : Int)) (by omega) (by omega), wrap_u64]
      have e3 : ((u / 1000000000 : Nat) : Int) % 18446744073709551616 = ((u / 1000000000 : Nat) : Int) := by omega
      rw [e3]
      refine ⟨by simp only [List.length_singleton]; omega, by decide, hG _ ⟨u / 1000000000, rfl, by omega, ?_⟩ (by simp only; omega)⟩
      simp only [List.append_eq]
      rw [← h5, List.append_assoc]
      congr 1
      show _ = dg BB u
      rw [dg_step BB2 hp]; rfl
    · have hp : u = 0 := by have := of_decide_eq_false hb; omega
      subst hp
      have h7 : out = rn n.natAbs := by rw [← h5]; exact (List.append_nil _).symm
      refine ⟨trivial, ?_⟩
      rw [h7, rsg_rn]
      congr 1
      congr 1
      by_cases hn : n < 0
      · rw [decide_eq_true hn, if_pos rfl]; omega
      · rw [decide_eq_false hn]; simp only [Bool.false_eq_true, if_false]; omega
  refine Br_of (fun hb => ?_) (fun hb => ?_)
  · have hn := of_decide_eq_true hb
    have e : IntKind.u64.wrap ((0 : Int) - IntKind.u64.wrap n) = ((n.natAbs : Nat) : Int) := by rw [wrap_u64, wrap_u64]; omega
    rw [e]; exact main
  · have hn := of_decide_eq_false hb
    have e : IntKind.u64.wrap n = ((n.natAbs : Nat) : Int) := by rw [wrap_u64]; omega
    rw [e]; exact main

theorem okZ_ng {z : Rv} (h : okZ z) : okZ (ngR z) := okZ_mk K4 (by rw [Int.natAbs_neg]; exact okZ_abs h) (by rw [K4_eq]; decide)
theorem zv_ng (z : Rv) : zv (ngR z) = -(zv z) := zv_mk _
theorem sgn_mul (s t : Bool) (A B : Nat) : (if (!(s == t)) = true then -((A * B : Nat) : Int) else ((A * B : Nat) : Int)) = (if s then -(A : Int) else (A : Int)) * (if t then -(B : Int) else (B : Int)) := by
  cases s <;> cases t <;> simp [Int.natCast_mul, Int.neg_mul, Int.mul_neg]
theorem zv_su (x y : Rv) : zv (suR x y) = zv x - zv y := zv_mk _
theorem ordI_sub (x y : Int) : ordI (x - y) 0 = ordI x y := by
  unfold ordI
  by_cases h : x < y
  · rw [if_pos (by omega), if_pos h]
  · rw [if_neg (by omega), if_neg h]
    by_cases h' : y < x
    · rw [if_pos (by omega), if_pos h']
    · rw [if_neg (by omega), if_neg h']
theorem sgn_div (s t : Bool) (A B : Nat) : (if (!(s == t)) = true then -((A / B : Nat) : Int) else ((A / B : Nat) : Int)) = (if s then -(A : Int) else (A : Int)).tdiv (if t then -(B : Int) else (B : Int)) := by
  have e : (A : Int).tdiv (B : Int) = ((A / B : Nat) : Int) := rfl
  cases s <;> cases t <;> simp [Int.neg_tdiv, Int.tdiv_neg, e]
end Ta
end
section
/- Fractions: lowest terms, sums, products, quotients. -/
set_option linter.unusedVariables false
set_option linter.unusedSimpArgs false
set_option maxRecDepth 100000
namespace Ta
open Go Fw Go.Proofs Pl

/-! ### Plain laws of fractions -/
theorem num_mk {n : Int} {d : Nat} (h : Nat.gcd n.natAbs (d + 1) = 1) : (mkRat n (d + 1)).num = n ∧ (mkRat n (d + 1)).den = d + 1 := by
  have e : mkRat n (d + 1) = Rat.divInt n ((d + 1 : Nat) : Int) := (Rat.divInt_ofNat n (d + 1)).symm
  have hg : Int.gcd ((d + 1 : Nat) : Int) n = 1 := by
    show Nat.gcd (d + 1) n.natAbs = 1
    rw [Nat.gcd_comm]; exact h
  rw [e]
  constructor
  · rw [Rat.num_divInt, hg]
    have : Int.sign ((d + 1 : Nat) : Int) = 1 := Int.sign_eq_one_of_pos (by omega)
    rw [this, Int.one_mul]; exact Int.ediv_one _
  · rw [Rat.den_divInt, hg, if_neg (by omega)]; omega
theorem qv_num {n : Nat} {q : Qv} (h : okQn n q) : (qv q).num = iv q.1 ∧ (qv q).den = nt q.2.1 + 1 := num_mk (by rw [natAbs_iv]; exact h.2.2.2.2)
theorem mkQ_qv {n : Nat} {q : Qv} (h : okQn n q) : mkQ (qv q) = q := by
  obtain ⟨h1, h2⟩ := qv_num h
  unfold mkQ
  rw [h1, h2, mk_iv h.1, Nat.add_sub_cancel, can_tn' h.2.1]
theorem qv_mkQ (r : Rat) : qv (mkQ r) = r := by
  unfold qv mkQ
  simp only [iv_mk, nt_tn]
  rw [Nat.sub_add_cancel r.den_pos, Rat.mkRat_self]
theorem iv_mkQ (r : Rat) : iv (mkQ r).1 = r.num := iv_mk _
theorem nt_mkQ (r : Rat) : nt (mkQ r).2.1 + 1 = r.den := by
  show nt (tn (r.den - 1)) + 1 = _
  rw [nt_tn, Nat.sub_add_cancel r.den_pos]
theorem okQ_mk {r : Rat} {k n : Nat} (h : r.num.natAbs < W ^ k) (h' : r.den ≤ W ^ k) (hk : k ≤ n) (hn : n ≤ 10000000) : okQn n (mkQ r) := by
  have hd := r.den_pos
  refine ⟨okI_mk h (by omega), tn_can _, Nat.le_trans (len_tn h) hk, Nat.le_trans (len_tn (k := k) (by omega)) hk, ?_⟩
  have e1 : nt (mkQ r).1.1 = r.num.natAbs := by show nt (tn r.num.natAbs) = _; rw [nt_tn]
  rw [e1, nt_mkQ]
  exact r.reduced
theorem okI_mk' {n : Int} (k : Nat) (h : n.natAbs < W ^ k) (hk : k ≤ 10000000) : okI (mkI n) := okI_mk h hk
theorem okQ_len {n : Nat} {q : Qv} (h : okQn n q) : (iv q.1).natAbs < W ^ n ∧ nt q.2.1 + 1 ≤ W ^ n := by
  have h1 := nt_lt h.1.1
  have h2 := nt_lt h.2.1
  have h3 := pow_le_W h.2.2.1
  have h4 := pow_le_W h.2.2.2.1
  rw [natAbs_iv]
  omega
theorem dn_val (q : Qv) : iv (dnI q) = ((nt q.2.1 + 1 : Nat) : Int) := iv_mk _
theorem dn_qv {n : Nat} {q : Qv} (h : okQn n q) : iv (dnI q) = ((qv q).den : Int) := by rw [dn_val, (qv_num h).2]
theorem divInt_bound {a b : Int} (hb : b ≠ 0) : (Rat.divInt a b).num.natAbs ≤ a.natAbs ∧ (Rat.divInt a b).den ≤ b.natAbs := by
  constructor
  · rw [Rat.num_divInt, Int.natAbs_ediv_of_dvd (Int.dvd_mul_of_dvd_right (Int.gcd_dvd_right ..))]
    refine Nat.le_trans (Nat.div_le_self _ _) ?_
    rw [Int.natAbs_mul]
    have : (Int.sign b).natAbs = 1 := Int.natAbs_sign_of_ne_zero hb
    rw [this, Nat.one_mul]; exact Nat.le_refl _
  · rw [Rat.den_divInt, if_neg hb]
    exact Nat.div_le_self _ _
theorem okQ_div {a b : Int} {k n : Nat} (hb : b ≠ 0) (h1 : a.natAbs < W ^ k) (h2 : b.natAbs ≤ W ^ k) (hk : k ≤ n) (hn : n ≤ 10000000) : okQn n (mkQ (Rat.divInt a b)) := by
  obtain ⟨k1, k2⟩ := divInt_bound (a := a) hb
  exact okQ_mk (Nat.lt_of_le_of_lt k1 h1) (Nat.le_trans k2 h2) hk hn
theorem big_dn (q : Qv) : big (dnI q).1 = bigI ((nt q.2.1 + 1 : Nat) : Int) := big_mk _
theorem big_iv (z : Zv) : big z.1 = bigI (iv z) := by unfold big bigI; rw [natAbs_iv]
theorem big2_qv {n : Nat} {q : Qv} (h : okQn n q) : big2 q = bigQ (qv q) := by
  obtain ⟨h1, h2⟩ := qv_num h
  unfold big2 bigQ
  rw [h1, h2, big_dn, big_iv]
theorem big2_mk (r : Rat) : big2 (mkQ r) = bigQ r := by
  unfold big2 bigQ
  rw [big_dn, big_iv, iv_mkQ, nt_mkQ]

/-! ### The functions -/
theorem okQn_R {n : Nat} {q : Qv} (hn : n ≤ 100000000) (h : okQn n q) : rgN q.2.1 := ⟨h.2.1.1, by have := h.2.2.2.1; unfold LEN; omega⟩
theorem rgN_one : rgN (tnI 1) := okN_rng (okN_tn (n := 1) (k := 1) (by decide) (by decide))
theorem addN_one (b : List Int) : addN b (tnI 1) = tn (nt b + 1) := by
  show tn (nt b + nt (tn 1)) = _
  rw [nt_tn]
theorem vc83 : ∀ x, C83.pre x → VC T83 H0 Tryd.f50 C83 x := by
  rintro ⟨⟨⟨(a : List Int), (s : Bool), ⟨⟩⟩, (b : List Int), ⟨⟩⟩, ⟨⟩⟩ (h : okQn 9000000 ((a, s, ()), b, ()))
  refine cast (α := ((0 : Int) ≤ (1 : Int) ∧ (1 : Int) < (18446744073709551616 : Int)) ∧ (Pl.rgN b ∧ Pl.rgN (Pl.tnI (1 : Int))) ∧ True ∧ (Pl.sgn (Pl.addN b (Pl.tnI (1 : Int))) false, ()) = C83.post (((a, s, ()), b, ()), ())) (by kernel_rfl) ?_
  refine ⟨⟨by decide, by decide⟩, ⟨okQn_R (by decide) h, rgN_one⟩, trivial, ?_⟩
  show (sgn (addN b (tnI 1)) false, ()) = (mkI ((nt b + 1 : Nat) : Int), ())
  rw [addN_one, sgn_tn]; rfl

theorem lo_all {z y : Zv} (hz : okI z) (hy : okI y) (hp : 0 < iv y) :
    (okM z.1 ∧ okM y.1) ∧ (okM z.1 ∧ okM (gcdN z.1 y.1) ∧ gcdN z.1 y.1 ≠ []) ∧ (okM y.1 ∧ okM (gcdN z.1 y.1) ∧ gcdN z.1 y.1 ≠ []) ∧ True ∧ ((0 : Int) ≤ (1 : Int) ∧ (1 : Int) < (18446744073709551616 : Int)) ∧
      (okN (quoN y.1 (gcdN z.1 y.1)) ∧ okN (tnI (1 : Int)) ∧ leN (tnI (1 : Int)) (quoN y.1 (gcdN z.1 y.1))) ∧
      ((sgn (quoN z.1 (gcdN z.1 y.1)) z.2.1, subN (quoN y.1 (gcdN z.1 y.1)) (tnI (1 : Int)), ()), ()) = (mkQ (Rat.divInt (iv z) (iv y)), ()) := by
  obtain ⟨b, t, ⟨⟩⟩ := y
  have ht : t = false := by
    cases t with
    | false => rfl
    | true => rw [iv_t] at hp; omega
  subst ht
  obtain ⟨a, s, ⟨⟩⟩ := z
  rw [iv_f] at hp
  have hb : 0 < nt b := by omega
  have hg : 0 < Nat.gcd (nt a) (nt b) := Nat.gcd_pos_of_pos_right _ hb
  have hgb : Nat.gcd (nt a) (nt b) ≤ nt b := Nat.gcd_le_right _ hb
  have e1 : gcdN a b = tn (Nat.gcd (nt a) (nt b)) := rfl
  have e2 : quoN b (gcdN a b) = tn (nt b / Nat.gcd (nt a) (nt b)) := by rw [e1]; show tn (nt b / nt (tn _)) = _; rw [nt_tn]
  have e3 : quoN a (gcdN a b) = tn (nt a / Nat.gcd (nt a) (nt b)) := by rw [e1]; show tn (nt a / nt (tn _)) = _; rw [nt_tn]
  have hbl := okI_lt hy
  simp only at hbl
  have hgo : okM (gcdN a b) := by rw [e1]; exact okM_tn (k := KI) (Nat.lt_of_le_of_lt hgb hbl) (by rw [KI_eq]; decide)
  have hgn : gcdN a b ≠ [] := fun h => by
    have : nt (gcdN a b) = 0 := by rw [h]; rfl
    rw [e1, nt_tn] at this; omega
  have hdp : 0 < nt b / Nat.gcd (nt a) (nt b) := Nat.div_pos hgb hg
  refine ⟨⟨okI_M hz, okI_M hy⟩, ⟨okI_M hz, hgo, hgn⟩, ⟨okI_M hy, hgo, hgn⟩, trivial, ⟨by decide, by decide⟩, ⟨?_, okN_tn (n := 1) (k := 1) (by decide) (by decide), ?_⟩, ?_⟩
  · rw [e2]; exact okN_tn (k := KI) (Nat.lt_of_le_of_lt (Nat.div_le_self _ _) hbl) (by rw [KI_eq]; decide)
  · rw [e2]
    show nt (tn 1) ≤ nt (tn _)
    rw [nt_tn, nt_tn]; exact hdp
  · rw [e2, e3, sgn_tn]
    have hsb : subN (tn (nt b / Nat.gcd (nt a) (nt b))) (tnI 1) = tn (nt b / Nat.gcd (nt a) (nt b) - 1) := by
      show tn (nt (tn _) - nt (tn 1)) = _
      rw [nt_tn, nt_tn]
    rw [hsb, iv_f]
    unfold mkQ
    have hgc : Int.gcd ((nt b : Nat) : Int) (iv (a, s, ())) = Nat.gcd (nt a) (nt b) := by
      show Nat.gcd (((nt b : Nat) : Int).natAbs) ((iv (a, s, ())).natAbs) = _
      rw [natAbs_iv, Int.natAbs_natCast, Nat.gcd_comm]
    have hd : (Rat.divInt (iv (a, s, ())) ((nt b : Nat) : Int)).den = nt b / Nat.gcd (nt a) (nt b) := by
      rw [Rat.den_divInt, hgc, if_neg (by omega), Int.natAbs_natCast]
    have hn : (Rat.divInt (iv (a, s, ())) ((nt b : Nat) : Int)).num = if s = true then -((nt a / Nat.gcd (nt a) (nt b) : Nat) : Int) else ((nt a / Nat.gcd (nt a) (nt b) : Nat) : Int) := by
      rw [Rat.num_divInt, hgc]
      have : Int.sign ((nt b : Nat) : Int) = 1 := Int.sign_eq_one_of_pos (by omega)
      rw [this, Int.one_mul]
      cases s with
      | false => rw [iv_f]; simp only [Bool.false_eq_true, if_false]; exact (Int.natCast_ediv _ _).symm
      | true =>
        rw [iv_t, if_pos rfl, Int.neg_ediv_of_dvd (Int.natCast_dvd_natCast.2 (Nat.gcd_dvd_left _ _)), Int.natCast_ediv]
    rw [hd, hn]

theorem vc85 : ∀ x, C85.pre x → VC T85 H0 Tryd.f45 C85 x := by
  rintro ⟨⟨(a : List Int), (s : Bool), ⟨⟩⟩, ⟨(b : List Int), (t : Bool), ⟨⟩⟩, ⟨⟩⟩ ⟨(h : okI (a, s, ())), (k : okI (b, t, ())), (hb : b ≠ [])⟩
  refine cast (α := Br t (Pl.okI (a, s, ()) ∧ Pl.okI (b, t, ()) ∧ (Pl.okM (Pl.ngI (a, s, ())).1 ∧ Pl.okM (Pl.ngI (b, t, ())).1) ∧ (Pl.okM (Pl.ngI (a, s, ())).1 ∧ Pl.okM (Pl.gcdN (Pl.ngI (a, s, ())).1 (Pl.ngI (b, t, ())).1) ∧ Pl.gcdN (Pl.ngI (a, s, ())).1 (Pl.ngI (b, t, ())).1 ≠ []) ∧ (Pl.okM (Pl.ngI (b, t, ())).1 ∧ Pl.okM (Pl.gcdN (Pl.ngI (a, s, ())).1 (Pl.ngI (b, t, ())).1) ∧ Pl.gcdN (Pl.ngI (a, s, ())).1 (Pl.ngI (b, t, ())).1 ≠ []) ∧ True ∧ ((0 : Int) ≤ (1 : Int) ∧ (1 : Int) < (18446744073709551616 : Int)) ∧ (Pl.okN (Pl.quoN (Pl.ngI (b, t, ())).1 (Pl.gcdN (Pl.ngI (a, s, ())).1 (Pl.ngI (b, t, ())).1)) ∧ Pl.okN (Pl.tnI (1 : Int)) ∧ Pl.leN (Pl.tnI (1 : Int)) (Pl.quoN (Pl.ngI (b, t, ())).1 (Pl.gcdN (Pl.ngI (a, s, ())).1 (Pl.ngI (b, t, ())).1))) ∧ ((Pl.sgn (Pl.quoN (Pl.ngI (a, s, ())).1 (Pl.gcdN (Pl.ngI (a, s, ())).1 (Pl.ngI (b, t, ())).1)) (Pl.ngI (a, s, ())).snd.fst, Pl.subN (Pl.quoN (Pl.ngI (b, t, ())).1 (Pl.gcdN (Pl.ngI (a, s, ())).1 (Pl.ngI (b, t, ())).1)) (Pl.tnI (1 : Int)), ()), ()) = C85.post ((a, s, ()), (b, t, ()), ())) ((Pl.okM a ∧ Pl.okM b) ∧ (Pl.okM a ∧ Pl.okM (Pl.gcdN a b) ∧ Pl.gcdN a b ≠ []) ∧ (Pl.okM b ∧ Pl.okM (Pl.gcdN a b) ∧ Pl.gcdN a b ≠ []) ∧ True ∧ ((0 : Int) ≤ (1 : Int) ∧ (1 : Int) < (18446744073709551616 : Int)) ∧ (Pl.okN (Pl.quoN b (Pl.gcdN a b)) ∧ Pl.okN (Pl.tnI (1 : Int)) ∧ Pl.leN (Pl.tnI (1 : Int)) (Pl.quoN b (Pl.gcdN a b))) ∧ ((Pl.sgn (Pl.quoN a (Pl.gcdN a b)) s, Pl.subN (Pl.quoN b (Pl.gcdN a b)) (Pl.tnI (1 : Int)), ()), ()) = C85.post ((a, s, ()), (b, t, ()), ()))) (by kernel_rfl) ?_
  have e : C85.post ((a, s, ()), (b, t, ()), ()) = (mkQ (Rat.divInt (iv (a, s, ())) (iv (b, t, ()))), ()) := rfl
  rw [e]
  refine Br_of (fun ht => ?_) (fun ht => ?_)
  · subst ht
    have hp := okI_pos k
    have key := lo_all (okI_ng h) (okI_ng k) (by rw [iv_ng, iv_t]; omega)
    rw [iv_ng, iv_ng, Rat.neg_divInt_neg] at key
    exact ⟨h, k, key⟩
  · subst ht
    exact lo_all h k (by rw [iv_f]; have := nt_pos (okI_can k) hb; omega)

theorem dn_len {n : Nat} {q : Qv} (h : okQn n q) : (iv (dnI q)).natAbs ≤ W ^ n := by rw [dn_val]; exact (okQ_len h).2
theorem okI_dn {n : Nat} {q : Qv} (hn : n + 1 ≤ 10000000) (h : okQn n q) : okI (dnI q) := by
  refine okI_mk' (n + 1) ?_ hn
  have h1 := (okQ_len h).2
  have h2 : W ^ n < W ^ (n + 1) := Nat.pow_lt_pow_right (by decide) (by omega)
  show (nt q.2.1 + 1) < _
  omega
theorem vcx100 : ∀ x, C100.con.pre x → VCX T100 H0 Tryd.f47 C100 x := by
  rintro ⟨⟨⟨(a : List Int), (s : Bool), ⟨⟩⟩, (b : List Int), ⟨⟩⟩, ⟨⟩⟩ (h : okQn 9000000 ((a, s, ()), b, ()))
  refine cast (α := Pl.okN a ∧ Br (C113.pan (a, ())) (C100.pan (((a, s, ()), b, ()), ()) = true) (Pl.okQ2 ((a, s, ()), b, ()) ∧ Pl.okN (Pl.dnI ((a, s, ()), b, ())).1 ∧ Br (C113.pan ((Pl.dnI ((a, s, ()), b, ())).1, ())) (C100.pan (((a, s, ()), b, ()), ()) = true) (C100.pan (((a, s, ()), b, ()), ()) = false ∧ (((a, s, ()), b, ()), ()) = C100.con.post (((a, s, ()), b, ()), ())))) (by kernel_rfl) ?_
  have hp : C100.pan (((a, s, ()), b, ()), ()) = (big a || big (dnI ((a, s, ()), b, ())).1) := rfl
  rw [hp]
  refine ⟨okI_N h.1, Br_of (fun hb => ?_) (fun hb => ⟨h, okI_N (okI_dn (by decide) h), Br_of (fun hc => ?_) (fun hc => ⟨?_, rfl⟩)⟩)⟩
  · rw [show big a = true from hb]; rfl
  · rw [show big (dnI ((a, s, ()), b, ())).1 = true from hc]; exact Bool.or_true _
  · rw [show big a = false from hb, show big (dnI ((a, s, ()), b, ())).1 = false from hc]; rfl

theorem iv_ti (x y : Zv) : iv (tiI x y) = iv x * iv y := iv_mk _
theorem iv_pl (x y : Zv) : iv (plI x y) = iv x + iv y := iv_mk _
theorem okI_ti {x y : Zv} {k l : Nat} (hx : (iv x).natAbs < W ^ k) (hy : (iv y).natAbs < W ^ l) (h : k + l ≤ 10000000) : okI (tiI x y) := by
  refine okI_mk' (k + l) ?_ h
  rw [Int.natAbs_mul]; exact mul_lt_W hx hy
theorem okI_pl {x y : Zv} {k : Nat} (hx : (iv x).natAbs < W ^ k) (hy : (iv y).natAbs < W ^ k) (h : k + 1 ≤ 10000000) : okI (plI x y) := by
  refine okI_mk' (k + 1) ?_ h
  have := add_lt_W hx hy
  omega
def Pl.M1 : Nat := 1000000
theorem M1_eq : M1 = 1000000 := rfl
theorem okQ_M {q : Qv} (h : okQ q) : okQn M1 q := h
theorem okQ_1 {q : Qv} (h : okQ q) : okQ2 q := by
  obtain ⟨h1, h2, h3, h4, h5⟩ := h
  exact ⟨h1, h2, by omega, by omega, h5⟩
theorem lt_W1 {x k : Nat} (h : x ≤ W ^ k) : x < W ^ (k + 1) := Nat.lt_of_le_of_lt h (Nat.pow_lt_pow_right (by decide) (by omega))
theorem ti_abs {x y : Zv} {k l : Nat} (hx : (iv x).natAbs < W ^ k) (hy : (iv y).natAbs < W ^ l) : (iv (tiI x y)).natAbs < W ^ (k + l) := by
  rw [iv_ti, Int.natAbs_mul]; exact mul_lt_W hx hy
theorem dn_ne (q : Qv) : iv (dnI q) ≠ 0 := by rw [dn_val]; omega
theorem ne_of_iv {z : Zv} (h : iv z ≠ 0) : z.1 ≠ [] := fun h1 => by
  apply h
  have := natAbs_iv z
  rw [h1, nt_nil] at this
  omega
theorem qv_dn (q : Qv) : qv q = Rat.divInt (iv q.1) (iv (dnI q)) := by
  rw [dn_val, Rat.divInt_ofNat]; rfl

theorem vcx115 : ∀ x, C115.con.pre x → VCX T115 H0 Tryd.f48 C115 x := by
  rintro ⟨e1, e2, ⟨⟩⟩ ⟨⟨⟨f, a, s, g, b, rfl⟩, (h : okQ ((a, s, ()), b, ()))⟩, ⟨⟨f', c, t, g', d, rfl⟩, (k : okQ ((c, t, ()), d, ()))⟩⟩
  refine cast (α := (∀ (A' : AState), finishX T115 Tryd.f48.results.toList C115 (D.rptr [D.slc f (Ty.int IntKind.u64) a, D.bool s, D.slc g (Ty.int IntKind.u64) b], D.rptr [D.slc f' (Ty.int IntKind.u64) c, D.bool t, D.slc g' (Ty.int IntKind.u64) d], ()) AX.pan A') ∧ Pl.okQ2 ((c, t, ()), d, ()) ∧ (Pl.okI (a, s, ()) ∧ Pl.okI (Pl.dnI ((c, t, ()), d, ()))) ∧ Pl.okQ2 ((a, s, ()), b, ()) ∧ (Pl.okI (c, t, ()) ∧ Pl.okI (Pl.dnI ((a, s, ()), b, ()))) ∧ (Pl.okI (Pl.tiI (a, s, ()) (Pl.dnI ((c, t, ()), d, ()))) ∧ Pl.okI (Pl.tiI (c, t, ()) (Pl.dnI ((a, s, ()), b, ())))) ∧ Pl.okQ2 ((a, s, ()), b, ()) ∧ Pl.okQ2 ((c, t, ()), d, ()) ∧ (Pl.okI (Pl.dnI ((a, s, ()), b, ())) ∧ Pl.okI (Pl.dnI ((c, t, ()), d, ()))) ∧ (Pl.okI (Pl.plI (Pl.tiI (a, s, ()) (Pl.dnI ((c, t, ()), d, ()))) (Pl.tiI (c, t, ()) (Pl.dnI ((a, s, ()), b, ())))) ∧ Pl.okI (Pl.tiI (Pl.dnI ((a, s, ()), b, ())) (Pl.dnI ((c, t, ()), d, ()))) ∧ (Pl.tiI (Pl.dnI ((a, s, ()), b, ())) (Pl.dnI ((c, t, ()), d, ()))).1 ≠ []) ∧ (Pl.okQ2 (Pl.loQ (Pl.plI (Pl.tiI (a, s, ()) (Pl.dnI ((c, t, ()), d, ()))) (Pl.tiI (c, t, ()) (Pl.dnI ((a, s, ()), b, ())))) (Pl.tiI (Pl.dnI ((a, s, ()), b, ())) (Pl.dnI ((c, t, ()), d, ())))) ∧ C100.pan (Pl.loQ (Pl.plI (Pl.tiI (a, s, ()) (Pl.dnI ((c, t, ()), d, ()))) (Pl.tiI (c, t, ()) (Pl.dnI ((a, s, ()), b, ())))) (Pl.tiI (Pl.dnI ((a, s, ()), b, ())) (Pl.dnI ((c, t, ()), d, ()))), ()) = true) ∧ True ∨ Pl.okQ2 ((c, t, ()), d, ()) ∧ (Pl.okI (a, s, ()) ∧ Pl.okI (Pl.dnI ((c, t, ()), d, ()))) ∧ Pl.okQ2 ((a, s, ()), b, ()) ∧ (Pl.okI (c, t, ()) ∧ Pl.okI (Pl.dnI ((a, s, ()), b, ()))) ∧ (Pl.okI (Pl.tiI (a, s, ()) (Pl.dnI ((c, t, ()), d, ()))) ∧ Pl.okI (Pl.tiI (c, t, ()) (Pl.dnI ((a, s, ()), b, ())))) ∧ Pl.okQ2 ((a, s, ()), b, ()) ∧ Pl.okQ2 ((c, t, ()), d, ()) ∧ (Pl.okI (Pl.dnI ((a, s, ()), b, ())) ∧ Pl.okI (Pl.dnI ((c, t, ()), d, ()))) ∧ (Pl.okI (Pl.plI (Pl.tiI (a, s, ()) (Pl.dnI ((c, t, ()), d, ()))) (Pl.tiI (c, t, ()) (Pl.dnI ((a, s, ()), b, ())))) ∧ Pl.okI (Pl.tiI (Pl.dnI ((a, s, ()), b, ())) (Pl.dnI ((c, t, ()), d, ()))) ∧ (Pl.tiI (Pl.dnI ((a, s, ()), b, ())) (Pl.dnI ((c, t, ()), d, ()))).1 ≠ []) ∧ (Pl.okQ2 (Pl.loQ (Pl.plI (Pl.tiI (a, s, ()) (Pl.dnI ((c, t, ()), d, ()))) (Pl.tiI (c, t, ()) (Pl.dnI ((a, s, ()), b, ())))) (Pl.tiI (Pl.dnI ((a, s, ()), b, ())) (Pl.dnI ((c, t, ()), d, ())))) ∧ C100.pan (Pl.loQ (Pl.plI (Pl.tiI (a, s, ()) (Pl.dnI ((c, t, ()), d, ()))) (Pl.tiI (c, t, ()) (Pl.dnI ((a, s, ()), b, ())))) (Pl.tiI (Pl.dnI ((a, s, ()), b, ())) (Pl.dnI ((c, t, ()), d, ()))), ()) = false) ∧ C115.pan (D.rptr [D.slc f (Ty.int IntKind.u64) a, D.bool s, D.slc g (Ty.int IntKind.u64) b], D.rptr [D.slc f' (Ty.int IntKind.u64) c, D.bool t, D.slc g' (Ty.int IntKind.u64) d], ()) = false ∧ (Pl.loQ (Pl.plI (Pl.tiI (a, s, ()) (Pl.dnI ((c, t, ()), d, ()))) (Pl.tiI (c, t, ()) (Pl.dnI ((a, s, ()), b, ())))) (Pl.tiI (Pl.dnI ((a, s, ()), b, ())) (Pl.dnI ((c, t, ()), d, ()))), ()) = C115.con.post (D.rptr [D.slc f (Ty.int IntKind.u64) a, D.bool s, D.slc g (Ty.int IntKind.u64) b], D.rptr [D.slc f' (Ty.int IntKind.u64) c, D.bool t, D.slc g' (Ty.int IntKind.u64) d], ())) (by kernel_rfl) ?_
  obtain ⟨q, hq⟩ : ∃ q : Qv, q = ((a, s, ()), b, ()) := ⟨_, rfl⟩
  obtain ⟨p, hpq⟩ : ∃ q : Qv, q = ((c, t, ()), d, ()) := ⟨_, rfl⟩
  have hqv : qv ((a, s, ()), b, ()) + qv ((c, t, ()), d, ()) = Rat.divInt (iv (plI (tiI (a, s, ()) (dnI ((c, t, ()), d, ()))) (tiI (c, t, ()) (dnI ((a, s, ()), b, ()))))) (iv (tiI (dnI ((a, s, ()), b, ())) (dnI ((c, t, ()), d, ())))) := by
    rw [qv_dn, qv_dn, Rat.divInt_add_divInt _ _ (dn_ne _) (dn_ne _), iv_pl, iv_ti, iv_ti, iv_ti]
  have hpost : C115.con.post (D.rptr [D.slc f (Ty.int IntKind.u64) a, D.bool s, D.slc g (Ty.int IntKind.u64) b], D.rptr [D.slc f' (Ty.int IntKind.u64) c, D.bool t, D.slc g' (Ty.int IntKind.u64) d], ()) =
      (loQ (plI (tiI (a, s, ()) (dnI ((c, t, ()), d, ()))) (tiI (c, t, ()) (dnI ((a, s, ()), b, ())))) (tiI (dnI ((a, s, ()), b, ())) (dnI ((c, t, ()), d, ()))), ()) := by
    show (mkQ (qv ((a, s, ()), b, ()) + qv ((c, t, ()), d, ())), ()) = _
    rw [hqv]; rfl
  have hpan : C115.pan (D.rptr [D.slc f (Ty.int IntKind.u64) a, D.bool s, D.slc g (Ty.int IntKind.u64) b], D.rptr [D.slc f' (Ty.int IntKind.u64) c, D.bool t, D.slc g' (Ty.int IntKind.u64) d], ()) =
      C100.pan (loQ (plI (tiI (a, s, ()) (dnI ((c, t, ()), d, ()))) (tiI (c, t, ()) (dnI ((a, s, ()), b, ())))) (tiI (dnI ((a, s, ()), b, ())) (dnI ((c, t, ()), d, ()))), ()) := by
    show bigQ (qv ((a, s, ()), b, ()) + qv ((c, t, ()), d, ())) = big2 (mkQ _)
    rw [big2_mk, hqv]
  have n1 := (okQ_len (okQ_M h)).1
  have n2 := (okQ_len (okQ_M k)).1
  have d1 := lt_W1 (dn_len (okQ_M h))
  have d2 := lt_W1 (dn_len (okQ_M k))
  have o1 := okI_dn (by rw [M1_eq]; decide) (okQ_M h)
  have o2 := okI_dn (by rw [M1_eq]; decide) (okQ_M k)
  simp only at n1 n2
  have p1 := okI_ti n1 d2 (by rw [M1_eq]; decide)
  have p2 := okI_ti n2 d1 (by rw [M1_eq]; decide)
  have p3 := okI_ti d1 d2 (by rw [M1_eq]; decide)
  have a1 := ti_abs n1 d2
  have a2 := ti_abs n2 d1
  have a3 := ti_abs d1 d2
  have p4 := okI_pl a1 a2 (by rw [M1_eq]; decide)
  have a4 : (iv (plI (tiI (a, s, ()) (dnI ((c, t, ()), d, ()))) (tiI (c, t, ()) (dnI ((a, s, ()), b, ()))))).natAbs < W ^ (M1 + (M1 + 1) + 1) := by
    have := add_lt_W a1 a2
    rw [iv_pl]; omega
  have hne : iv (tiI (dnI ((a, s, ()), b, ())) (dnI ((c, t, ()), d, ()))) ≠ 0 := by rw [iv_ti]; exact Int.mul_ne_zero (dn_ne _) (dn_ne _)
  have hlo : okQ2 (loQ (plI (tiI (a, s, ()) (dnI ((c, t, ()), d, ()))) (tiI (c, t, ()) (dnI ((a, s, ()), b, ())))) (tiI (dnI ((a, s, ()), b, ())) (dnI ((c, t, ()), d, ())))) := by
    refine okQ_div (k := M1 + 1 + (M1 + 1)) hne (Nat.lt_of_lt_of_le a4 (pow_le_W (by omega))) (Nat.le_of_lt a3) (by rw [M1_eq]; decide) (by decide)
  rw [← hpan]
  cases hb : C115.pan (D.rptr [D.slc f (Ty.int IntKind.u64) a, D.bool s, D.slc g (Ty.int IntKind.u64) b], D.rptr [D.slc f' (Ty.int IntKind.u64) c, D.bool t, D.slc g' (Ty.int IntKind.u64) d], ()) with
  | true => exact .inl ⟨fun _ => hb, okQ_1 k, ⟨h.1, o2⟩, okQ_1 h, ⟨k.1, o1⟩, ⟨p1, p2⟩, okQ_1 h, okQ_1 k, ⟨o1, o2⟩, ⟨p4, p3, ne_of_iv hne⟩, ⟨hlo, rfl⟩, trivial⟩
  | false => exact .inr ⟨okQ_1 k, ⟨h.1, o2⟩, okQ_1 h, ⟨k.1, o1⟩, ⟨p1, p2⟩, okQ_1 h, okQ_1 k, ⟨o1, o2⟩, ⟨p4, p3, ne_of_iv hne⟩, ⟨hlo, rfl⟩, rfl, hpost.symm⟩

end Ta
end
section
/- Fractions: products, quotients, order, texts. -/
set_option linter.unusedVariables false
set_option linter.unusedSimpArgs false
set_option maxRecDepth 100000
namespace Ta
open Go Fw Go.Proofs Go.RowKit Pl

theorem mkQ0 : mkQ 0 = (([], false, ()), [], ()) := rfl
theorem attq_of {r : Rat} {z : Qv} {p : Bool} (hz : z = mkQ r) (hp : p = bigQ r) : (p = true → atq1 r = (([], false, ()), [], ()) ∧ atq2 r = 11) ∧ (p = false → atq1 r = z ∧ atq2 r = 0) := by
  subst hz hp
  unfold atq1 atq2
  cases bigQ r
  · exact ⟨fun h => (by cases h), fun _ => ⟨rfl, rfl⟩⟩
  · exact ⟨fun _ => ⟨rfl, rfl⟩, fun h => (by cases h)⟩

theorem sgI_z {z : Zv} : sgI z = 0 ↔ iv z = 0 := ordI_eq0
theorem vc28 : ∀ x, C28.pre x → VC T28 H0 Tryd.f43 C28 x := by
  rintro ⟨⟨(a : List Int), (s : Bool), ⟨⟩⟩, ⟨(b : List Int), (t : Bool), ⟨⟩⟩, ⟨⟩⟩ ⟨(h : okI (a, s, ())), (k : okI (b, t, ()))⟩
  refine cast (α := Pl.okI (b, t, ()) ∧ Br (Pl.sgI (b, t, ()) == (0 : Int)) (((([], false, ()), [], ()), (6 : Int), ()) = C28.post ((a, s, ()), (b, t, ()), ())) ((Pl.okI (a, s, ()) ∧ Pl.okI (b, t, ()) ∧ b ≠ []) ∧ (Pl.loQ (a, s, ()) (b, t, ()), (0 : Int), ()) = C28.post ((a, s, ()), (b, t, ()), ()))) (by kernel_rfl) ?_
  have e : C28.post ((a, s, ()), (b, t, ()), ()) = (if iv (b, t, ()) = 0 then mkQ 0 else mkQ (Rat.divInt (iv (a, s, ())) (iv (b, t, ()))), if iv (b, t, ()) = 0 then 6 else 0, ()) := rfl
  rw [e]
  refine ⟨k, Br_of (fun hb => ?_) (fun hb => ?_)⟩
  · have h0 : iv (b, t, ()) = 0 := sgI_z.1 (by simpa using hb)
    rw [if_pos h0, if_pos h0, mkQ0]
  · have h0 : iv (b, t, ()) ≠ 0 := fun h => by rw [sgI_z.2 h] at hb; cases hb
    rw [if_neg h0, if_neg h0]
    exact ⟨⟨h, k, ne_of_iv h0⟩, rfl⟩
theorem okI_64 {n : Int} (h : -9223372036854775808 ≤ n ∧ n < 9223372036854775808) : okI (mkI n) := okI_mk' 1 (by rw [Nat.pow_one, W_eq]; omega) (by decide)
theorem vc24 : ∀ x, C24.pre x → VC T24 H0 Tryd.f24 C24 x := by
  rintro ⟨(m : Int), (n : Int), ⟨⟩⟩ ⟨h, k⟩
  refine cast (α := ((-9223372036854775808 : Int) ≤ m ∧ m < (9223372036854775808 : Int)) ∧ ((-9223372036854775808 : Int) ≤ n ∧ n < (9223372036854775808 : Int)) ∧ (Pl.okI (Pl.mkI m) ∧ Pl.okI (Pl.mkI n)) ∧ (Pl.mkz (Pl.mkI m) (Pl.mkI n), Pl.mkz2 (Pl.mkI n), ()) = C24.post (m, n, ())) (by kernel_rfl) ?_
  refine ⟨h, k, ⟨okI_64 h, okI_64 k⟩, ?_⟩
  show (mk1 (iv (mkI m)) (iv (mkI n)), mk2 (iv (mkI n)), ()) = (mk1 m n, mk2 n, ())
  rw [iv_mk, iv_mk]
theorem ngQ_eq {n : Nat} {q : Qv} (h : okQn n q) : ngQ q = (ngI q.1, q.2.1, ()) := by
  obtain ⟨h1, h2⟩ := qv_num h
  unfold ngQ mkQ
  rw [Rat.neg_num, Rat.neg_den, h1, h2, Nat.add_sub_cancel, can_tn' h.2.1]; rfl
theorem qv_ng (q : Qv) : qv (ngQ q) = -(qv q) := qv_mkQ _
theorem ngI_len {z : Zv} (h : okI z) : (ngI z).1 = z.1 := by
  show tn (-(iv z)).natAbs = _
  rw [Int.natAbs_neg, natAbs_iv, can_tn' h.1]
theorem okQ_ng {n : Nat} {q : Qv} (h : okQn n q) : okQn n (ngQ q) := by
  rw [ngQ_eq h]
  refine ⟨okI_ng h.1, h.2.1, ?_, h.2.2.2.1, ?_⟩
  · rw [ngI_len h.1]; exact h.2.2.1
  · rw [ngI_len h.1]; exact h.2.2.2.2
theorem isQ_of {a b : List Int} {s : Bool} (h : okQ ((a, s, ()), b, ())) : isQ (.rptr [.slc false u64 a, .bool s, .slc false u64 b]) := ⟨⟨_, _, _, _, _, rfl⟩, h⟩
theorem vc64 : ∀ x, C64.pre x → VC T64 H64 Tryd.f26 C64 x := by
  rintro ⟨⟨⟨(a : List Int), (s : Bool), ⟨⟩⟩, (b : List Int), ⟨⟩⟩, ⟨⟨(c : List Int), (t : Bool), ⟨⟩⟩, (d : List Int), ⟨⟩⟩, ⟨⟩⟩ ⟨(h : okQ ((a, s, ()), b, ())), (k : okQ ((c, t, ()), d, ()))⟩
  refine cast (α := Pl.okCloQ (D.clo (48 : Nat) [D.rptr [D.slc false u64 a, D.bool s, D.slc false u64 b], D.rptr [D.slc false u64 c, D.bool t, D.slc false u64 d]]) ∧ (Pl.aq1 (D.clo (48 : Nat) [D.rptr [D.slc false u64 a, D.bool s, D.slc false u64 b], D.rptr [D.slc false u64 c, D.bool t, D.slc false u64 d]]), Pl.aq2 (D.clo (48 : Nat) [D.rptr [D.slc false u64 a, D.bool s, D.slc false u64 b], D.rptr [D.slc false u64 c, D.bool t, D.slc false u64 d]]), ()) = C64.post (((a, s, ()), b, ()), ((c, t, ()), d, ()), ())) (by kernel_rfl) ?_
  exact ⟨⟨rfl, isQ_of h, isQ_of k⟩, rfl⟩
theorem size_ba (l : List UInt8) : (ba l).size = l.length := size_bl _
theorem itoa_len {z : Zv} (h : okI z) : (Lib.itoa (iv z)).length ≤ 20 * KI + 1 := by
  obtain ⟨a, s, ⟨⟩⟩ := z
  have h1 := dec_len_W (n := nt a) (k := KI) (by rw [KI_eq]; decide) (okI_lt h)
  cases s with
  | true => rw [iv_t, Lib.itoa_neg _ (okI_pos h), List.length_cons]; omega
  | false => rw [iv_f, Lib.itoa_nonneg]; omega
theorem itoa_nat (n : Nat) : Lib.itoa ((n : Nat) : Int) = Lib.decDigits n := Lib.itoa_nonneg n
theorem vc25 : ∀ x, C25.pre x → VC T25 H0 Tryd.f27 C25 x := by
  rintro ⟨⟨⟨(a : List Int), (s : Bool), ⟨⟩⟩, (b : List Int), ⟨⟩⟩, ⟨⟩⟩ (h : okQn 9000000 ((a, s, ()), b, ()))
  refine cast (α := Br ((↑b.length : Int) == (0 : Int)) (Pl.okI (a, s, ()) ∧ (Pl.txtI (a, s, ()), ()) = C25.post (((a, s, ()), b, ()), ())) (Pl.okI (a, s, ()) ∧ (↑((Pl.txtI (a, s, ())).size + (ByteArray.mk #[(47 : UInt8)]).size) : Int) ≤ (9223372036854775807 : Int) ∧ Pl.okQ2 ((a, s, ()), b, ()) ∧ Pl.okI (Pl.dnI ((a, s, ()), b, ())) ∧ (↑((Pl.txtI (a, s, ()) ++ (ByteArray.mk #[(47 : UInt8)])).size + (Pl.txtI (Pl.dnI ((a, s, ()), b, ()))).size) : Int) ≤ (9223372036854775807 : Int) ∧ (Pl.txtI (a, s, ()) ++ (ByteArray.mk #[(47 : UInt8)]) ++ Pl.txtI (Pl.dnI ((a, s, ()), b, ())), ()) = C25.post (((a, s, ()), b, ()), ()))) (by kernel_rfl) ?_
  obtain ⟨h1, h2⟩ := qv_num h
  have e : C25.post (((a, s, ()), b, ()), ()) = (ba (if nt b + 1 = 1 then Lib.itoa (iv (a, s, ())) else Lib.itoa (iv (a, s, ())) ++ (47 :: Lib.decDigits (nt b + 1))), ()) := by
    show (ba (if (qv ((a, s, ()), b, ())).den = 1 then Lib.itoa (qv ((a, s, ()), b, ())).num else Lib.itoa (qv ((a, s, ()), b, ())).num ++ (47 :: Lib.decDigits (qv ((a, s, ()), b, ())).den)), ()) = _
    rw [h1, h2]
  rw [e]
  have hz := nt_zero h.2.1
  simp only at hz
  refine Br_of (fun hb => ?_) (fun hb => ?_)
  · have h0 : b = [] := List.eq_nil_of_length_eq_zero (by have : (b.length : Int) = 0 := by simpa using hb
                                                          omega)
    rw [if_pos (by rw [hz.2 h0])]
    exact ⟨h.1, rfl⟩
  · have h0 : b ≠ [] := fun h => by rw [h] at hb; cases hb
    have h3 : ¬ nt b + 1 = 1 := fun h => h0 (hz.1 (by omega))
    rw [if_neg h3]
    have od := okI_dn (by decide) h
    have e1 : txtI (dnI ((a, s, ()), b, ())) = ba (Lib.decDigits (nt b + 1)) := by
      show ba (Lib.itoa (iv (dnI ((a, s, ()), b, ())))) = _
      rw [dn_val, itoa_nat]
    have l1 := itoa_len h.1
    have l2 := itoa_len od
    rw [dn_val, itoa_nat] at l2
    simp only at l2 l1
    rw [KI_eq] at l1 l2
    rw [e1]
    have e2 : txtI (a, s, ()) = ba (Lib.itoa (iv (a, s, ()))) := rfl
    have e3 : (ByteArray.mk #[(47 : UInt8)]) = ba [47] := rfl
    rw [e2, e3, ba_append, ba_append, size_ba, size_ba, size_ba, size_ba]
    refine ⟨h.1, ?_, h, od, ?_, ?_⟩
    · simp only [List.length_singleton]; omega
    · simp only [List.length_append, List.length_singleton]; omega
    · rw [List.append_assoc]; rfl

theorem snd83 : Sound Tryd.prog 50 C83 := fn_sound (T := T83) (fn := Tryd.f50) (tokg (T := T83) ⟨snd111, snd120, snd106, trivial⟩ trivial trivial) Tryd.func50 (by kernel_rfl) H0 vc83 (by kernel_rfl)
theorem snd85 : Sound Tryd.prog 45 C85 := fn_sound (T := T85) (fn := Tryd.f45) (tokg (T := T85) ⟨snd50, snd108, snd119, snd106, snd111, snd121, trivial⟩ trivial trivial) Tryd.func45 (by kernel_rfl) H0 vc85 (by kernel_rfl)
theorem snd100 : SoundX Tryd.prog 64 47 C100 := fnx_sound (T := T100) (fn := Tryd.f47) (tokg (T := T100) ⟨snd83, trivial⟩ trivial ⟨snd113, trivial⟩) Tryd.func47 (by kernel_rfl) H0 vcx100 (by kernel_rfl)
theorem snd115 : SoundX Tryd.prog 64 48 C115 := fnx_sound (T := T115) (fn := Tryd.f48) (tokg (T := T115) ⟨snd83, snd92, snd89, snd85, trivial⟩ trivial ⟨snd100, trivial⟩) Tryd.func48 (by kernel_rfl) H0 vcx115 (by kernel_rfl)
theorem snd99 : Sound Tryd.prog 46 C99 := by
  rintro ⟨d, ⟨⟩⟩ hd w O vs hO hl
  obtain ⟨u, us, e1, hu, hus⟩ := hl
  have hus' : us = [] := hus
  subst hus'
  have ev := arr_eq e1
  subst ev
  have fin : ∀ {e : Ending} {w' : World}, (∃ v, e = .returned v ∧ Below w.heap.size w w' ∧ ∀ ι, ARep w' O ι (resAV (encs [QI, E] (atq1 (cloR d), atq2 (cloR d), ()))) v) → CPost C99 (d, ()) w O e w' := by
    rintro e w' ⟨v, h1, h2, h3⟩
    exact ⟨v, h1, h2, h3, fun e he => by cases he⟩
  have hd' : okCloQ d := hd
  unfold okCloQ at hd'
  split at hd'
  · rename_i f d1 d2
    obtain ⟨cs, rfl, hcs⟩ := (show ∃ cs : Array Value, u = .func (.func f) #[] cs ∧ LRep w O [d1, d2] cs.toList from hu)
    refine .inl ⟨run_callFunc Tryd.func46 (by kernel_rfl) (by kernel_rfl) _, ?_⟩
    have hcs' : LRep w O [d1, d2] (#[] ++ cs).toList := by simpa using hcs
    obtain ⟨rfl, h1, h2⟩ := hd'
    have hA := attq_of (r := adQ (dQ d1) (dQ d2)) (z := mkQ (adQ (dQ d1) (dQ d2))) (p := bigQ (adQ (dQ d1) (dQ d2))) rfl rfl
    exact (att99 snd115 (y := (d1, d2, ())) ⟨h1, h2⟩ hO hcs' hA.1 hA.2).mono fun e w' h => fin h
  · rename_i f d1
    obtain ⟨cs, rfl, hcs⟩ := (show ∃ cs : Array Value, u = .func (.func f) cs #[] ∧ LRep w O [d1] cs.toList from hu)
    refine .inl ⟨run_callFunc Tryd.func46 (by kernel_rfl) (by kernel_rfl) _, ?_⟩
    obtain ⟨rfl, ⟨f1, a, s, g1, b, rfl⟩, hq⟩ := hd'
    have hcs' : LRep w O (encs [QI] (((a, s, ()), b, ()), ())) (cs ++ #[]).toList := by
      obtain ⟨u, us, h1, h2, h3⟩ := hcs
      obtain ⟨vs, rfl, u0, us0, e0, k0, u1, us1, e1, k1, u2, us2, e2, k2, k3⟩ := h2
      refine ⟨.agg vs, us, by simpa using h1, ⟨vs, rfl, u0, us0, e0, ⟨k0.1, fun h => by cases h⟩, u1, us1, e1, k1, u2, us2, e2, ⟨k2.1, fun h => by cases h⟩, k3⟩, h3⟩
    have hA := attq_of (r := qv ((a, s, ()), b, ())) (z := ((a, s, ()), b, ())) (p := big2 ((a, s, ()), b, ())) (mkQ_qv hq).symm (big2_qv hq)
    exact (att99 snd100 (y := (((a, s, ()), b, ()), ())) hq hO hcs' hA.1 hA.2).mono fun e w' h => fin h
  · exact hd'.elim

theorem snd28 : Sound Tryd.prog 43 C28 := fn_sound (T := T28) (fn := Tryd.f43) (tokg (T := T28) ⟨snd21, snd85, trivial⟩ trivial trivial) Tryd.func43 (by kernel_rfl) H0 vc28 (by kernel_rfl)
theorem snd24 : Sound Tryd.prog 24 C24 := fn_sound (T := T24) (fn := Tryd.f24) (tokg (T := T24) ⟨snd75, snd28, trivial⟩ trivial trivial) Tryd.func24 (by kernel_rfl) H0 vc24 (by kernel_rfl)
theorem snd25 : Sound Tryd.prog 27 C25 := fn_sound (T := T25) (fn := Tryd.f27) (tokg (T := T25) ⟨snd46, snd83, trivial⟩ trivial trivial) Tryd.func27 (by kernel_rfl) H0 vc25 (by kernel_rfl)
theorem snd64 : Sound Tryd.prog 26 C64 := fn_sound (T := T64) (fn := Tryd.f26) (tokg (T := T64) ⟨snd99, trivial⟩ trivial trivial) Tryd.func26 (by kernel_rfl) H64 vc64 (by kernel_rfl)
end Ta
end
section
/- Fractions from texts. -/
set_option linter.unusedVariables false
set_option linter.unusedSimpArgs false
set_option maxRecDepth 100000
set_option exponentiation.threshold 6000000
namespace Ta
open Go Fw Go.Proofs Go.RowKit Pl

theorem decV_pos {l : List UInt8} (h : l.all isDig = true) (h0 : l ≠ []) (h48 : l.head? ≠ some 48) : 0 < decV l := by
  cases l with
  | nil => exact absurd rfl h0
  | cons x l =>
    rw [List.all_cons, Bool.and_eq_true] at h
    have h2 := isDig_iff.1 h.1
    have e := decV_append [x] l
    rw [List.singleton_append, decV_one] at e
    have hx : x.toNat ≠ 48 := fun hx => h48 (by rw [(u8_eq (n := 48) (by decide)).2 hx]; rfl)
    have : 1 ≤ (x.toNat - 48) * 10 ^ l.length := Nat.mul_pos (by omega) (Nat.pow_pos (by decide))
    omega
theorem parV_ne {l : List UInt8} (h : isFl l = true) (h48 : l ≠ [48]) : parV l ≠ 0 := by
  obtain ⟨h1, h2⟩ := isFl_parts h
  have h3 : (unsg l).head? ≠ some 48 := by
    unfold isFl at h
    simp only [Bool.and_eq_true, Bool.or_eq_true, decide_eq_true_eq] at h
    rcases h.1.2 with h3 | h3
    · exact h3
    · exact absurd h3 h48
  have h4 := decV_pos h2 h1 h3
  have h5 := parV_abs l
  omega
theorem parV_W {l : List UInt8} (h : isFl l = true) : (parV l).natAbs < W ^ l.length := by
  obtain ⟨h1, h2⟩ := isFl_parts h
  rw [parV_abs]
  exact Nat.lt_of_lt_of_le (decV_W h2) (pow_le_W (unsg_len l))
theorem ba_toList (a b : ByteArray) : (a.toList == b.toList) = decide (bl a = bl b) := by
  rw [Lib.toList_data, Lib.toList_data]
  show (bl a == bl b) = _
  rw [Bool.eq_iff_iff]; simp
theorem txtQ_mk (r : Rat) : txtQ (mkQ r) = ba (txtR r) := by unfold txtQ; rw [qv_mkQ]
theorem tail37 {s A B : ByteArray} (hA : bl A = topL (bl s)) (hB : bl B = botL (bl s)) (lA : A.size ≤ 1100000) (lB : B.size ≤ 1100000) :
    A.size ≤ (9000000000000000000 : Nat) ∧
      Br (!Pl.isF A)
        (((([], false, ()), [], ()), (10 : Int), ()) = C37.post (s, ()))
        (B.size ≤ (9000000000000000000 : Nat) ∧
          Br (!Pl.isF B)
            (((([], false, ()), [], ()), (10 : Int), ()) = C37.post (s, ()))
            ((0 : Int) ≤ (0 : Int) ∧
              (0 : Int) < (↑B.size : Int) ∧
                Br (bt B (0 : Int) == (45 : Int))
                  (((([], false, ()), [], ()), (10 : Int), ()) = C37.post (s, ()))
                  (Br (B.toList == (ByteArray.mk #[(48 : UInt8)]).toList)
                    (((([], false, ()), [], ()), (10 : Int), ()) = C37.post (s, ()))
                    ((A.size ≤ (2000000 : Nat) ∧
                        Pl.isF A = true) ∧
                      (B.size ≤ (2000000 : Nat) ∧
                          Pl.isF B = true) ∧
                        (Pl.okI (Pl.froI A) ∧
                            Pl.okI (Pl.froI B) ∧
                              (Pl.froI B).1 ≠ []) ∧
                          Pl.okQ2
                              (Pl.loQ (Pl.froI A)
                                (Pl.froI B)) ∧
                            Br
                              (!(Pl.txtQ
                                      (Pl.loQ (Pl.froI A)
                                        (Pl.froI B))).toList ==
                                  s.toList)
                              (((([], false, ()), [], ()), (10 : Int), ()) = C37.post (s, ()))
                              (Pl.okCloQ
                                  (D.bfn (47 : Nat)
                                    [D.agg
                                        [D.slc false u64
                                            (Pl.loQ (Pl.froI A)
                                                  (Pl.froI B)).fst.fst,
                                          D.bool
                                            (Pl.loQ (Pl.froI A)
                                                    (Pl.froI B)).fst.snd.fst,
                                          D.slc false u64
                                            (Pl.loQ (Pl.froI A)
                                                  (Pl.froI B)).snd.fst]]) ∧
                                (Pl.aq1
                                      (D.bfn (47 : Nat)
                                        [D.agg
                                            [D.slc false u64
                                                (Pl.loQ (Pl.froI A)
                                                      (Pl.froI B)).fst.fst,
                                              D.bool
                                                (Pl.loQ (Pl.froI A)
                                                        (Pl.froI B)).fst.snd.fst,
                                              D.slc false u64
                                                (Pl.loQ (Pl.froI A)
                                                      (Pl.froI B)).snd.fst]]),
                                    Pl.aq2
                                      (D.bfn (47 : Nat)
                                        [D.agg
                                            [D.slc false u64
                                                (Pl.loQ (Pl.froI A)
                                                      (Pl.froI B)).fst.fst,
                                              D.bool
                                                (Pl.loQ (Pl.froI A)
                                                        (Pl.froI B)).fst.snd.fst,
                                              D.slc false u64
                                                (Pl.loQ (Pl.froI A)
                                                      (Pl.froI B)).snd.fst]]),
                                    ()) =
                                  C37.post (s, ())))))) := by
  have e : C37.post (s, ()) = (if rdV (bl s) then atq1 (rdR (bl s)) else mkQ 0, if rdV (bl s) then atq2 (rdR (bl s)) else 10, ()) := rfl
  rw [e]
  have bad : rdB (bl s) = false → ((([], false, ()), [], ()), (10 : Int), ()) = ((if rdV (bl s) then atq1 (rdR (bl s)) else mkQ 0 : Qv), (if rdV (bl s) then atq2 (rdR (bl s)) else 10 : Int), ()) := fun h => by
    have : rdV (bl s) = false := by unfold rdV; rw [h]; rfl
    rw [this]; rfl
  have eB : rdB (bl s) = (isF A && isF B && !decide ((bl B).head? = some 45) && !decide (bl B = [48])) := by
    show (isFl (topL (bl s)) && isFl (botL (bl s)) && !decide ((botL (bl s)).head? = some 45) && !decide (botL (bl s) = [48])) = _
    rw [← hA, ← hB]; rfl
  have eR : rdR (bl s) = Rat.divInt (parS A) (parS B) := by
    show Rat.divInt (parV (topL (bl s))) (parV (botL (bl s))) = _
    rw [← hA, ← hB]; rfl
  refine ⟨by omega, Br_of (fun h1 => bad ?_) (fun h1 => ⟨by omega, Br_of (fun h2 => bad ?_) (fun h2 => ?_)⟩)⟩
  · have : isF A = false := by simpa using h1
    rw [eB, this]; rfl
  · have : isF B = false := by simpa using h2
    rw [eB, this, Bool.and_false]; rfl
  have fA : isF A = true := by simpa using h1
  have fB : isF B = true := by simpa using h2
  rw [fA, fB] at eB
  have hp := List.length_pos_iff.2 (isFl_parts fB).1
  have hl := unsg_len (bl B)
  have sB := size_bl B
  have sA := size_bl A
  have h0 : bt B (0 : Int) = ((((bl B).getD 0 0).toNat : Nat) : Int) := bt_bl B 0
  have hh : (bl B).head? = some ((bl B).getD 0 0) := by
    generalize bl B = l at hl hp
    cases l with
    | nil => rw [List.length_nil] at hl; omega
    | cons x l => rfl
  refine ⟨by omega, by omega, Br_of (fun h3 => bad ?_) (fun h3 => Br_of (fun h4 => bad ?_) (fun h4 => ?_))⟩
  · have : (bl B).head? = some 45 := by
      have h45 : bt B 0 = 45 := by simpa using h3
      have : (bl B).getD 0 0 = 45 := (u8_eq (n := 45) (by decide)).2 (by omega)
      rw [hh, this]
    rw [eB, decide_eq_true this]; rfl
  · rw [ba_toList] at h4
    have : bl B = [48] := of_decide_eq_true h4
    rw [eB, decide_eq_true this, Bool.not_true, Bool.and_false]
  have n45 : (bl B).head? ≠ some 45 := fun h => by
    rw [hh] at h
    rw [h0, (show ((bl B).getD 0 0) = 45 from Option.some.inj h)] at h3
    cases h3
  have n48 : bl B ≠ [48] := by rw [ba_toList] at h4; exact of_decide_eq_false h4
  rw [decide_eq_false n45, decide_eq_false n48] at eB
  have vA := parV_W fA
  have vB := parV_W fB
  have bN := parV_ne fB n48
  have i1 : iv (froI A) = parS A := iv_mk _
  have i2 : iv (froI B) = parS B := iv_mk _
  have oA : okI (froI A) := okI_mk' (bl A).length vA (by omega)
  have oB : okI (froI B) := okI_mk' (bl B).length vB (by omega)
  have eL : loQ (froI A) (froI B) = mkQ (rdR (bl s)) := by
    show mkQ (Rat.divInt (iv (froI A)) (iv (froI B))) = _
    rw [i1, i2, eR]
  have oL : okQ2 (mkQ (rdR (bl s))) := by
    rw [eR]
    exact okQ_div (k := 1100000) bN (Nat.lt_of_lt_of_le vA (pow_le_W (by omega))) (Nat.le_of_lt (Nat.lt_of_lt_of_le vB (pow_le_W (by omega)))) (by decide) (by decide)
  have hV : rdV (bl s) = decide (txtR (rdR (bl s)) = bl s) := by
    unfold rdV; rw [eB]; rfl
  rw [hV, eL, txtQ_mk, ba_toList, bl_ba]
  refine ⟨⟨by omega, fA⟩, ⟨by omega, fB⟩, ⟨oA, oB, ne_of_iv (by rw [i2]; exact bN)⟩, oL, Br_of (fun h5 => ?_) (fun h5 => ?_)⟩
  · have : ¬ txtR (rdR (bl s)) = bl s := by simpa using h5
    rw [decide_eq_false this]; rfl
  · have : txtR (rdR (bl s)) = bl s := by simpa using h5
    rw [decide_eq_true this]
    refine ⟨⟨rfl, ⟨_, _, _, _, _, rfl⟩, oL⟩, ?_⟩
    show (atq1 (qv (mkQ (rdR (bl s)))), atq2 (qv (mkQ (rdR (bl s)))), ()) = _
    rw [qv_mkQ]; rfl

theorem cut_len (l p : List UInt8) : (Lib.cut l p).1.length ≤ l.length ∧ (Lib.cut l p).2.1.length ≤ l.length := by
  unfold Lib.cut
  split
  · exact ⟨by rw [List.length_take]; omega, by rw [List.length_drop]; omega⟩
  · exact ⟨Nat.le_refl _, Nat.zero_le _⟩
theorem vc37 : ∀ x, C37.pre x → VC T37 H0 Tryd.f25 C37 x := by
  rintro ⟨(s : ByteArray), ⟨⟩⟩ (h : s.size ≤ 1100000)
  refine cast (α := s.size ≤ (4000000000 : Nat) ∧ Br (!Pl.cut3 s (ByteArray.mk #[(47 : UInt8)])) ((Pl.cut1 s (ByteArray.mk #[(47 : UInt8)])).size ≤ (9000000000000000000 : Nat) ∧ Br (!Pl.isF (Pl.cut1 s (ByteArray.mk #[(47 : UInt8)]))) (((([], false, ()), [], ()), (10 : Int), ()) = C37.post (s, ())) ((ByteArray.mk #[(49 : UInt8)]).size ≤ (9000000000000000000 : Nat) ∧ Br (!Pl.isF (ByteArray.mk #[(49 : UInt8)])) (((([], false, ()), [], ()), (10 : Int), ()) = C37.post (s, ())) ((0 : Int) ≤ (0 : Int) ∧ (0 : Int) < (↑(ByteArray.mk #[(49 : UInt8)]).size : Int) ∧ Br (bt (ByteArray.mk #[(49 : UInt8)]) (0 : Int) == (45 : Int)) (((([], false, ()), [], ()), (10 : Int), ()) = C37.post (s, ())) (Br ((ByteArray.mk #[(49 : UInt8)]).toList == (ByteArray.mk #[(48 : UInt8)]).toList) (((([], false, ()), [], ()), (10 : Int), ()) = C37.post (s, ())) (((Pl.cut1 s (ByteArray.mk #[(47 : UInt8)])).size ≤ (2000000 : Nat) ∧ Pl.isF (Pl.cut1 s (ByteArray.mk #[(47 : UInt8)])) = true) ∧ ((ByteArray.mk #[(49 : UInt8)]).size ≤ (2000000 : Nat) ∧ Pl.isF (ByteArray.mk #[(49 : UInt8)]) = true) ∧ (Pl.okI (Pl.froI (Pl.cut1 s (ByteArray.mk #[(47 : UInt8)]))) ∧ Pl.okI (Pl.froI (ByteArray.mk #[(49 : UInt8)])) ∧ (Pl.froI (ByteArray.mk #[(49 : UInt8)])).1 ≠ []) ∧ Pl.okQ2 (Pl.loQ (Pl.froI (Pl.cut1 s (ByteArray.mk #[(47 : UInt8)]))) (Pl.froI (ByteArray.mk #[(49 : UInt8)]))) ∧ Br (!(Pl.txtQ (Pl.loQ (Pl.froI (Pl.cut1 s (ByteArray.mk #[(47 : UInt8)]))) (Pl.froI (ByteArray.mk #[(49 : UInt8)])))).toList == s.toList) (((([], false, ()), [], ()), (10 : Int), ()) = C37.post (s, ())) (Pl.okCloQ (D.bfn (47 : Nat) [D.agg [D.slc false u64 (Pl.loQ (Pl.froI (Pl.cut1 s (ByteArray.mk #[(47 : UInt8)]))) (Pl.froI (ByteArray.mk #[(49 : UInt8)]))).fst.fst, D.bool (Pl.loQ (Pl.froI (Pl.cut1 s (ByteArray.mk #[(47 : UInt8)]))) (Pl.froI (ByteArray.mk #[(49 : UInt8)]))).fst.snd.fst, D.slc false u64 (Pl.loQ (Pl.froI (Pl.cut1 s (ByteArray.mk #[(47 : UInt8)]))) (Pl.froI (ByteArray.mk #[(49 : UInt8)]))).snd.fst]]) ∧ (Pl.aq1 (D.bfn (47 : Nat) [D.agg [D.slc false u64 (Pl.loQ (Pl.froI (Pl.cut1 s (ByteArray.mk #[(47 : UInt8)]))) (Pl.froI (ByteArray.mk #[(49 : UInt8)]))).fst.fst, D.bool (Pl.loQ (Pl.froI (Pl.cut1 s (ByteArray.mk #[(47 : UInt8)]))) (Pl.froI (ByteArray.mk #[(49 : UInt8)]))).fst.snd.fst, D.slc false u64 (Pl.loQ (Pl.froI (Pl.cut1 s (ByteArray.mk #[(47 : UInt8)]))) (Pl.froI (ByteArray.mk #[(49 : UInt8)]))).snd.fst]]), Pl.aq2 (D.bfn (47 : Nat) [D.agg [D.slc false u64 (Pl.loQ (Pl.froI (Pl.cut1 s (ByteArray.mk #[(47 : UInt8)]))) (Pl.froI (ByteArray.mk #[(49 : UInt8)]))).fst.fst, D.bool (Pl.loQ (Pl.froI (Pl.cut1 s (ByteArray.mk #[(47 : UInt8)]))) (Pl.froI (ByteArray.mk #[(49 : UInt8)]))).fst.snd.fst, D.slc false u64 (Pl.loQ (Pl.froI (Pl.cut1 s (ByteArray.mk #[(47 : UInt8)]))) (Pl.froI (ByteArray.mk #[(49 : UInt8)]))).snd.fst]]), ()) = C37.post (s, ()))))))) ((Pl.cut1 s (ByteArray.mk #[(47 : UInt8)])).size ≤ (9000000000000000000 : Nat) ∧ Br (!Pl.isF (Pl.cut1 s (ByteArray.mk #[(47 : UInt8)]))) (((([], false, ()), [], ()), (10 : Int), ()) = C37.post (s, ())) ((Pl.cut2 s (ByteArray.mk #[(47 : UInt8)])).size ≤ (9000000000000000000 : Nat) ∧ Br (!Pl.isF (Pl.cut2 s (ByteArray.mk #[(47 : UInt8)]))) (((([], false, ()), [], ()), (10 : Int), ()) = C37.post (s, ())) ((0 : Int) ≤ (0 : Int) ∧ (0 : Int) < (↑(Pl.cut2 s (ByteArray.mk #[(47 : UInt8)])).size : Int) ∧ Br (bt (Pl.cut2 s (ByteArray.mk #[(47 : UInt8)])) (0 : Int) == (45 : Int)) (((([], false, ()), [], ()), (10 : Int), ()) = C37.post (s, ())) (Br ((Pl.cut2 s (ByteArray.mk #[(47 : UInt8)])).toList == (ByteArray.mk #[(48 : UInt8)]).toList) (((([], false, ()), [], ()), (10 : Int), ()) = C37.post (s, ())) (((Pl.cut1 s (ByteArray.mk #[(47 : UInt8)])).size ≤ (2000000 : Nat) ∧ Pl.isF (Pl.cut1 s (ByteArray.mk #[(47 : UInt8)])) = true) ∧ ((Pl.cut2 s (ByteArray.mk #[(47 : UInt8)])).size ≤ (2000000 : Nat) ∧ Pl.isF (Pl.cut2 s (ByteArray.mk #[(47 : UInt8)])) = true) ∧ (Pl.okI (Pl.froI (Pl.cut1 s (ByteArray.mk #[(47 : UInt8)]))) ∧ Pl.okI (Pl.froI (Pl.cut2 s (ByteArray.mk #[(47 : UInt8)]))) ∧ (Pl.froI (Pl.cut2 s (ByteArray.mk #[(47 : UInt8)]))).1 ≠ []) ∧ Pl.okQ2 (Pl.loQ (Pl.froI (Pl.cut1 s (ByteArray.mk #[(47 : UInt8)]))) (Pl.froI (Pl.cut2 s (ByteArray.mk #[(47 : UInt8)])))) ∧ Br (!(Pl.txtQ (Pl.loQ (Pl.froI (Pl.cut1 s (ByteArray.mk #[(47 : UInt8)]))) (Pl.froI (Pl.cut2 s (ByteArray.mk #[(47 : UInt8)]))))).toList == s.toList) (((([], false, ()), [], ()), (10 : Int), ()) = C37.post (s, ())) (Pl.okCloQ (D.bfn (47 : Nat) [D.agg [D.slc false u64 (Pl.loQ (Pl.froI (Pl.cut1 s (ByteArray.mk #[(47 : UInt8)]))) (Pl.froI (Pl.cut2 s (ByteArray.mk #[(47 : UInt8)])))).fst.fst, D.bool (Pl.loQ (Pl.froI (Pl.cut1 s (ByteArray.mk #[(47 : UInt8)]))) (Pl.froI (Pl.cut2 s (ByteArray.mk #[(47 : UInt8)])))).fst.snd.fst, D.slc false u64 (Pl.loQ (Pl.froI (Pl.cut1 s (ByteArray.mk #[(47 : UInt8)]))) (Pl.froI (Pl.cut2 s (ByteArray.mk #[(47 : UInt8)])))).snd.fst]]) ∧ (Pl.aq1 (D.bfn (47 : Nat) [D.agg [D.slc false u64 (Pl.loQ (Pl.froI (Pl.cut1 s (ByteArray.mk #[(47 : UInt8)]))) (Pl.froI (Pl.cut2 s (ByteArray.mk #[(47 : UInt8)])))).fst.fst, D.bool (Pl.loQ (Pl.froI (Pl.cut1 s (ByteArray.mk #[(47 : UInt8)]))) (Pl.froI (Pl.cut2 s (ByteArray.mk #[(47 : UInt8)])))).fst.snd.fst, D.slc false u64 (Pl.loQ (Pl.froI (Pl.cut1 s (ByteArray.mk #[(47 : UInt8)]))) (Pl.froI (Pl.cut2 s (ByteArray.mk #[(47 : UInt8)])))).snd.fst]]), Pl.aq2 (D.bfn (47 : Nat) [D.agg [D.slc false u64 (Pl.loQ (Pl.froI (Pl.cut1 s (ByteArray.mk #[(47 : UInt8)]))) (Pl.froI (Pl.cut2 s (ByteArray.mk #[(47 : UInt8)])))).fst.fst, D.bool (Pl.loQ (Pl.froI (Pl.cut1 s (ByteArray.mk #[(47 : UInt8)]))) (Pl.froI (Pl.cut2 s (ByteArray.mk #[(47 : UInt8)])))).fst.snd.fst, D.slc false u64 (Pl.loQ (Pl.froI (Pl.cut1 s (ByteArray.mk #[(47 : UInt8)]))) (Pl.froI (Pl.cut2 s (ByteArray.mk #[(47 : UInt8)])))).snd.fst]]), ()) = C37.post (s, ())))))))) (by kernel_rfl) ?_
  obtain ⟨l1, l2⟩ := cut_len (bl s) [47]
  have e47 : bl (ByteArray.mk #[(47 : UInt8)]) = [47] := rfl
  have hA : bl (cut1 s (ByteArray.mk #[(47 : UInt8)])) = topL (bl s) := rfl
  have hl : bl s = bl s := rfl
  rw [size_bl] at h
  have lA : (cut1 s (ByteArray.mk #[(47 : UInt8)])).size ≤ 1100000 := by rw [size_bl, hA]; exact Nat.le_trans l1 h
  have h3 : cut3 s (ByteArray.mk #[(47 : UInt8)]) = (Lib.cut (bl s) [47]).2.2 := rfl
  refine ⟨by rw [size_bl]; omega, Br_of (fun hc => ?_) (fun hc => ?_)⟩
  · refine tail37 hA ?_ lA (by decide)
    have : (Lib.cut (bl s) [47]).2.2 = false := by rw [h3] at hc; simpa using hc
    unfold botL
    rw [this]; rfl
  · have hB : bl (cut2 s (ByteArray.mk #[(47 : UInt8)])) = botL (bl s) := by
      have : (Lib.cut (bl s) [47]).2.2 = true := by rw [h3] at hc; simpa using hc
      unfold botL
      rw [this]; rfl
    refine tail37 hA hB lA ?_
    have h5 : bl (cut2 s (ByteArray.mk #[(47 : UInt8)])) = (Lib.cut (bl s) [47]).2.1 := rfl
    rw [size_bl, h5]; exact Nat.le_trans l2 h
theorem snd37 : Sound Tryd.prog 25 C37 := fn_sound (T := T37) (fn := Tryd.f25) (tokg (T := T37) ⟨snd96, snd97, snd98, snd85, snd25, snd99, trivial⟩ trivial trivial) Tryd.func25 (by kernel_rfl) H0 vc37 (by kernel_rfl)

end Ta
end
section
/- The reference's fractions; powers, binomials, factorials. -/
set_option linter.unusedVariables false
set_option linter.unusedSimpArgs false
set_option maxRecDepth 100000
set_option exponentiation.threshold 6000000
namespace Ta
open Go Fw Go.Proofs Pl

theorem zv_gc (x y : Rv) : zv (gcR x y) = ((Nat.gcd (nr x.2.1) (nr y.2.1) : Nat) : Int) := zv_mk _
theorem zv_qo (x y : Rv) : zv (qoR x y) = (zv x).tdiv (zv y) := zv_mk _
theorem zv_ad (x y : Rv) : zv (adR x y) = zv x + zv y := zv_mk _
theorem zv_mu (x y : Rv) : zv (muR x y) = zv x * zv y := zv_mk _
theorem ne_zv {z : Rv} (h : zv z ≠ 0) : z.2.1 ≠ [] := fun h1 => h (by have := natAbs_zv z; rw [h1, show nr [] = 0 from rfl] at this; omega)
theorem zv_ne {z : Rv} (h : okZ z) (h0 : z.2.1 ≠ []) : zv z ≠ 0 := fun h1 => h0 ((zv_nil (okZ_Y h)).1 h1)
theorem okZ_qo {x y : Rv} (h : okZ x) : okZ (qoR x y) := by
  refine okZ_mk K4 (Nat.lt_of_le_of_lt ?_ (okZ_abs h)) (by rw [K4_eq]; decide)
  rw [Int.natAbs_tdiv]; exact Nat.div_le_self _ _
theorem okZ_gc {x y : Rv} (hy : okZ y) (h0 : y.2.1 ≠ []) : okZ (gcR x y) := by
  refine okZ_mk K4 (Nat.lt_of_le_of_lt ?_ (okZ_abs hy)) (by rw [K4_eq]; decide)
  rw [Int.natAbs_natCast, natAbs_zv]
  exact Nat.gcd_le_right _ (nr_pos hy.1 h0)
theorem okZ_64 {n : Int} (h : rg64 n) : okZ (mkR n) := okZ_mk 3 (by
  obtain ⟨h1, h2⟩ := h
  have : BB ^ 3 = 1000000000000000000000000000 := by decide
  rw [this]; omega) (by decide)
theorem rg64_1 : rg64 1 := ⟨by decide, by decide⟩
def Pl.M1b : Nat := 1000000
theorem M1b_eq : M1b = 1000000 := rfl
theorem okRQ_n {q : RQv} (h : okRQ q) : (zv q.1).natAbs < BB ^ M1b := by rw [natAbs_zv]; exact Nat.lt_of_lt_of_le (nr_lt h.1.1.1) (pow_le_B h.2.2.1)
theorem okRQ_d {q : RQv} (h : okRQ q) : (zv q.2.1).natAbs < BB ^ M1b := by rw [natAbs_zv]; exact Nat.lt_of_lt_of_le (nr_lt h.2.1.1.1) (pow_le_B h.2.2.2.1)
theorem mu_abs {x y : Rv} {k l : Nat} (hx : (zv x).natAbs < BB ^ k) (hy : (zv y).natAbs < BB ^ l) : (zv (muR x y)).natAbs < BB ^ (k + l) := by
  rw [zv_mu, Int.natAbs_mul]; exact mul_lt_B hx hy
theorem okZ_mu {x y : Rv} {k l : Nat} (hx : (zv x).natAbs < BB ^ k) (hy : (zv y).natAbs < BB ^ l) (h : k + l ≤ 4000000) : okZ (muR x y) :=
  okZ_mk (k + l) (by rw [Int.natAbs_mul]; exact mul_lt_B hx hy) h
theorem okZ_ad {x y : Rv} {k : Nat} (hx : (zv x).natAbs < BB ^ k) (hy : (zv y).natAbs < BB ^ k) (h : k + 1 ≤ 4000000) : okZ (adR x y) :=
  okZ_mk (k + 1) (by have := add_lt_B hx hy; omega) h
theorem okZ_su {x y : Rv} {k : Nat} (hx : (zv x).natAbs < BB ^ k) (hy : (zv y).natAbs < BB ^ k) (h : k + 1 ≤ 4000000) : okZ (suR x y) :=
  okZ_mk (k + 1) (by have := add_lt_B hx hy; omega) h
theorem M22 : M1b + M1b + 1 ≤ 4000000 := by rw [M1b_eq]; decide
theorem M21 : M1b + M1b ≤ 4000000 := by rw [M1b_eq]; decide
/-- A fraction's parts. -/
theorem rqv_parts {q : RQv} (h : okRQ q) : (rqv q).num = zv q.1 ∧ ((rqv q).den : Int) = zv q.2.1 := by
  obtain ⟨d, hd⟩ : ∃ d : Nat, zv q.2.1 = ((d + 1 : Nat) : Int) := ⟨(zv q.2.1).toNat - 1, by have := h.2.2.2.2.1; omega⟩
  have hn : nr q.2.1.2.1 = d + 1 := by rw [← natAbs_zv, hd, Int.natAbs_natCast]
  have hc : Nat.gcd (zv q.1).natAbs (d + 1) = 1 := by rw [natAbs_zv, ← hn]; exact h.2.2.2.2.2
  obtain ⟨k1, k2⟩ := num_mk hc
  unfold rqv
  rw [hd, Rat.divInt_ofNat]
  exact ⟨k1, by rw [k2]⟩
theorem decL_len {x : List Int} (h : rng BB x) : (Lib.decDigits (nr x)).length ≤ 9 * x.length + 1 := by
  refine dec_len (by omega) (Nat.lt_of_lt_of_le (nr_lt h) ?_)
  rw [BB_pow]; exact Nat.pow_le_pow_right (by decide) (by omega)
theorem txR_len {z : Rv} (h : okZ z) : (Lib.itoa (zv z)).length ≤ 40000000 := by
  obtain ⟨s, a, ⟨⟩⟩ := z
  have h1 := decL_len h.1.1
  have h2 := h.2.1
  simp only at h1 h2
  cases s with
  | true => rw [zv_t, Lib.itoa_neg _ (okZ_pos h), List.length_cons]; omega
  | false => rw [zv_f, Lib.itoa_nonneg]; omega
theorem cpR_mk (x : Rv) (n : Int) : cpR x (mkR n) = ordI (zv x) n := by show ordI (zv x) (zv (mkR n)) = _; rw [zv_mk]
theorem ordI_eq {x y : Int} : ordI x y = 0 ↔ x = y := by rw [← ordI_sub, ordI_eq0]; omega
theorem ordI_gt' {x y : Int} : ordI x y > 0 ↔ y < x := by
  unfold ordI
  by_cases h : x < y
  · rw [if_pos h]; omega
  · rw [if_neg h]
    by_cases h' : y < x
    · rw [if_pos h']; omega
    · rw [if_neg h']; omega
theorem ordI_lt' {x y : Int} : ordI x y < 0 ↔ x < y := by
  unfold ordI
  by_cases h : x < y
  · rw [if_pos h]; omega
  · rw [if_neg h]
    by_cases h' : y < x
    · rw [if_pos h']; omega
    · rw [if_neg h']; omega
/-! ### Powers, binomials, factorials -/
theorem pow_BX {m : Nat} (k : Nat) (h : m ≤ 29 * k) : 2 ^ m ≤ BB ^ k := by
  refine Nat.le_trans (Nat.pow_le_pow_right (by decide) h) ?_
  rw [Nat.pow_mul]
  exact Nat.pow_le_pow_left (by decide) k
theorem nr_mkR (n : Int) : nr (mkR n).2.1 = n.natAbs := nr_rn _
theorem okZ_nat {z : Nat} (h : z ≤ 2 ^ 10000 * 1000) : okZ (mkR ((z : Nat) : Int)) := by
  refine okZ_mk 400 ?_ (by decide)
  rw [Int.natAbs_natCast]
  have h3 := pow_BX (m := 10000) 345 (by decide)
  have h4 : BB ^ 345 * 1000 < BB ^ 345 * BB := Nat.mul_lt_mul_of_pos_left (by decide) (pow_B_pos _)
  have h5 := Nat.mul_le_mul_right 1000 h3
  have h6 : BB ^ 345 * BB = BB ^ 346 := (Nat.pow_succ ..).symm
  have h7 := pow_le_B (show 346 ≤ 400 by decide)
  generalize 2 ^ 10000 = A at *
  generalize BB ^ 345 = B1 at *
  omega
theorem fac_le' {j : Nat} (h : j ≤ 1000) : fac j ≤ 2 ^ 10000 * 1000 := by
  have h1 := fac_le j h
  have h2 : 2 ^ (10 * j) ≤ 2 ^ 10000 := Nat.pow_le_pow_right (by decide) (by omega)
  generalize 2 ^ 10000 = A at *
  omega
theorem fac_succ (n : Nat) : fac (n + 1) = (n + 1) * fac n := rfl
theorem cho_le' {n k : Nat} (h : n ≤ 1000) : cho n k ≤ 2 ^ 1000 := Nat.le_trans (cho_le n k) (Nat.pow_le_pow_right (by decide) h)
theorem le_big {z : Nat} (h : z ≤ 2 ^ 1000 * 1000) : z ≤ 2 ^ 10000 * 1000 := Nat.le_trans h (Nat.mul_le_mul_right _ (Nat.pow_le_pow_right (by decide) (by decide)))
end Ta
end
section
/- The reference's texts of integers. -/
set_option linter.unusedVariables false
set_option linter.unusedSimpArgs false
set_option maxRecDepth 100000
namespace Ta
open Go Fw Go.Proofs Pl

abbrev u8t : Ty := .int .u8
theorem rd8 {l : List Int} {i : Nat} : rd (Ty.int IntKind.u8) l (i : Int) = l.getD i 0 := rfl
theorem baOf_aux (l : List Int) : ∀ r : ByteArray, l.foldl (fun (r : ByteArray) (n : Int) => r.push (UInt8.ofNat n.toNat)) r = ba (bl r ++ l.map fun n => UInt8.ofNat n.toNat) := by
  induction l with
  | nil => intro r; rw [List.map_nil, List.append_nil]; exact (ba_bl r).symm
  | cons x l ih =>
    intro r
    rw [List.foldl_cons, ih]
    obtain ⟨⟨r⟩⟩ := r
    show ba (bl _ ++ _) = _
    congr 1
    show (ByteArray.push _ _).data.toList ++ _ = _
    simp [ByteArray.push, bl]
theorem baOf_eq (l : List Int) : baOf l = ba (l.map fun n => UInt8.ofNat n.toNat) := by
  show l.foldl _ ByteArray.empty = _
  rw [baOf_aux]; rfl
/-- The digits' signs. -/
def ch (l : List Int) : List Int := l.map fun d => 48 + d
theorem ch_snoc (l : List Int) (d : Int) : ch l ++ [48 + d] = ch (l ++ [d]) := by unfold ch; simp
theorem ch_len (l : List Int) : (ch l).length = l.length := by unfold ch; simp
theorem ch_getD {l : List Int} {i : Nat} (h : i < l.length) : (ch l).getD i 0 = 48 + l.getD i 0 := by
  rw [getD_get (by rw [ch_len]; exact h), getD_get h]
  unfold ch
  rw [List.getElem_map]
theorem ch_take (l : List Int) (n : Nat) : (ch l).take n = ch (l.take n) := by unfold ch; rw [List.map_take]
theorem dec_dg : ∀ (f n : Nat), n ≤ f → 0 < n → (ch (dg 10 n)).reverse.map (fun x => UInt8.ofNat x.toNat) = Lib.decDigits n
  | 0, n, h, h0 => by omega
  | f + 1, n, h, h0 => by
    rw [dg_step (by decide) h0]
    by_cases h1 : n < 10
    · rw [dec_small h1, Nat.div_eq_of_lt h1, dg_zero, Nat.mod_eq_of_lt h1]
      simp only [ch, List.map_cons, List.map_nil, List.reverse_cons, List.reverse_nil, List.nil_append]
      congr 2 <;> omega
    · rw [dec_big h1, ← dec_dg f (n / 10) (by omega) (by omega)]
      simp only [ch, List.map_cons, List.reverse_cons, List.map_append, List.map_nil]
      congr 3 <;> omega
theorem getD_rev {L : List Int} {j : Nat} (h : j < L.length) : L.reverse.getD j 0 = L.getD (L.length - 1 - j) 0 := by
  rw [getD_get (by rw [List.length_reverse]; exact h), getD_get (by omega), List.getElem_reverse]
theorem ext_getD {l m : List Int} (h : l.length = m.length) (he : ∀ j, j < l.length → l.getD j 0 = m.getD j 0) : l = m :=
  List.ext_getElem h fun j h1 h2 => by
    have := he j h1
    rwa [getD_get h1, getD_get h2] at this
theorem rev_ok {L : List Int} (hL : L.length ≤ 100000000) (h0 : 0 < L.length) (P : List Int → Prop) (hP : P L.reverse) : ∃ n : Nat,
    itl
      (fun (G : List Int × Int × Int × PUnit → Prop) (x : List Int × Int × Int × PUnit) =>
        let v5 := List.length x.fst;
        let v6 := Int.toNat x.snd.fst;
        let v7 := rd (Ty.int IntKind.u8) x.fst x.snd.snd.fst;
        let v8 := List.set x.fst v6 v7;
        Br (decide (x.snd.fst < x.snd.snd.fst))
          ((0 : Int) ≤ x.snd.fst ∧
            x.snd.fst < (v5 : Int) ∧
              (0 : Int) ≤ x.snd.fst ∧
                x.snd.fst < (v5 : Int) ∧
                  (0 : Int) ≤ x.snd.snd.fst ∧
                    x.snd.snd.fst < (v5 : Int) ∧
                      (0 : Int) ≤ x.snd.snd.fst ∧
                        x.snd.snd.fst < (v5 : Int) ∧
                          (0 : Int) ≤ x.snd.fst ∧
                            x.snd.fst < (v5 : Int) ∧
                              (0 : Int) ≤ x.snd.fst ∧
                                x.snd.fst < (v5 : Int) ∧
                                  (0 : Int) ≤ x.snd.snd.fst ∧
                                    x.snd.snd.fst < (v8.length : Int) ∧
                                      (0 : Int) ≤ x.snd.snd.fst ∧
                                        x.snd.snd.fst < (v8.length : Int) ∧
                                          G
                                            (v8.set (Int.toNat x.snd.snd.fst)
                                                (rd (Ty.int IntKind.u8) x.fst x.snd.fst),
                                              IntKind.i64.wrap (x.snd.fst + (1 : Int)),
                                              IntKind.i64.wrap (x.snd.snd.fst - (1 : Int)),
                                              ()))
          (P x.1))
      n (L, (0 : Int), ((L.length - 1 : Nat) : Int), ()) := by
  refine itl_rule (fun s => ∃ i k : Nat, s.2.1 = (i : Int) ∧ s.2.2.1 = (k : Int) - 1 ∧ i + k = L.length ∧ s.1.length = L.length ∧ ∀ j, j < L.length → s.1.getD j 0 = if j < i ∨ k ≤ j then L.getD (L.length - 1 - j) 0 else L.getD j 0) (fun s => s.2.2.1.toNat)
    ⟨0, L.length, rfl, by simp only; omega, by omega, rfl, fun j hj => by rw [if_neg (by omega)]⟩ ?_
  rintro ⟨l, i', k', ⟨⟩⟩ G ⟨i, k, hi, hk, h1, h2, h3⟩ hG
  simp only at hi hk h2 h3
  subst hi hk
  simp only
  refine Br_of (fun hb => ?_) (fun hb => ?_)
  · have hlt : i + 1 < k := by have := of_decide_eq_true hb; omega
    obtain ⟨p, rfl⟩ : ∃ p, k = p + 1 := ⟨k - 1, by omega⟩
    have ep : ((p + 1 : Nat) : Int) - 1 = (p : Int) := by omega
    rw [ep, Int.toNat_natCast, Int.toNat_natCast, wrap_i64 (x := (i : Int) + 1) (by omega) (by omega), wrap_i64 (x := (p : Int) - 1) (by omega) (by omega), rd8, rd8]
    refine ⟨by omega, by omega, by omega, by omega, by omega, by omega, by omega, by omega, by omega, by omega, by omega, by omega, by omega, by rw [List.length_set]; omega, by omega, by rw [List.length_set]; omega, hG _ ⟨i + 1, p, rfl, rfl, by omega, by simp only [List.length_set]; exact h2, ?_⟩ (by simp only; omega)⟩
    intro j hj
    simp only
    have hi3 := h3 i (by omega)
    have hp3 := h3 p (by omega)
    rw [if_neg (by omega)] at hi3 hp3
    rw [getD_set, List.length_set]
    by_cases e1 : p = j
    · rw [if_pos ⟨e1, by omega⟩, if_pos (by omega), hi3]
      congr 1; omega
    · rw [if_neg (fun h => e1 h.1), getD_set]
      by_cases e2 : i = j
      · rw [if_pos ⟨e2, by omega⟩, if_pos (by omega), hp3]
        congr 1; omega
      · rw [if_neg (fun h => e2 h.1), h3 j hj]
        by_cases e3 : j < i ∨ p + 1 ≤ j
        · rw [if_pos e3, if_pos (by omega)]
        · rw [if_neg e3, if_neg (by omega)]
  · have hge : k ≤ i + 1 := by have := of_decide_eq_false hb; omega
    have : l = L.reverse := by
      refine ext_getD (by rw [List.length_reverse]; exact h2) fun j hj => ?_
      rw [h2] at hj
      rw [h3 j hj, getD_rev hj]
      by_cases e3 : j < i ∨ k ≤ j
      · rw [if_pos e3]
      · rw [if_neg e3]
        congr 1; omega
    rw [this]; exact hP

theorem vc82 : ∀ x, C82.pre x → VC T0 H82 Tryd.f8 C82 x := by
  rintro ⟨⟨(s : Bool), (a : List Int), ⟨⟩⟩, ⟨⟩⟩ (h : okZ (s, a, ()))
  refine cast (α := let v1 := [(45 : Int)]; let v2 := (s, a, ()); Br ((↑a.length : Int) == (0 : Int)) (((ByteArray.mk #[(48 : UInt8)]), ()) = C82.post (v2, ())) (∃ (n : Nat), itl (fun (G : List Int × Int × PUnit → Prop) (x : List Int × Int × PUnit) => Br (decide (x.snd.fst < (↑a.length : Int))) ((0 : Int) ≤ x.snd.fst ∧ x.snd.fst < (↑a.length : Int) ∧ ∃ (n : Nat), itl (fun (G_1 : List Int × Int × Int × PUnit → Prop) (x_1 : List Int × Int × Int × PUnit) => Br (decide (x_1.snd.snd.fst < (9 : Int))) ((10 : Int) ≠ (0 : Int) ∧ ((↑(List.length x_1.fst) : Int) + (↑[IntKind.u8.wrap (IntKind.i64.wrap ((48 : Int) + Int.tmod x_1.snd.fst (10 : Int)))].length : Int)) * (1 : Int) ≤ (140737488355328 : Int) ∧ (10 : Int) ≠ (0 : Int) ∧ G_1 (List.append x_1.fst [IntKind.u8.wrap (IntKind.i64.wrap ((48 : Int) + Int.tmod x_1.snd.fst (10 : Int)))], IntKind.i64.wrap (Int.tdiv x_1.snd.fst (10 : Int)), IntKind.i64.wrap (x_1.snd.snd.fst + (1 : Int)), ())) (G (x_1.1, IntKind.i64.wrap (x.snd.fst + (1 : Int)), ()))) n (x.1, rd i64 a x.snd.fst, (0 : Int), ())) (∃ (n : Nat), itl (fun (G : List Int × PUnit → Prop) (x : List Int × PUnit) => let v3 := List.length x.fst; let v4 := (↑v3 : Int) - (1 : Int); (0 : Int) ≤ IntKind.i64.wrap v4 ∧ IntKind.i64.wrap v4 < (↑v3 : Int) ∧ (0 : Int) ≤ IntKind.i64.wrap v4 ∧ IntKind.i64.wrap v4 < (↑v3 : Int) ∧ Br (rd (Ty.int IntKind.u8) x.fst (IntKind.i64.wrap v4) == (48 : Int)) ((0 : Int) ≤ IntKind.i64.wrap v4 ∧ IntKind.i64.wrap v4 ≤ (↑v3 : Int) ∧ G (List.take (IntKind.i64.wrap v4).toNat x.fst, ())) (Br s (((↑v3 : Int) + (↑v1.length : Int)) * (1 : Int) ≤ (140737488355328 : Int) ∧ ∃ (n : Nat), itl (fun (G : List Int × Int × Int × PUnit → Prop) (x : List Int × Int × Int × PUnit) => let v5 := List.length x.fst; let v6 := Int.toNat x.snd.fst; let v7 := rd (Ty.int IntKind.u8) x.fst x.snd.snd.fst; let v8 := List.set x.fst v6 v7; Br (decide (x.snd.fst < x.snd.snd.fst)) ((0 : Int) ≤ x.snd.fst ∧ x.snd.fst < (↑v5 : Int) ∧ (0 : Int) ≤ x.snd.fst ∧ x.snd.fst < (↑v5 : Int) ∧ (0 : Int) ≤ x.snd.snd.fst ∧ x.snd.snd.fst < (↑v5 : Int) ∧ (0 : Int) ≤ x.snd.snd.fst ∧ x.snd.snd.fst < (↑v5 : Int) ∧ (0 : Int) ≤ x.snd.fst ∧ x.snd.fst < (↑v5 : Int) ∧ (0 : Int) ≤ x.snd.fst ∧ x.snd.fst < (↑v5 : Int) ∧ (0 : Int) ≤ x.snd.snd.fst ∧ x.snd.snd.fst < (↑v8.length : Int) ∧ (0 : Int) ≤ x.snd.snd.fst ∧ x.snd.snd.fst < (↑v8.length : Int) ∧ G (v8.set (Int.toNat x.snd.snd.fst) (rd (Ty.int IntKind.u8) x.fst x.snd.fst), IntKind.i64.wrap (x.snd.fst + (1 : Int)), IntKind.i64.wrap (x.snd.snd.fst - (1 : Int)), ())) ((baOf x.1, ()) = C82.post (v2, ()))) n (List.append x.fst v1, (0 : Int), IntKind.i64.wrap ((↑(x.fst ++ v1).length : Int) - (1 : Int)), ())) (∃ (n : Nat), itl (fun (G : List Int × Int × Int × PUnit → Prop) (x : List Int × Int × Int × PUnit) => let v5 := List.length x.fst; let v6 := Int.toNat x.snd.fst; let v7 := rd (Ty.int IntKind.u8) x.fst x.snd.snd.fst; let v8 := List.set x.fst v6 v7; Br (decide (x.snd.fst < x.snd.snd.fst)) ((0 : Int) ≤ x.snd.fst ∧ x.snd.fst < (↑v5 : Int) ∧ (0 : Int) ≤ x.snd.fst ∧ x.snd.fst < (↑v5 : Int) ∧ (0 : Int) ≤ x.snd.snd.fst ∧ x.snd.snd.fst < (↑v5 : Int) ∧ (0 : Int) ≤ x.snd.snd.fst ∧ x.snd.snd.fst < (↑v5 : Int) ∧ (0 : Int) ≤ x.snd.fst ∧ x.snd.fst < (↑v5 : Int) ∧ (0 : Int) ≤ x.snd.fst ∧ x.snd.fst < (↑v5 : Int) ∧ (0 : Int) ≤ x.snd.snd.fst ∧ x.snd.snd.fst < (↑v8.length : Int) ∧ (0 : Int) ≤ x.snd.snd.fst ∧ x.snd.snd.fst < (↑v8.length : Int) ∧ G (v8.set (Int.toNat x.snd.snd.fst) (rd (Ty.int IntKind.u8) x.fst x.snd.fst), IntKind.i64.wrap (x.snd.fst + (1 : Int)), IntKind.i64.wrap (x.snd.snd.fst - (1 : Int)), ())) ((baOf x.1, ()) = C82.post (v2, ()))) n (x.1, (0 : Int), IntKind.i64.wrap v4, ())))) n (x.1, ()))) n ([], (0 : Int), ()))) (by kernel_rfl) ?_
  intro v1 v2
  have e : C82.post (v2, ()) = (ba (Lib.itoa (zv (s, a, ()))), ()) := rfl
  have hv1 : v1 = [45] := rfl
  rw [e]
  clear_value v2 v1
  subst hv1
  have ca := h.1
  have la := h.2.1
  simp only at ca la
  refine Br_of (fun hb => ?_) (fun hb => ?_)
  · have h0 : a = [] := List.eq_nil_of_length_eq_zero (by have : (a.length : Int) = 0 := by simpa using hb
                                                          omega)
    have hz : zv (s, a, ()) = 0 := (zv_nil (okZ_Y h)).2 h0
    rw [hz]
    show (ba [48], ()) = (ba (Lib.itoa ((0 : Nat) : Int)), ())
    rw [itoa_nat, dec_small (by decide)]; rfl
  have hne : a ≠ [] := fun h0 => by rw [h0] at hb; cases hb
  have hN := nr_pos ca hne
  obtain ⟨N, hNe⟩ : ∃ N, N = nr a := ⟨_, rfl⟩
  rw [← hNe] at hN
  refine itl_rule (fun st => ∃ (i : Nat) (d : List Int), st.2.1 = (i : Int) ∧ i ≤ a.length ∧ st.1 = ch d ∧ rng 10 d ∧ d.length = 9 * i ∧ vl 10 d = vl BB (a.take i)) (fun st => a.length - st.2.1.toNat) ⟨0, [], rfl, Nat.zero_le _, rfl, rng_nil, rfl, rfl⟩ ?_
  rintro ⟨out, i', ⟨⟩⟩ G ⟨i, d, hi, h1, h2, h3, h4, h5⟩ hG
  simp only at hi h2
  subst hi h2
  simp -zeta only
  refine Br_of (fun hc => ?_) (fun hc => ?_)
  · have hlt : i < a.length := by have := of_decide_eq_true hc; omega
    have wa := rngB ca.1 i
    have hra : rd i64 a (i : Int) = a.getD i 0 := rfl
    have hvt := vl_take_getD (B := BB) (l := a) i
    rw [hra]
    obtain ⟨w, hw⟩ : ∃ w : Nat, a.getD i 0 = (w : Int) := ⟨(a.getD i 0).toNat, by omega⟩
    rw [hw] at wa hvt ⊢
    rw [Int.toNat_natCast] at hvt
    refine ⟨by omega, by omega, itl_rule (fun st => ∃ (t v : Nat) (d' : List Int), st.2.2.1 = (t : Int) ∧ st.2.1 = (v : Int) ∧ t ≤ 9 ∧ v * 10 ^ t ≤ w ∧ st.1 = ch d' ∧ rng 10 d' ∧ d'.length = 9 * i + t ∧ vl 10 d' + 10 ^ (9 * i + t) * v = vl BB (a.take i) + BB ^ i * w) (fun st => 9 - st.2.2.1.toNat) ⟨0, w, d, rfl, rfl, by omega, by omega, rfl, h3, h4, by rw [h5, BB_pow]; rfl⟩ ?_⟩
    rintro ⟨out', v', t', ⟨⟩⟩ G1 ⟨t, v, d', u1, u2, u3, u8, u4, u5, u6, u7⟩ hG1
    simp only at u1 u2 u4
    subst u1 u2 u4
    simp -zeta only
    refine Br_of (fun hd => ?_) (fun hd => ?_)
    · have ht : t < 9 := by have := of_decide_eq_true hd; omega
      have hv9 : v < 1000000000 := by
        have : v * 1 ≤ v * 10 ^ t := Nat.mul_le_mul_left _ (Nat.pow_pos (by decide))
        omega
      have e1 : Int.tmod (v : Int) 10 = ((v % 10 : Nat) : Int) := by rw [tmod_nn (by omega)]; omega
      have e2 : Int.tdiv (v : Int) 10 = ((v / 10 : Nat) : Int) := by rw [tdiv_nn (by omega)]; omega
      have e3 : IntKind.u8.wrap (IntKind.i64.wrap ((48 : Int) + ((v % 10 : Nat) : Int))) = 48 + ((v % 10 : Nat) : Int) := by
        rw [wrap_i64 (by omega) (by omega)]
        unfold IntKind.wrap
        simp [IntKind.bits, IntKind.signed]
        omega
      rw [e1, e2, e3, wrap_i64 (x := (t : Int) + 1) (by omega) (by omega), wrap_i64 (x := ((v / 10 : Nat) : Int)) (by omega) (by omega)]
      refine ⟨by decide, by rw [ch_len]; simp only [List.length_singleton]; omega, by decide, hG1 _ ⟨t + 1, v / 10, d' ++ [((v % 10 : Nat) : Int)], rfl, rfl, ht, ?_, by simp only [List.append_eq]; exact ch_snoc _ _, rng_snoc u5 ⟨by omega, by omega⟩, by rw [List.length_append, u6]; rfl, ?_⟩ (by simp only; omega)⟩
      · rw [Nat.pow_succ, Nat.mul_comm (10 ^ t) 10, ← Nat.mul_assoc]
        refine Nat.le_trans (Nat.mul_le_mul_right _ ?_) u8
        omega
      · rw [vl_snoc, u6, Int.toNat_natCast, ← u7, show 9 * i + (t + 1) = 9 * i + t + 1 by omega, Nat.pow_succ, Nat.mul_assoc]
        have e4 : 10 ^ (9 * i + t) * v = 10 ^ (9 * i + t) * (v % 10) + 10 ^ (9 * i + t) * (10 * (v / 10)) := by
          rw [← Nat.mul_add, Nat.mod_add_div]
        omega
    · have ht : t = 9 := by have := of_decide_eq_false hd; omega
      subst ht
      have hv0 : v = 0 := by
        have : (10 : Nat) ^ 9 = 1000000000 := rfl
        rw [this] at u8
        omega
      subst hv0
      have hval : vl 10 d' = vl BB (a.take (i + 1)) := by rw [hvt]; rw [Nat.mul_zero, Nat.add_zero] at u7; exact u7
      clear u7 u8
      rw [wrap_i64 (x := (i : Int) + 1) (by omega) (by omega)]
      exact hG _ ⟨i + 1, d', rfl, hlt, rfl, u5, by omega, hval⟩ (by simp only; omega)
  · have hil : i = a.length := by have := of_decide_eq_false hc; omega
    subst hil
    rw [List.take_length] at h5
    have hdN : vl 10 d = N := by rw [h5, hNe]; rfl
    refine itl_rule (fun st => ∃ d' : List Int, st.1 = ch d' ∧ rng 10 d' ∧ d'.length ≤ 9 * a.length ∧ vl 10 d' = N) (fun st => st.1.length) ⟨d, rfl, h3, by omega, hdN⟩ ?_
    rintro ⟨out', ⟨⟩⟩ G1 ⟨d', u1, u2, u3, u4⟩ hG1
    simp only at u1
    subst u1
    simp -zeta only
    intro v3 v4
    have hv3 : v3 = d'.length := ch_len _
    have hdp : 0 < d'.length := by
      rcases Nat.eq_zero_or_pos d'.length with h0 | h0
      · rw [List.eq_nil_of_length_eq_zero h0] at u4; simp [vl] at u4; omega
      · exact h0
    obtain ⟨m, hm⟩ : ∃ m, d'.length = m + 1 := ⟨d'.length - 1, by omega⟩
    have hv4 : IntKind.i64.wrap v4 = (m : Int) := by show IntKind.i64.wrap ((v3 : Int) - 1) = _; rw [hv3, wrap_i64 (by omega) (by omega)]; omega
    have hv4' : IntKind.i64.wrap v4 = v4 := by show IntKind.i64.wrap ((v3 : Int) - 1) = (v3 : Int) - 1; rw [hv3, wrap_i64 (by omega) (by omega)]
    rw [hv4]
    have hv34 : v4 = (m : Int) := by rw [← hv4', hv4]
    clear_value v4 v3
    subst hv3
    have hl : d' = d'.take m ++ [d'.getD m 0] := by
      rw [getD_get (by omega), ← List.take_succ_eq_append_getElem (by omega), List.take_of_length_le (by omega)]
    have hrd : rd (Ty.int IntKind.u8) (ch d') (m : Int) = 48 + d'.getD m 0 := by rw [rd8, ch_getD (by omega)]
    rw [hrd]
    refine ⟨by omega, by omega, by omega, by omega, Br_of (fun hd => ⟨by omega, by omega, ?_⟩) (fun hd => ?_)⟩
    · have h0' : d'.getD m 0 = 0 := by have : 48 + d'.getD m 0 = 48 := by simpa using hd
                                       omega
      rw [Int.toNat_natCast, ch_take]
      refine hG1 _ ⟨d'.take m, rfl, rng_take u2 m, by rw [List.length_take]; omega, ?_⟩ (by simp only [ch_len, List.length_take]; omega)
      rw [← u4]
      conv => rhs; rw [hl, h0', vl_snoc]
      simp
    · have h0' : d'.getD m 0 ≠ 0 := fun h0 => by rw [h0] at hd; cases hd
      have hcan : can 10 d' := ⟨u2, fun x hx => by
        rw [hl, List.getLast?_concat] at hx
        injection hx with hx
        rw [← hx]; exact h0'⟩
      have hd10 : d' = dg 10 N := by rw [← u4, dg_vl (by decide) hcan]
      have hfin : (ch d').reverse.map (fun x => UInt8.ofNat x.toNat) = Lib.decDigits N := by rw [hd10]; exact dec_dg N N (Nat.le_refl _) hN
      refine Br_of (fun hs => ⟨by simp only [List.length_singleton]; omega, ?_⟩) (fun hs => ?_)
      · subst hs
        have hk : IntKind.i64.wrap ((((ch d' ++ [(45 : Int)]).length : Nat) : Int) - 1) = (((List.append (ch d') [(45 : Int)]).length - 1 : Nat) : Int) := by
          simp only [List.append_eq, List.length_append, List.length_singleton, ch_len]
          rw [wrap_i64 (by omega) (by omega)]; omega
        rw [hk]
        refine rev_ok (L := List.append (ch d') [(45 : Int)]) (by simp only [List.append_eq, List.length_append, List.length_singleton, ch_len]; omega) (by simp) (fun l => (baOf l, ()) = (ba (Lib.itoa (zv (true, a, ()))), ())) ?_
        show (baOf _, ()) = _
        rw [baOf_eq, zv_t, ← hNe, Lib.itoa_neg _ hN, List.append_eq, List.reverse_append, List.map_append, hfin]; rfl
      · subst hs
        have hk : (m : Int) = (((ch d').length - 1 : Nat) : Int) := by rw [ch_len]; omega
        rw [hk]
        refine rev_ok (L := ch d') (by rw [ch_len]; omega) (by rw [ch_len]; omega) (fun l => (baOf l, ()) = (ba (Lib.itoa (zv (false, a, ()))), ())) ?_
        show (baOf _, ()) = _
        rw [baOf_eq, zv_f, ← hNe, itoa_nat, hfin]

end Ta
end
section
/- The reference's integers from texts. -/
set_option linter.unusedVariables false
set_option linter.unusedSimpArgs false
set_option maxRecDepth 100000
namespace Ta
open Go Fw Go.Proofs Pl

theorem decV_cons (x : UInt8) (l : List UInt8) : decV (x :: l) = (x.toNat - 48) * 10 ^ l.length + decV l := by
  have e := decV_append [x] l
  rw [List.singleton_append, decV_one] at e
  exact e
theorem par_val {B P q limb d V : Nat} {S : Nat} (h : V = S + B * limb) : d * (B * P) + V = S + B * (limb + P * d) := by
  rw [h, Nat.mul_add, ← Nat.mul_assoc B P d, Nat.mul_comm d]
  omega
theorem pow9 (r : Nat) (h : r ≤ 9) : 10 ^ r ≤ 1000000000 := Nat.pow_le_pow_right (by decide) h (n := 10)
theorem pow_lt9 {r : Nat} (h : r < 9) : 10 ^ (r + 1) = 1000000000 ↔ r = 8 := by
  constructor
  · intro h1
    rcases Nat.lt_or_ge r 8 with h2 | h2
    · have h3 : 10 ^ (r + 1) ≤ 10 ^ 8 := Nat.pow_le_pow_right (by decide) h2
      rw [h1] at h3
      exact absurd h3 (by decide)
    · omega
  · rintro rfl; rfl
theorem par_loop {D : ByteArray} {sg : Bool} {p : Rv × Bool × Unit} (hD : D.size ≤ 140737488355328)
    (hbad : (bl D).all isDig = false → ((false, [], ()), false, ()) = p) (hfin : (bl D).all isDig = true → (rsg sg (rn (decV (bl D))), true, ()) = p) : ∃ n : Nat,
    itl
      (fun (G : (Bool × List Int × PUnit) × List Int × Int × Int × Int × PUnit → Prop)
          (x : (Bool × List Int × PUnit) × List Int × Int × Int × Int × PUnit) =>
        let v7 := [x.snd.snd.fst];
        let v8 := bt D x.snd.snd.snd.snd.fst;
        let v9 := v8 - (48 : Int);
        let v10 := x.snd.snd.snd.fst * IntKind.i64.wrap (IntKind.u8.wrap v9);
        let v11 := x.snd.snd.fst + IntKind.i64.wrap v10;
        Br (decide (x.snd.snd.snd.snd.fst ≥ (0 : Int)))
          ((0 : Int) ≤ x.snd.snd.snd.snd.fst ∧
            x.snd.snd.snd.snd.fst < (D.size : Int) ∧
              Br (decide (v8 < (48 : Int))) (((false, [], ()), false, ()) = p)
                ((0 : Int) ≤ x.snd.snd.snd.snd.fst ∧
                  x.snd.snd.snd.snd.fst < (D.size : Int) ∧
                    Br (decide (v8 > (57 : Int))) (((false, [], ()), false, ()) = p)
                      ((0 : Int) ≤ x.snd.snd.snd.snd.fst ∧
                        x.snd.snd.snd.snd.fst < (D.size : Int) ∧
                          Br
                            (IntKind.i64.wrap ((10 : Int) * x.snd.snd.snd.fst) ==
                              (1000000000 : Int))
                            ((((List.length x.snd.fst : Nat) : Int) +
                                    (([IntKind.i64.wrap v11].length : Nat) : Int)) *
                                  (8 : Int) ≤
                                (140737488355328 : Int) ∧
                              G
                                (x.fst, List.append x.snd.fst [IntKind.i64.wrap v11], (0 : Int),
                                  (1 : Int), IntKind.i64.wrap (x.snd.snd.snd.snd.fst - (1 : Int)),
                                  ()))
                            (G
                              (x.fst, x.snd.1, IntKind.i64.wrap v11,
                                IntKind.i64.wrap ((10 : Int) * x.snd.snd.snd.fst),
                                IntKind.i64.wrap (x.snd.snd.snd.snd.fst - (1 : Int)), ())))))
          (Br (decide (x.snd.snd.fst > (0 : Int)))
            ((((List.length x.snd.fst : Nat) : Int) + ((v7.length : Nat) : Int)) * (8 : Int) ≤
                (140737488355328 : Int) ∧
              Pl.rgL (List.append x.snd.fst v7) ∧
                True ∧
                  (Pl.rsg sg (Pl.rtr (List.append x.snd.fst v7)), true, ()) = p)
            (Pl.rgL x.snd.1 ∧ True ∧ (Pl.rsg sg (Pl.rtr x.snd.1), true, ()) = p)))
      n ((false, [], ()), [], (0 : Int), (1 : Int), IntKind.i64.wrap ((D.size : Int) - (1 : Int)), ()) := by
  rw [size_bl] at hD ⊢
  have hbt : ∀ i : Nat, bt D (i : Int) = ((((bl D).getD i 0).toNat : Nat) : Int) := bt_bl D
  generalize bl D = l at hD hbad hfin hbt ⊢
  rw [wrap_i64 (by omega) (by omega)]
  refine itl_rule (fun st => ∃ (j q r limb : Nat), st.2.2.2.2.1 = (j : Int) - 1 ∧ j ≤ l.length ∧ l.length - j = 9 * q + r ∧ r < 9 ∧ st.2.2.1 = (limb : Int) ∧ limb < 10 ^ r ∧ st.2.2.2.1 = ((10 ^ r : Nat) : Int) ∧ rng BB st.2.1 ∧ st.2.1.length = q ∧
      (l.drop j).all isDig = true ∧ decV (l.drop j) = vl BB st.2.1 + BB ^ q * limb) (fun st => (st.2.2.2.2.1 + 1).toNat) ⟨l.length, 0, 0, 0, rfl, Nat.le_refl _, by omega, by decide, rfl, by decide, rfl, rng_nil, rfl, by simp, by simp [vl, decV]⟩ ?_
  rintro ⟨bx, m, limb', u', i', ⟨⟩⟩ G ⟨j, q, r, limb, h1, h2, h3, h4, h5, h6, h7, h8, h9, h10, h11⟩ hG
  simp only at h1 h5 h7 h8 h9 h11
  subst h1 h5 h7
  simp -zeta only
  intro v7 v8 v9 v10 v11
  have hr9 := pow9 r (by omega)
  have hv7 : v7 = [(limb : Int)] := rfl
  refine Br_of (fun hb => ?_) (fun hb => ?_)
  · have hj : 0 < j := by have := of_decide_eq_true hb; omega
    obtain ⟨t, rfl⟩ : ∃ t, j = t + 1 := ⟨j - 1, by omega⟩
    have et : ((t + 1 : Nat) : Int) - 1 = (t : Int) := by omega
    have htl : t < l.length := by omega
    have hg : l.getD t 0 = l[t] := by rw [List.getD_eq_getElem?_getD, List.getElem?_eq_getElem htl]; rfl
    have hv8 : v8 = ((l[t].toNat : Nat) : Int) := by show bt D (((t + 1 : Nat) : Int) - 1) = _; rw [et, hbt, hg]
    have hv9 : v9 = v8 - 48 := rfl
    have hv10 : v10 = ((10 ^ r : Nat) : Int) * IntKind.i64.wrap (IntKind.u8.wrap v9) := rfl
    have hv11 : v11 = (limb : Int) + IntKind.i64.wrap v10 := rfl
    clear_value v11 v10 v9 v8 v7
    rw [et]
    have hdr : l.drop t = l[t] :: l.drop (t + 1) := List.drop_eq_getElem_cons htl
    have bad : isDig l[t] = false → ((false, [], ()), false, ()) = p := fun h => hbad (List.all_eq_false.2 ⟨l[t], List.getElem_mem htl, by rw [h]; decide⟩)
    rw [hv8]
    refine ⟨by omega, by omega, Br_of (fun hc => bad ?_) (fun hc => ⟨by omega, by omega, Br_of (fun hd => bad ?_) (fun hd => ⟨by omega, by omega, ?_⟩)⟩)⟩
    · have := of_decide_eq_true hc
      exact decide_eq_false (by omega)
    · have := of_decide_eq_true hd
      exact decide_eq_false (by omega)
    · have c1 := of_decide_eq_false hc
      have c2 := of_decide_eq_false hd
      obtain ⟨d, hd'⟩ : ∃ d, d = l[t].toNat - 48 := ⟨_, rfl⟩
      have hd9 : d ≤ 9 := by omega
      have w1 : IntKind.i64.wrap (IntKind.u8.wrap v9) = (d : Int) := by
        have : v9 = (d : Int) := by omega
        have e : IntKind.u8.wrap (d : Int) = (d : Int) := by
          unfold IntKind.wrap
          simp [IntKind.bits, IntKind.signed]
          omega
        rw [this, e, wrap_i64 (by omega) (by omega)]
      rw [w1, ← Int.natCast_mul] at hv10
      have hpd : 10 ^ r * d ≤ 10 ^ r * 9 := Nat.mul_le_mul_left _ hd9
      have w2 : IntKind.i64.wrap v11 = ((limb + 10 ^ r * d : Nat) : Int) := by
        rw [hv11, hv10, wrap_i64 (x := ((10 ^ r * d : Nat) : Int)) (by omega) (by omega), wrap_i64 (by omega) (by omega)]; omega
      have w3 : IntKind.i64.wrap ((10 : Int) * ((10 ^ r : Nat) : Int)) = ((10 ^ (r + 1) : Nat) : Int) := by
        rw [Nat.pow_succ, wrap_i64 (by omega) (by omega)]; omega
      have hisd : isDig l[t] = true := decide_eq_true (by omega)
      have hall : (l.drop t).all isDig = true := by rw [hdr, List.all_cons, hisd, h10]; rfl
      have hlen : (l.drop (t + 1)).length = 9 * q + r := by rw [List.length_drop]; omega
      have hval : decV (l.drop t) = vl BB m + BB ^ q * (limb + 10 ^ r * d) := by
        rw [hdr, decV_cons, hlen, ← hd', Nat.pow_add, ← BB_pow]
        exact par_val (q := q) h11
      have hlim : limb + 10 ^ r * d < 10 ^ (r + 1) := by rw [Nat.pow_succ]; omega
      rw [w2, w3, wrap_i64 (x := (t : Int) - 1) (by omega) (by omega)]
      refine Br_of (fun he => ?_) (fun he => ?_)
      · have h109' : ((10 ^ (r + 1) : Nat) : Int) = 1000000000 := by simpa using he
        have h109 : 10 ^ (r + 1) = 1000000000 := Int.ofNat_inj.1 h109'
        have hr8 := (pow_lt9 h4).1 h109
        subst hr8
        have hlB : limb + 10 ^ 8 * d < 1000000000 := by rw [h109] at hlim; exact hlim
        refine ⟨by simp only [List.length_singleton]; omega, hG _ ⟨t, q + 1, 0, 0, rfl, by omega, by omega, by decide, rfl, by decide, rfl, rng_snoc h8 ⟨by omega, by rw [show ((BB : Nat) : Int) = 1000000000 from rfl]; omega⟩, by simp only [List.append_eq, List.length_append, List.length_singleton]; omega, hall, ?_⟩ (by simp only; omega)⟩
        simp only [List.append_eq]
        rw [hval, vl_snoc, h9, Int.toNat_natCast, Nat.mul_zero, Nat.add_zero]
      · have hr8 : r ≠ 8 := fun h => by
          have := (pow_lt9 h4).2 h
          rw [this] at he; cases he
        exact hG _ ⟨t, q, r + 1, limb + 10 ^ r * d, rfl, by omega, by omega, by omega, rfl, hlim, rfl, h8, h9, hall, hval⟩ (by simp only; omega)
  · have hj : j = 0 := by have := of_decide_eq_false hb; omega
    subst hj
    rw [List.drop_zero] at h10 h11
    have hlB : (limb : Int) < (BB : Int) := by rw [show ((BB : Nat) : Int) = 1000000000 from rfl]; omega
    have hml : m.length ≤ 15637498706148 := by omega
    have key : vl BB (m ++ [(limb : Int)]) = decV l := by rw [vl_snoc, h9, Int.toNat_natCast, h11]
    rw [hv7]
    clear_value v11 v10 v9 v8 v7
    refine Br_of (fun hc => ⟨by simp only [List.length_singleton]; omega, ⟨rng_snoc h8 ⟨by omega, hlB⟩, by simp only [List.append_eq, List.length_append, List.length_singleton]; omega⟩, trivial, ?_⟩) (fun hc => ⟨⟨h8, by omega⟩, trivial, ?_⟩)
    · rw [← hfin h10]
      show (rsg sg (rn (vl BB (m ++ [(limb : Int)]))), true, ()) = _
      rw [key]
    · have hl0 : limb = 0 := by have := of_decide_eq_false hc; omega
      subst hl0
      rw [Nat.mul_zero, Nat.add_zero] at h11
      rw [← hfin h10, h11]; rfl

theorem isFl_eq {l : List UInt8} : isFl l = (decide (unsg l ≠ []) && (decide ((unsg l).head? ≠ some 48) || decide (l = [48])) && (unsg l).all isDig) := rfl
theorem pre45 (x : UInt8) (l : List UInt8) : Lib.hasPrefix (x :: l) [45] = (x == 45) := by
  unfold Lib.hasPrefix
  rw [Bool.eq_iff_iff]
  simp [List.isPrefixOf]
  try exact ⟨fun h => h.symm, fun h => h.symm⟩
theorem unsg_pos {l : List UInt8} (h : l.head? ≠ some 45) : unsg l = l := by
  unfold unsg Lib.trimPrefix
  cases l with
  | nil => rfl
  | cons x l =>
    rw [if_neg]
    intro h1
    apply h
    rw [pre45] at h1
    have : x = 45 := by simpa using h1
    rw [this]; rfl
theorem unsg_neg (l : List UInt8) : unsg (45 :: l) = l := by
  unfold unsg Lib.trimPrefix
  rw [if_pos (by rw [pre45]; rfl)]; rfl
theorem head_bt {s : ByteArray} {b : Nat} (hb : b < 256) (h : 0 < s.size) : (bt s (0 : Int) == (b : Int)) = decide ((bl s).head? = some (UInt8.ofNat b)) := by
  have h0 : bt s (0 : Int) = ((((bl s).getD 0 0).toNat : Nat) : Int) := bt_bl s 0
  rw [size_bl] at h
  have hh : (bl s).head? = some ((bl s).getD 0 0) := by
    generalize bl s = l at h
    cases l with
    | nil => simp at h
    | cons x l => rfl
  rw [h0, hh, Bool.eq_iff_iff]
  simp only [beq_iff_eq, decide_eq_true_eq, Option.some.injEq]
  rw [u8_eq hb]
  omega
theorem head_45 {s : ByteArray} (h : 0 < s.size) : (bt s (0 : Int) == (45 : Int)) = decide ((bl s).head? = some 45) := head_bt (b := 45) (by decide) h
theorem head_48 {s : ByteArray} (h : 0 < s.size) : (bt s (0 : Int) == (48 : Int)) = decide ((bl s).head? = some 48) := head_bt (b := 48) (by decide) h
end Ta
end
section
/- The reference's fractions from texts. -/
set_option linter.unusedVariables false
set_option linter.unusedSimpArgs false
set_option maxRecDepth 100000
namespace Ta
open Go Fw Go.Proofs Pl

theorem decV_snoc (m : List UInt8) (x : UInt8) : decV (m ++ [x]) = 10 * decV m + (x.toNat - 48) := by
  rw [decV_append, decV_one]; simp only [List.length_singleton, Nat.pow_one]; omega
theorem dec_lt {u : Nat} (h : u < 10) : Lib.decDigits u = [UInt8.ofNat (48 + u)] := by rw [Lib.decDigits, dif_pos h]
theorem dec_ge {u : Nat} (h : ¬ u < 10) : Lib.decDigits u = Lib.decDigits (u / 10) ++ [UInt8.ofNat (48 + u % 10)] := by rw [Lib.decDigits, dif_neg h]
theorem dec_decV : ∀ (n : Nat) (l : List UInt8), l.length = n + 1 → l.all isDig = true → (l.head? ≠ some 48 ∨ l = [48]) → Lib.decDigits (decV l) = l := by
  intro n
  induction n with
  | zero =>
    intro l hl hd _
    match l, hl with
    | [x], _ =>
      have hx := isDig_iff.1 (by simpa using hd : isDig x = true)
      rw [decV_one, dec_lt (by omega)]
      have : x = UInt8.ofNat (48 + (x.toNat - 48)) := (u8_eq (by omega)).2 (by omega)
      rw [← this]
  | succ n ih =>
    intro l hl hd hh
    have h0 : l ≠ [] := fun h => by rw [h] at hl; cases hl
    obtain ⟨m, x, rfl⟩ : ∃ m x, l = m ++ [x] := ⟨l.dropLast, l.getLast h0, (List.dropLast_concat_getLast h0).symm⟩
    have hm : m.length = n + 1 := by simpa using hl
    have m0 : m ≠ [] := fun h => by rw [h] at hm; cases hm
    rw [List.all_append, Bool.and_eq_true] at hd
    have hx := isDig_iff.1 (by simpa using hd.2 : isDig x = true)
    have h48 : m.head? ≠ some 48 := by
      rcases hh with h | h
      · intro h1; apply h; cases m with
        | nil => exact absurd rfl m0
        | cons a m => simpa using h1
      · have := congrArg List.length h; rw [List.length_append, hm] at this; simp only [List.length_singleton] at this; omega
    have hp := decV_pos hd.1 m0 h48
    have e := ih m hm hd.1 (Or.inl h48)
    rw [decV_snoc, dec_ge (by omega)]
    have e1 : (10 * decV m + (x.toNat - 48)) / 10 = decV m := by omega
    have e2 : (10 * decV m + (x.toNat - 48)) % 10 = x.toNat - 48 := by omega
    rw [e1, e2, e]
    have : x = UInt8.ofNat (48 + (x.toNat - 48)) := (u8_eq (by omega)).2 (by omega)
    rw [← this]
theorem canon {l : List UInt8} (h : isFl l = true) : Lib.itoa (parV l) = l := by
  obtain ⟨h1, h2⟩ := isFl_parts h
  have hlen := List.length_pos_iff.2 h1
  by_cases hh : l.head? = some 45
  · have hcons : l = 45 :: unsg l := by
      match l, hh with
      | x :: m, hh =>
        have : x = 45 := by simpa using hh
        rw [this, unsg_neg]
    have h48 : l ≠ [48] := fun h0 => by rw [h0] at hh; simp at hh
    have hu : (unsg l).head? ≠ some 48 := by
      rw [isFl_eq, decide_eq_false h48, Bool.or_false] at h
      simp only [Bool.and_eq_true, decide_eq_true_eq] at h
      exact h.1.2
    have hp := decV_pos h2 h1 hu
    unfold parV Lib.itoa
    rw [if_pos hh, if_pos (by omega)]
    rw [show (-((decV (unsg l) : Nat) : Int)).natAbs = decV (unsg l) by omega, dec_decV ((unsg l).length - 1) _ (by omega) h2 (Or.inl hu)]
    exact hcons.symm
  · have hu := unsg_pos hh
    have hu2 : l.head? ≠ some 48 ∨ l = [48] := by
      rw [isFl_eq, hu] at h
      simp only [Bool.and_eq_true, Bool.or_eq_true, decide_eq_true_eq] at h
      exact h.1.2
    unfold parV Lib.itoa
    rw [if_neg hh, if_neg (by omega), hu]
    rw [hu] at h2 hlen
    rw [Int.toNat_natCast, dec_decV (l.length - 1) _ (by omega) h2 hu2]
theorem dec_parts : ∀ (n : Nat), (Lib.decDigits n).all isDig = true ∧ decV (Lib.decDigits n) = n ∧ Lib.decDigits n ≠ [] ∧ (0 < n → (Lib.decDigits n).head? ≠ some 48) := by
  intro n
  induction n using Nat.strongRecOn with
  | _ n ih =>
    have dg : ∀ u, u < 10 → isDig (UInt8.ofNat (48 + u)) = true ∧ (UInt8.ofNat (48 + u)).toNat - 48 = u ∧ (0 < u → UInt8.ofNat (48 + u) ≠ 48) := fun u hu => by
      have e : (UInt8.ofNat (48 + u)).toNat = 48 + u := (u8_eq (by omega)).1 rfl
      refine ⟨isDig_iff.2 (by omega), by omega, fun h0 h1 => ?_⟩
      have : (UInt8.ofNat (48 + u)).toNat = 48 := by rw [h1]; rfl
      omega
    by_cases h : n < 10
    · obtain ⟨d1, d2, d3⟩ := dg n h
      rw [dec_lt h]
      refine ⟨by rw [List.all_cons, d1]; rfl, by rw [decV_one, d2], by simp, fun h0 h1 => d3 h0 (by simpa using h1)⟩
    · obtain ⟨i1, i2, i3, i4⟩ := ih (n / 10) (by omega)
      obtain ⟨d1, d2, d3⟩ := dg (n % 10) (by omega)
      rw [dec_ge h]
      refine ⟨by rw [List.all_append, i1, List.all_cons, d1]; rfl, by rw [decV_snoc, i2, d2]; omega, by simp, fun _ => ?_⟩
      have := i4 (by omega)
      generalize Lib.decDigits (n / 10) = m at this i3
      cases m with
      | nil => exact absurd rfl i3
      | cons a m => simpa using this
theorem dec_inj {n m : Nat} (h : Lib.decDigits n = Lib.decDigits m) : n = m := by
  have := congrArg decV h
  rwa [(dec_parts n).2.1, (dec_parts m).2.1] at this
theorem dec_no {n b : Nat} (hb : b < 48) (h : UInt8.ofNat b ∈ Lib.decDigits n) : False := by
  have := List.all_eq_true.1 (dec_parts n).1 _ h
  have := isDig_iff.1 this
  have e : (UInt8.ofNat b).toNat = b := (u8_eq (by omega)).1 rfl
  omega
theorem itoa_no (n : Int) : (47 : UInt8) ∉ Lib.itoa n := by
  unfold Lib.itoa
  split
  · intro h
    rcases List.mem_cons.1 h with h | h
    · exact absurd h (by decide)
    · exact dec_no (b := 47) (by decide) h
  · exact fun h => dec_no (b := 47) (by decide) h
theorem itoa_inj {n m : Int} (h : Lib.itoa n = Lib.itoa m) : n = m := by
  have bad : ∀ {a b : Nat}, 45 :: Lib.decDigits a ≠ Lib.decDigits b := fun {a b} h => dec_no (n := b) (b := 45) (by decide) (by rw [← h]; exact List.mem_cons_self)
  unfold Lib.itoa at h
  split at h <;> split at h
  · have := dec_inj (List.cons.inj h).2; omega
  · exact absurd h bad
  · exact absurd h.symm bad
  · have := dec_inj h; omega
/-- Two texts around the first slash. -/
theorem split_eq {a b c d : List UInt8} (ha : (47 : UInt8) ∉ a) (hc : (47 : UInt8) ∉ c) (h : a ++ 47 :: b = c ++ 47 :: d) : a = c ∧ b = d := by
  induction a generalizing c with
  | nil =>
    cases c with
    | nil => exact ⟨rfl, (List.cons.inj h).2⟩
    | cons x c => exact absurd ((List.cons.inj h).1 ▸ List.mem_cons_self) hc
  | cons y a ih =>
    cases c with
    | nil => exact absurd ((List.cons.inj h).1 ▸ List.mem_cons_self) ha
    | cons x c =>
      obtain ⟨h1, h2⟩ := List.cons.inj h
      obtain ⟨h3, h4⟩ := ih (fun h => ha (List.mem_cons_of_mem _ h)) (fun h => hc (List.mem_cons_of_mem _ h)) h2
      exact ⟨by rw [h1, h3], h4⟩
theorem itoa_pos {n : Nat} : Lib.itoa ((n : Nat) : Int) = Lib.decDigits n := itoa_nat n
/-- The text of a/b is the texts of a and b around a slash just where they are in lowest terms. -/
theorem txt_frac {a : Int} {b : Nat} (hb : 1 < b) : txtR (Rat.divInt a b) = Lib.itoa a ++ (47 :: Lib.decDigits b) ↔ Nat.gcd a.natAbs b = 1 := by
  obtain ⟨d, rfl⟩ : ∃ d, b = d + 1 := ⟨b - 1, by omega⟩
  have e : Rat.divInt a ((d + 1 : Nat) : Int) = mkRat a (d + 1) := Rat.divInt_ofNat ..
  rw [e]
  constructor
  · intro h
    unfold txtR at h
    split at h
    · exact absurd (h ▸ List.mem_append_right _ List.mem_cons_self) (itoa_no (mkRat a (d + 1)).num)
    · obtain ⟨h1, h2⟩ := split_eq (itoa_no _) (itoa_no _) h
      have h3 := itoa_inj h1
      have h4 := dec_inj h2
      have := (mkRat a (d + 1)).reduced
      rw [h3, h4] at this
      exact this
  · intro h
    obtain ⟨h1, h2⟩ := num_mk h
    unfold txtR
    rw [if_neg (by omega), h1, h2]
theorem divInt_1 (a : Int) : Rat.divInt a 1 = (a : Rat) := Rat.num_divInt_den (a : Rat)
theorem occ1 {l : List UInt8} {j : Nat} : Lib.occAt l [47] j = decide (l[j]? = some 47) := by
  unfold Lib.occAt
  induction l generalizing j with
  | nil => simp [List.isPrefixOf]
  | cons x l ih =>
    cases j with
    | zero =>
      simp only [List.drop_zero, List.isPrefixOf, Bool.and_true, List.getElem?_cons_zero]
      rw [Bool.eq_iff_iff]
      simp only [beq_iff_eq, decide_eq_true_eq, Option.some.injEq]
      exact eq_comm
    | succ j => simpa using ih
theorem cut_at {l : List UInt8} {i : Nat} (hi : l[i]? = some 47) (hn : ∀ j, j < i → l[j]? ≠ some 47) : Lib.cut l [47] = (l.take i, l.drop (i + 1), true) := by
  have hl : i < l.length := by
    rcases Nat.lt_or_ge i l.length with h | h
    · exact h
    · rw [List.getElem?_eq_none h] at hi; cases hi
  have := Lib.index_first (s := l) (sub := [47]) (i := i) (by omega) (by rw [occ1, decide_eq_true hi]) (fun j hj => by rw [occ1, decide_eq_false (hn j hj)])
  unfold Lib.cut
  rw [this, if_pos (by omega), Int.toNat_natCast]; rfl
theorem cut_no {l : List UInt8} (hn : ∀ j, j < l.length → l[j]? ≠ some 47) : Lib.cut l [47] = (l, [], false) := by
  have := Lib.index_none (s := l) (sub := [47]) (fun j hj => by
    rw [occ1, decide_eq_false_iff_not]
    intro h
    rcases Nat.lt_or_ge j l.length with h1 | h1
    · exact hn j h1 h
    · rw [List.getElem?_eq_none h1] at h; cases h)
  unfold Lib.cut
  rw [this, if_neg (by decide)]

theorem ext0 {s : ByteArray} {i : Nat} : bl (s.extract 0 i) = (bl s).take i := by
  rw [show s.extract 0 i = ba (((bl s).drop 0).take (i - 0)) from Lib.extract_eq s 0 i, bl_ba]; rfl
theorem ext1 {s : ByteArray} {i : Nat} : bl (s.extract i s.size) = (bl s).drop i := by
  rw [show s.extract i s.size = ba (((bl s).drop i).take (s.size - i)) from Lib.extract_eq s i s.size, bl_ba, size_bl]
  exact List.take_of_length_le (by rw [List.length_drop]; omega)
theorem parV_B {l : List UInt8} (h : isFl l = true) : (parV l).natAbs < BB ^ l.length := by
  obtain ⟨h1, h2⟩ := isFl_parts h
  rw [parV_abs]
  exact Nat.lt_of_lt_of_le (decV_lt h2) (Nat.le_trans (Nat.pow_le_pow_left (by decide) _) (Nat.pow_le_pow_right (by decide) (unsg_len l)))
theorem paR_f {s : ByteArray} (h : isF s = true) : paR s = mkR (parS s) := by unfold paR; rw [if_pos h]
theorem okZ_pa {s : ByteArray} (h : isF s = true) (hs : s.size ≤ 1100000) : okZ (paR s) := by
  rw [paR_f h]
  exact okZ_mk (bl s).length (parV_B h) (by rw [← size_bl]; omega)
theorem parS_sign {l : List UInt8} (h : isFl l = true) : (parV l ≤ 0 ↔ l.head? = some 45 ∨ l = [48]) := by
  obtain ⟨h1, h2⟩ := isFl_parts h
  constructor
  · intro hp
    by_cases h45 : l.head? = some 45
    · exact Or.inl h45
    · right
      by_cases h48 : l = [48]
      · exact h48
      · have := parV_ne h h48
        unfold parV at this hp
        rw [if_neg h45] at this hp
        omega
  · rintro (h45 | rfl)
    · unfold parV; rw [if_pos h45]; omega
    · decide
end Ta
end
section
/- The reference's functions are sound. -/
set_option maxRecDepth 100000
namespace Ta
open Go Fw Go.Proofs Go.RowKit Pl

theorem snd79 : Sound Tryd.prog 21 C79 := fn_sound (T := T0) (fn := Tryd.f21) (tokg (T := T0) trivial trivial trivial) Tryd.func21 (by kernel_rfl) H0 vc79 (by kernel_rfl)
theorem snd69 : Sound Tryd.prog 9 C69 := fn_sound (T := T69) (fn := Tryd.f9) (tokg (T := T69) ⟨snd79, trivial⟩ trivial trivial) Tryd.func9 (by kernel_rfl) H69 vc69 (by kernel_rfl)
theorem snd82 : Sound Tryd.prog 8 C82 := fn_sound (T := T0) (fn := Tryd.f8) (tokg (T := T0) trivial trivial trivial) Tryd.func8 (by kernel_rfl) H82 vc82 (by kernel_rfl)
end Ta
end
section
/- The laws: contracts. -/
set_option linter.unusedVariables false
set_option linter.unusedSimpArgs false
set_option maxRecDepth 100000
namespace Ta
open Go Fw Go.Proofs

def Pl.whB (s : ByteArray) : Bool := Pl.isF s && (decide (s.size ≤ 700) && Pl.pa2 s == 0)
def Pl.fcB (s : ByteArray) : Bool := Pl.rvS s && (decide (s.size ≤ 400) && Pl.pq2 s == 0)
def Pl.isB (a : Zv) (z : Rv) : Bool := decide (Pl.iv a = Pl.zv z)
def Pl.eqB (a : Qv) (q : RQv) : Bool := decide (Pl.qv a = Pl.rqv q)
def Pl.sz (s : ByteArray) : Prop := s.size ≤ 140737488355328
def Pl.szQ (s : ByteArray) : Prop := s.size ≤ 1100000
def Pl.arr2 (d : D) : Prop := ∃ a b, d = .agg [.int .i64 a, .int .i64 b] ∧ Pl.rg64 a ∧ Pl.rg64 b

def C17 : Con := ⟨[S], [ZI, RZ, B], fun (x : ByteArray × Unit) => Pl.sz x.1, fun (x : ByteArray × Unit) => (Pl.pa1 x.1, Pl.paR x.1, Pl.whB x.1, ()), none⟩
def C63 : Con := ⟨[S], [QI, RQ, B], fun (x : ByteArray × Unit) => Pl.szQ x.1, fun (x : ByteArray × Unit) => (Pl.pq1 x.1, Pl.reR x.1, Pl.fcB x.1, ()), none⟩
def C23 : Con := ⟨[ZI, RZ], [B], fun (x : Zv × Rv × Unit) => Pl.okI x.1 ∧ Pl.okZ x.2.1, fun (x : Zv × Rv × Unit) => (Pl.isB x.1 x.2.1, ()), none⟩
def C26 : Con := ⟨[QI, RQ], [B], fun (x : Qv × RQv × Unit) => Pl.okQ2 x.1 ∧ Pl.okRQ x.2.1, fun (x : Qv × RQv × Unit) => (Pl.eqB x.1 x.2.1, ()), none⟩
def C18 : Con := ⟨[], [B], fun _ => True, fun _ => (true, ()), none⟩
def law1 : Con := ⟨[S], [B], fun (x : ByteArray × Unit) => Pl.sz x.1, fun _ => (true, ()), none⟩
def law2 : Con := ⟨[S, S], [B], fun (x : ByteArray × ByteArray × Unit) => Pl.sz x.1 ∧ Pl.sz x.2.1, fun _ => (true, ()), none⟩
def law3 : Con := ⟨[S, S, S], [B], fun (x : ByteArray × ByteArray × ByteArray × Unit) => Pl.sz x.1 ∧ Pl.sz x.2.1 ∧ Pl.sz x.2.2.1, fun _ => (true, ()), none⟩
def lawQ2 : Con := ⟨[S, S], [B], fun (x : ByteArray × ByteArray × Unit) => Pl.szQ x.1 ∧ Pl.szQ x.2.1, fun _ => (true, ()), none⟩
def lawQ3 : Con := ⟨[S, S, S], [B], fun (x : ByteArray × ByteArray × ByteArray × Unit) => Pl.szQ x.1 ∧ Pl.szQ x.2.1 ∧ Pl.szQ x.2.2.1, fun _ => (true, ()), none⟩
def law4 : Con := ⟨[.raw, S, S], [B], fun (x : D × ByteArray × ByteArray × Unit) => Pl.arr2 x.1 ∧ Pl.sz x.2.1 ∧ Pl.sz x.2.2.1, fun _ => (true, ()), none⟩
def lawI : Con := ⟨[I, I], [B], fun (x : Int × Int × Unit) => Pl.rg64 x.1 ∧ Pl.rg64 x.2.1, fun _ => (true, ()), none⟩
def lawSI : Con := ⟨[S, I], [B], fun (x : ByteArray × Int × Unit) => Pl.sz x.1 ∧ Pl.rg64 x.2.1, fun _ => (true, ()), none⟩
def C3 : Con := law2
def C4 : Con := law4
def C5 : Con := law2
def C6 : Con := law1
def C7 : Con := law1
def C8 : Con := law2
def C9 : Con := law3
def C10 : Con := lawSI
def C11 : Con := lawI
def C12 : Con := lawQ3
def C13 : Con := law1
def C14 : Con := lawQ2
def C15 : Con := lawI
def C16 : Con := lawI
def TH : Ctx := cT [(23, C19), (24, C24), (27, C25), (25, C37), (6, C45), (7, C46), (26, C64), (4, C75), (8, C82)]
def TL : Ctx := cT [(11, C18), (23, C19), (40, C21), (24, C24), (27, C25), (43, C28), (25, C37), (6, C45), (7, C46), (5, C48), (66, C50), (10, C52), (26, C64), (9, C69), (4, C75), (8, C82)]
def H11 : Hints := ⟨[], [], [(0, ⟨[], [(0, si), (1, si), (5, si)]⟩)], []⟩
def H16 : Hints := ⟨[], [], [(0, ⟨[5, 22, 24], [(15, .box [N, B]), (23, .box [N, B]), (25, .box [N, B]), (26, si)]⟩)], []⟩

end Ta
end
section
/- The laws' helpers. -/
set_option linter.unusedVariables false
set_option linter.unusedSimpArgs false
set_option maxRecDepth 100000
set_option exponentiation.threshold 6000000
namespace Ta
open Go Fw Go.Proofs Go.RowKit Pl

theorem Br_t {b : Bool} {X Y : Prop} (h : b = true) (x : X) : Br b X Y := by rw [h]; exact x
theorem Br_f {b : Bool} {X Y : Prop} (h : b = false) (y : Y) : Br b X Y := by rw [h]; exact y

/-! ### Bounds -/
def tb (m : Nat) (n : Int) : Prop := n.natAbs < 10 ^ m
instance (m : Nat) (n : Int) : Decidable (tb m n) := inferInstanceAs (Decidable (n.natAbs < 10 ^ m))
theorem p10 {a b : Nat} (h : a ≤ b) : 10 ^ a ≤ 10 ^ b := Nat.pow_le_pow_right (by decide) h
theorem tb_mono {m k : Nat} {n : Int} (h : tb m n) (hk : m ≤ k) : tb k n := Nat.lt_of_lt_of_le h (p10 hk)
theorem tb_okI {m : Nat} {n : Int} (h : tb m n) (hm : m ≤ 1000000) : okI (mkI n) := okI_mk' m (Nat.lt_of_lt_of_le h (Nat.pow_le_pow_left (by decide) m)) (by omega)
theorem tb_okZ {m : Nat} {n : Int} (h : tb m n) (hm : m ≤ 1000000) : okZ (mkR n) := okZ_mk m (Nat.lt_of_lt_of_le h (Nat.pow_le_pow_left (by decide) m)) (by omega)
theorem tb_okY {m : Nat} {n : Int} (h : tb m n) (hm : m ≤ 1000000) : okY (mkR n) := okZ_Y (tb_okZ h hm)
theorem big_lt {n : Int} (h : n.natAbs < 2 ^ 40000) : bigI n = false := decide_eq_false (Nat.not_lt.2 (bsz_le.2 h))
theorem big_ge {n : Int} (h : 2 ^ 40000 ≤ n.natAbs) : bigI n = true := decide_eq_true (Nat.lt_of_not_le fun h1 => Nat.not_lt.2 h (bsz_le.1 h1))
theorem tb_2 {m : Nat} {n : Int} (h : tb m n) : n.natAbs < 2 ^ (4 * m) := Nat.lt_of_lt_of_le h (by
  rw [Nat.pow_mul]; exact Nat.pow_le_pow_left (by decide) m)
theorem tb_big {m : Nat} {n : Int} (h : tb m n) (hm : m ≤ 10000) : bigI n = false :=
  big_lt (Nat.lt_of_lt_of_le (tb_2 h) (Nat.pow_le_pow_right (by decide) (by omega)))
theorem tb_add {m : Nat} {a b : Int} (ha : tb m a) (hb : tb m b) : tb (m + 1) (a + b) := by
  unfold tb at *
  have : 10 ^ (m + 1) = 10 ^ m * 10 := rfl
  have := Int.natAbs_add_le a b
  omega
theorem tb_neg {m : Nat} {a : Int} (ha : tb m a) : tb m (-a) := by unfold tb at *; rw [Int.natAbs_neg]; exact ha
theorem tb_sub {m : Nat} {a b : Int} (ha : tb m a) (hb : tb m b) : tb (m + 1) (a - b) := by
  rw [Int.sub_eq_add_neg]; exact tb_add ha (tb_neg hb)
theorem tb_mul {m k : Nat} {a b : Int} (ha : tb m a) (hb : tb k b) : tb (m + k) (a * b) := by
  unfold tb at *
  rw [Int.natAbs_mul, Nat.pow_add]
  exact Nat.mul_lt_mul_of_lt_of_le ha (Nat.le_of_lt hb) (by have := Nat.pow_pos (n := k) (show 0 < 10 by decide); omega)
theorem tb_div {m : Nat} {a b : Int} (ha : tb m a) : tb m (a / b) := Nat.lt_of_le_of_lt (Int.natAbs_ediv_le_natAbs a b) ha
theorem tb_mod {m : Nat} {a b : Int} (hb : tb m b) (h0 : b ≠ 0) : tb m (a % b) := by
  unfold tb at *
  have h1 := Int.emod_nonneg a h0
  have h2 := Int.emod_lt a h0
  omega
theorem tb_small {m : Nat} {n : Int} (h : n.natAbs < 10) (hm : 1 ≤ m) : tb m n := Nat.lt_of_lt_of_le h (p10 hm)
theorem tb_64 {n : Int} (h : rg64 n) : tb 20 n := by
  unfold tb rg64 at *
  have : 10 ^ 20 = 100000000000000000000 := rfl
  omega

/-! ### What calls return -/
theorem att1_tb {m : Nat} {n : Int} (h : tb m n) (hm : m ≤ 10000) : att1 n = mkI n := by unfold att1; rw [tb_big h hm]; rfl
theorem att2_tb {m : Nat} {n : Int} (h : tb m n) (hm : m ≤ 10000) : att2 n = 0 := by unfold att2; rw [tb_big h hm]; rfl
theorem isB_mk (n m : Int) : isB (mkI n) (mkR m) = decide (n = m) := by unfold isB; rw [iv_mk, zv_mk]
theorem eqB_mk (r q : Rat) (h : rqv (mkRQ q) = q) : eqB (mkQ r) (mkRQ q) = decide (r = q) := by unfold eqB; rw [qv_mkQ, h]
theorem rqv_mk (q : Rat) : rqv (mkRQ q) = q := by
  unfold rqv mkRQ
  simp only
  rw [zv_mk, zv_mk, Rat.num_divInt_den]
theorem sgI_mk (n : Int) : sgI (mkI n) = ordI n 0 := by unfold sgI; rw [iv_mk]
theorem sgR_mk (n : Int) : sgR (mkR n) = ordI n 0 := by unfold sgR; rw [zv_mk]
theorem cpI_mk (n m : Int) : cpI (mkI n) (mkI m) = ordI n m := by unfold cpI; rw [iv_mk, iv_mk]
theorem cpR_mk2 (n m : Int) : cpR (mkR n) (mkR m) = ordI n m := by unfold cpR; rw [zv_mk, zv_mk]
theorem ad1_mk (n m : Int) : ad1 (mkI n) (mkI m) = att1 (n + m) := by unfold ad1; rw [iv_mk, iv_mk]
theorem ad2_mk (n m : Int) : ad2 (mkI n) (mkI m) = att2 (n + m) := by unfold ad2; rw [iv_mk, iv_mk]
theorem su1_mk (n m : Int) : su1 (mkI n) (mkI m) = att1 (n - m) := by unfold su1; rw [iv_mk, iv_mk]
theorem su2_mk (n m : Int) : su2 (mkI n) (mkI m) = att2 (n - m) := by unfold su2; rw [iv_mk, iv_mk]
theorem mu1_mk (n m : Int) : mu1 (mkI n) (mkI m) = att1 (n * m) := by unfold mu1; rw [iv_mk, iv_mk]
theorem mu2_mk (n m : Int) : mu2 (mkI n) (mkI m) = att2 (n * m) := by unfold mu2; rw [iv_mk, iv_mk]
theorem adR_mk (n m : Int) : adR (mkR n) (mkR m) = mkR (n + m) := by unfold adR; rw [zv_mk, zv_mk]
theorem suR_mk (n m : Int) : suR (mkR n) (mkR m) = mkR (n - m) := by unfold suR; rw [zv_mk, zv_mk]
theorem muR_mk (n m : Int) : muR (mkR n) (mkR m) = mkR (n * m) := by unfold muR; rw [zv_mk, zv_mk]
theorem dqR_mk (n m : Int) : dqR (mkR n) (mkR m) = mkR (n / m) := by unfold dqR; rw [zv_mk, zv_mk]
theorem drR_mk (n m : Int) : drR (mkR n) (mkR m) = mkR (n % m) := by unfold drR; rw [zv_mk, zv_mk]
theorem gcI_mk (n m : Int) : gcI (mkI n) (mkI m) = mkI ((Nat.gcd n.natAbs m.natAbs : Nat) : Int) := by
  unfold gcI; rw [← natAbs_iv, ← natAbs_iv, iv_mk, iv_mk]
theorem gcR_mk (n m : Int) : gcR (mkR n) (mkR m) = mkR ((Nat.gcd n.natAbs m.natAbs : Nat) : Int) := by
  unfold gcR; rw [nr_mkR, nr_mkR]
theorem mkR_ne {n : Int} (h : n ≠ 0) : (mkR n).2.1 ≠ [] := ne_zv (by rw [zv_mk]; exact h)
theorem txtI_mk (n : Int) : txtI (mkI n) = ba (Lib.itoa n) := by unfold txtI; rw [iv_mk]

theorem parS_tb {s : ByteArray} (h : isF s = true) : tb s.size (parS s) := by
  obtain ⟨h1, h2⟩ := isFl_parts h
  unfold tb parS
  rw [parV_abs, size_bl]
  exact Nat.lt_of_lt_of_le (decV_lt h2) (p10 (unsg_len _))
theorem whole_ok {s : ByteArray} (h : whB s = true) : ∃ n : Int, pa1 s = mkI n ∧ paR s = mkR n ∧ tb 700 n := by
  unfold whB at h
  simp only [Bool.and_eq_true, decide_eq_true_eq] at h
  obtain ⟨h1, h2, h3⟩ := h
  have hb : tb 700 (parS s) := tb_mono (parS_tb h1) h2
  refine ⟨parS s, ?_, paR_f h1, hb⟩
  unfold pa1
  rw [if_pos ⟨h1, by omega⟩, att1_tb hb (by decide)]

theorem ba_eq (a b : List UInt8) : ((ba a).toList == (ba b).toList) = decide (a = b) := by rw [ba_toList, bl_ba, bl_ba]
theorem txtR_inj {r q : Rat} (h : txtR r = txtR q) : r = q := by
  unfold txtR at h
  have nd : ∀ {x : Rat} {n : Int}, Lib.itoa x.num ++ (47 :: Lib.decDigits x.den) ≠ Lib.itoa n := fun {x n} h => itoa_no n (h ▸ List.mem_append_right _ List.mem_cons_self)
  split at h <;> split at h
  · rename_i h1 h2
    exact Rat.ext (itoa_inj h) (by rw [h1, h2])
  · exact absurd h.symm nd
  · exact absurd h nd
  · obtain ⟨h1, h2⟩ := split_eq (itoa_no _) (itoa_no _) h
    exact Rat.ext (itoa_inj h1) (dec_inj h2)
/-! ### What must hold whatever the input is -/
theorem dI_num {a : Int} {d : Nat} (h : Nat.gcd a.natAbs (d + 1) = 1) : (Rat.divInt a ((d + 1 : Nat) : Int)).num = a ∧ (Rat.divInt a ((d + 1 : Nat) : Int)).den = d + 1 := by
  rw [Rat.divInt_ofNat]; exact num_mk h
theorem txt_16 : txtR (Rat.divInt 1 6) = [49, 47, 54] := by
  have := (txt_frac (a := 1) (b := 6) (by decide)).2 (by decide)
  rw [show ((6 : Nat) : Int) = 6 from rfl] at this
  rw [this, show Lib.itoa 1 = Lib.decDigits 1 from rfl, dec_lt (by decide), dec_lt (by decide)]; rfl
theorem txt_12 : txtR (Rat.divInt 1 2) = [49, 47, 50] := by
  have := (txt_frac (a := 1) (b := 2) (by decide)).2 (by decide)
  rw [show ((2 : Nat) : Int) = 2 from rfl] at this
  rw [this, show Lib.itoa 1 = Lib.decDigits 1 from rfl, dec_lt (by decide), dec_lt (by decide)]; rfl
theorem cut_16 : Lib.cut [49, 47, 54] [47] = ([49], [54], true) := cut_at (i := 1) rfl (by
  intro j hj
  have : j = 0 := by omega
  subst this; decide)
theorem rd_16 : rdV [49, 47, 54] = true ∧ rdR [49, 47, 54] = Rat.divInt 1 6 := by
  have ht : topL [49, 47, 54] = [49] := by unfold topL; rw [cut_16]
  have hb : botL [49, 47, 54] = [54] := by unfold botL; rw [cut_16]; rfl
  have hr : rdR [49, 47, 54] = Rat.divInt 1 6 := by unfold rdR; rw [ht, hb]; rfl
  refine ⟨?_, hr⟩
  unfold rdV rdB
  rw [ht, hb, hr, txt_16]; decide
theorem bigQ_of {a : Int} {d : Nat} (h : Nat.gcd a.natAbs (d + 1) = 1) {m : Nat} (ha : tb m a) (hd : tb m ((d + 1 : Nat) : Int)) (hm : m ≤ 10000) : bigQ (Rat.divInt a ((d + 1 : Nat) : Int)) = false := by
  unfold bigQ
  rw [(dI_num h).1, (dI_num h).2, tb_big ha hm, tb_big hd hm]; rfl
theorem okQ2_of {a : Int} {d : Nat} {m : Nat} (ha : tb m a) (hd : tb m ((d + 1 : Nat) : Int)) (hm : m ≤ 100000) : okQ (mkQ (Rat.divInt a ((d + 1 : Nat) : Int))) := by
  refine okQ_div (k := m) (by omega) (Nat.lt_of_lt_of_le ha (Nat.pow_le_pow_left (by decide) m)) (Nat.le_of_lt (Nat.lt_of_lt_of_le hd (Nat.pow_le_pow_left (by decide) m))) (by omega) (by decide)
theorem sum_12 : Rat.divInt 1 3 + Rat.divInt 1 6 = Rat.divInt 1 2 := by
  rw [Rat.divInt_add_divInt _ _ (by decide) (by decide)]
  exact (Rat.divInt_eq_divInt_iff (by decide) (by decide)).2 (by decide)
theorem vc18 : ∀ x, C18.pre x → VC TH H0 Tryd.f11 C18 x := by
  rintro ⟨⟩ -
  refine cast (α := let v1 := [(45 : UInt8), (55 : UInt8)]; let v2 := [(47 : UInt8), (54 : UInt8)]; (ByteArray.mk (v1.toArray)).size ≤ (9000000000000000000 : Nat) ∧ ((-9223372036854775808 : Int) ≤ (3 : Int) ∧ (3 : Int) < (9223372036854775808 : Int)) ∧ (Pl.okI (Pl.pa1 (ByteArray.mk (v1.toArray))) ∧ Pl.okI (Pl.mkI (3 : Int))) ∧ (((-9223372036854775808 : Int) ≤ (1 : Int) ∧ (1 : Int) < (9223372036854775808 : Int)) ∧ (-9223372036854775808 : Int) ≤ (3 : Int) ∧ (3 : Int) < (9223372036854775808 : Int)) ∧ (ByteArray.mk (((49 : UInt8) :: v2).toArray)).size ≤ (1100000 : Nat) ∧ (Pl.okQ (Pl.mk1 (1 : Int) (3 : Int)) ∧ Pl.okQ (Pl.pq1 (ByteArray.mk (((49 : UInt8) :: v2).toArray)))) ∧ Br (Pl.pa2 (ByteArray.mk (v1.toArray)) == (0 : Int)) (Br (Pl.dv3 (Pl.pa1 (ByteArray.mk (v1.toArray))) (Pl.mkI (3 : Int)) == (0 : Int)) (Br (Pl.mk2 (3 : Int) == (0 : Int)) (Br (Pl.pq2 (ByteArray.mk (((49 : UInt8) :: v2).toArray)) == (0 : Int)) (Br (Pl.aad2 (Pl.mk1 (1 : Int) (3 : Int)) (Pl.pq1 (ByteArray.mk (((49 : UInt8) :: v2).toArray))) == (0 : Int)) (Pl.okI (Pl.dv1 (Pl.pa1 (ByteArray.mk (v1.toArray))) (Pl.mkI (3 : Int))) ∧ Br ((Pl.txtI (Pl.dv1 (Pl.pa1 (ByteArray.mk (v1.toArray))) (Pl.mkI (3 : Int)))).toList == (ByteArray.mk #[(45 : UInt8), (51 : UInt8)]).toList) (Pl.okI (Pl.dv2 (Pl.pa1 (ByteArray.mk (v1.toArray))) (Pl.mkI (3 : Int))) ∧ Br ((Pl.txtI (Pl.dv2 (Pl.pa1 (ByteArray.mk (v1.toArray))) (Pl.mkI (3 : Int)))).toList == (ByteArray.mk #[(50 : UInt8)]).toList) (Pl.okQ2 (Pl.aad1 (Pl.mk1 (1 : Int) (3 : Int)) (Pl.pq1 (ByteArray.mk (((49 : UInt8) :: v2).toArray)))) ∧ ((Pl.txtQ (Pl.aad1 (Pl.mk1 (1 : Int) (3 : Int)) (Pl.pq1 (ByteArray.mk (((49 : UInt8) :: v2).toArray))))).toList == (ByteArray.mk #[(49 : UInt8), (47 : UInt8), (50 : UInt8)]).toList, ()) = C18.post ()) ((false, ()) = C18.post ())) ((false, ()) = C18.post ())) ((false, ()) = C18.post ())) ((false, ()) = C18.post ())) ((false, ()) = C18.post ())) ((false, ()) = C18.post ())) ((false, ()) = C18.post ())) (by kernel_rfl) ?_
  intro v1 v2
  have e1 : ({ data := v1.toArray } : ByteArray) = ba [45, 55] := rfl
  have e2 : ({ data := ((49 : UInt8) :: v2).toArray } : ByteArray) = ba [49, 47, 54] := rfl
  rw [e1, e2]
  have hF : isF (ba [45, 55]) = true := by decide
  have hP : parS (ba [45, 55]) = -7 := by decide
  have hs : (ba [45, 55]).size = 2 := rfl
  have b7 : tb 1 (-7) := by decide
  have p1 : pa1 (ba [45, 55]) = mkI (-7) := by unfold pa1; rw [if_pos ⟨hF, by decide⟩, hP, att1_tb b7 (by decide)]
  have p2 : pa2 (ba [45, 55]) = 0 := by unfold pa2; rw [if_pos hF, if_pos (by decide), hP, att2_tb b7 (by decide)]
  have b3 : bigI (-7 / 3) = false := tb_big (m := 1) (by decide) (by decide)
  have d1 : dv1 (mkI (-7)) (mkI 3) = mkI (-3) := by unfold dv1; rw [iv_mk, iv_mk, if_neg (by decide), b3]; rfl
  have d2 : dv2 (mkI (-7)) (mkI 3) = mkI 2 := by unfold dv2; rw [iv_mk, iv_mk, if_neg (by decide), b3]; rfl
  have d3 : dv3 (mkI (-7)) (mkI 3) = 0 := by unfold dv3; rw [iv_mk, iv_mk, if_neg (by decide), b3]; rfl
  have b16 : bigQ (Rat.divInt 1 6) = false := bigQ_of (a := 1) (d := 5) (m := 1) (by decide) (by decide) (by decide) (by decide)
  have q1 : pq1 (ba [49, 47, 54]) = mkQ (Rat.divInt 1 6) := by
    unfold pq1; rw [bl_ba, if_pos rd_16.1, rd_16.2]; unfold atq1
    rw [b16]; rfl
  have q2 : pq2 (ba [49, 47, 54]) = 0 := by
    unfold pq2; rw [bl_ba, if_pos rd_16.1, rd_16.2]; unfold atq2
    rw [b16]; rfl
  have m1 : mk1 1 3 = mkQ (Rat.divInt 1 3) := rfl
  have o1 : okQ (mkQ (Rat.divInt 1 3)) := okQ2_of (a := 1) (d := 2) (m := 1) (by decide) (by decide) (by decide)
  have o2 : okQ (mkQ (Rat.divInt 1 6)) := okQ2_of (a := 1) (d := 5) (m := 1) (by decide) (by decide) (by decide)
  have o3 : okQ (mkQ (Rat.divInt 1 2)) := okQ2_of (a := 1) (d := 1) (m := 1) (by decide) (by decide) (by decide)
  have bq : bigQ (Rat.divInt 1 2) = false := bigQ_of (a := 1) (d := 1) (m := 1) (by decide) (by decide) (by decide) (by decide)
  have a1 : aad1 (mkQ (Rat.divInt 1 3)) (mkQ (Rat.divInt 1 6)) = mkQ (Rat.divInt 1 2) := by
    unfold aad1 adQ; rw [qv_mkQ, qv_mkQ, sum_12]; unfold atq1; rw [bq]; rfl
  have a2 : aad2 (mkQ (Rat.divInt 1 3)) (mkQ (Rat.divInt 1 6)) = 0 := by
    unfold aad2 adQ; rw [qv_mkQ, qv_mkQ, sum_12]; unfold atq2; rw [bq]; rfl
  have t1 : (txtI (mkI (-3))).toList == { data := #[(45 : UInt8), (51 : UInt8)] : ByteArray }.toList := by
    rw [txtI_mk]
    show ((ba _).toList == (ba [45, 51]).toList) = true
    rw [ba_eq, show Lib.itoa (-3) = 45 :: Lib.decDigits 3 from rfl, dec_lt (by decide)]; decide
  have t2 : (txtI (mkI 2)).toList == { data := #[(50 : UInt8)] : ByteArray }.toList := by
    rw [txtI_mk]
    show ((ba _).toList == (ba [50]).toList) = true
    rw [ba_eq, show Lib.itoa 2 = Lib.decDigits 2 from rfl, dec_lt (by decide)]; decide
  have t3 : ((txtQ (mkQ (Rat.divInt 1 2))).toList == { data := #[(49 : UInt8), (47 : UInt8), (50 : UInt8)] : ByteArray }.toList) = true := by
    rw [txtQ_mk, txt_12]
    show ((ba _).toList == (ba [49, 47, 50]).toList) = true
    rw [ba_eq]; decide
  rw [p1, p2, q1, q2, m1, d1, d2, d3, a1, a2]
  have k7 := tb_okI b7 (by decide)
  have k3 : okI (mkI 3) := tb_okI (m := 1) (by decide) (by decide)
  refine ⟨by decide, by decide, ⟨k7, k3⟩, by decide, by decide, ⟨o1, o2⟩, Br_t rfl (Br_t rfl (Br_t rfl (Br_t rfl (Br_t rfl ⟨tb_okI (m := 1) (by decide) (by decide), Br_t t1 ⟨tb_okI (m := 1) (by decide) (by decide), Br_t t2 ⟨okQ_1 o3, ?_⟩⟩⟩))))⟩
  rw [t3]; rfl

end Ta
end
section
/- The laws: sums, quotients, order. -/
set_option linter.unusedVariables false
set_option linter.unusedSimpArgs false
set_option maxRecDepth 100000
namespace Ta
open Go Fw Go.Proofs Go.RowKit Pl

theorem not_t {b : Bool} (h : (!b) = false) : b = true := by simpa using h
theorem dv1_mk {n m : Int} {k : Nat} (hm : m ≠ 0) (hn : tb k n) (hk : k ≤ 10000) : dv1 (mkI n) (mkI m) = mkI (n / m) := by
  unfold dv1; rw [iv_mk, iv_mk, if_neg hm, tb_big (tb_div hn) hk]; rfl
theorem dv2_mk {n m : Int} {k : Nat} (hm : m ≠ 0) (hn : tb k n) (hk : k ≤ 10000) : dv2 (mkI n) (mkI m) = mkI (n % m) := by
  unfold dv2; rw [iv_mk, iv_mk, if_neg hm, tb_big (tb_div hn) hk]; rfl
theorem dv3_mk {n m : Int} {k : Nat} (hm : m ≠ 0) (hn : tb k n) (hk : k ≤ 10000) : dv3 (mkI n) (mkI m) = 0 := by
  unfold dv3; rw [iv_mk, iv_mk, if_neg hm, tb_big (tb_div hn) hk]; rfl
theorem dv_0 (n : Int) : dv1 (mkI n) (mkI 0) = mkI 0 ∧ dv2 (mkI n) (mkI 0) = mkI 0 ∧ dv3 (mkI n) (mkI 0) = 6 := by
  unfold dv1 dv2 dv3; rw [iv_mk, if_pos rfl, if_pos rfl, if_pos rfl]; exact ⟨rfl, rfl, rfl⟩
theorem tb_0 {k : Nat} (hk : 1 ≤ k) : tb k 0 := tb_small (by decide) hk
theorem beq0 {x : Int} (h : (ordI x 0 == 0) = true) : x = 0 := ordI_eq.1 (by simpa using h)
theorem bne0 {x : Int} (h : (ordI x 0 == 0) = false) : x ≠ 0 := fun h1 => by rw [ordI_eq.2 h1] at h; cases h
theorem ordI_swap (x y : Int) : ordI y x = -(ordI x y) := by unfold ordI; split <;> split <;> omega
theorem ordI_rg (x y : Int) : -1 ≤ ordI x y ∧ ordI x y ≤ 1 := by
  unfold ordI
  split
  · omega
  · split <;> omega
theorem tb_gcd {k : Nat} {n m : Int} (hn : tb k n) (hm : tb k m) : tb k ((Nat.gcd n.natAbs m.natAbs : Nat) : Int) := by
  unfold tb at *
  rw [Int.natAbs_natCast]
  rcases Nat.eq_zero_or_pos n.natAbs with h | h
  · rw [h, Nat.gcd_zero_left]; exact hm
  · exact Nat.lt_of_le_of_lt (Nat.gcd_le_left _ h) hn
/-! ### Roots -/
theorem itoa_fl (n : Int) : isFl (Lib.itoa n) = true ∧ parV (Lib.itoa n) = n := by
  unfold Lib.itoa
  split
  · rename_i h
    obtain ⟨h1, h2, h3, h4⟩ := dec_parts n.natAbs
    have hh := h4 (by omega)
    refine ⟨?_, ?_⟩
    · rw [isFl_eq, unsg_neg, h1, decide_eq_true h3, decide_eq_true hh]; rfl
    · unfold parV
      rw [if_pos (by rfl), unsg_neg, h2]; omega
  · rename_i h
    obtain ⟨h1, h2, h3, h4⟩ := dec_parts n.toNat
    have h45 : (Lib.decDigits n.toNat).head? ≠ some 45 := fun h0 => dec_no (n := n.toNat) (b := 45) (by decide) (List.mem_of_head? h0)
    have h48 : (Lib.decDigits n.toNat).head? ≠ some 48 ∨ Lib.decDigits n.toNat = [48] := by
      rcases Nat.eq_zero_or_pos n.toNat with h0 | h0
      · right; rw [h0, dec_lt (by decide)]; rfl
      · exact .inl (h4 h0)
    refine ⟨?_, ?_⟩
    · rw [isFl_eq, unsg_pos h45, h1, decide_eq_true h3]
      rcases h48 with h0 | h0
      · rw [decide_eq_true h0]; rfl
      · rw [decide_eq_true h0, Bool.or_true]; rfl
    · unfold parV
      rw [if_neg h45, unsg_pos h45, h2]; omega
theorem isF_txt (n : Int) : isF (ba (Lib.itoa n)) = true := by unfold isF; rw [bl_ba]; exact (itoa_fl n).1
theorem parS_txt (n : Int) : parS (ba (Lib.itoa n)) = n := by unfold parS; rw [bl_ba]; exact (itoa_fl n).2
theorem paR_txt (n : Int) : paR (ba (Lib.itoa n)) = mkR n := by rw [paR_f (isF_txt n), parS_txt]
theorem dec_len_mono : ∀ (n m : Nat), m ≤ n → (Lib.decDigits m).length ≤ (Lib.decDigits n).length := by
  intro n
  induction n using Nat.strongRecOn with
  | _ n ih =>
    intro m h
    by_cases hm : m < 10
    · rw [dec_lt hm]
      have := List.length_pos_iff.2 (dec_parts n).2.2.1
      simp only [List.length_singleton]; omega
    · rw [dec_ge hm, dec_ge (by omega : ¬ n < 10), List.length_append, List.length_append]
      have := ih (n / 10) (by omega) (m / 10) (by omega)
      simp only [List.length_singleton]; omega
theorem dec_len_tb {k : Nat} {n : Int} (h : tb k n) (hk : 1 ≤ k) : (Lib.itoa n).length ≤ k + 1 := by
  have key : ∀ (k m : Nat), m < 10 ^ (k + 1) → (Lib.decDigits m).length ≤ k + 1 := by
    intro k
    induction k with
    | zero => intro m h; rw [dec_lt (by simpa using h)]; simp
    | succ k ih =>
      intro m h
      by_cases hm : m < 10
      · rw [dec_lt hm]; simp
      · rw [dec_ge hm, List.length_append]
        have := ih (m / 10) (by have : 10 ^ (k + 1 + 1) = 10 ^ (k + 1) * 10 := rfl; omega)
        simp only [List.length_singleton]; omega
  obtain ⟨j, rfl⟩ : ∃ j, k = j + 1 := ⟨k - 1, by omega⟩
  unfold Lib.itoa tb at *
  split
  · have := key j n.natAbs h
    rw [List.length_cons]; omega
  · have := key j n.toNat (by omega)
    omega
theorem lenR_mk (n : Int) : lenR (mkR n).2.1 = (((Lib.decDigits n.natAbs).length : Nat) : Int) := by unfold lenR; rw [nr_mkR]
end Ta
end
section
/- The law TallyForms: contract. -/
set_option linter.unusedVariables false
set_option linter.unusedSimpArgs false
set_option maxRecDepth 100000
namespace Ta
open Go Fw Go.Proofs

def CF : Con := ⟨[I], [B], fun (x : Int × Unit) => Pl.rg64 x.1, fun _ => (true, ()), none⟩
def TF : Ctx := cT [(4, C75), (5, C48), (6, C45), (7, C46), (8, C82), (9, C69), (10, C52), (11, C18)]
theorem snd18 : Sound Tryd.prog 11 C18 := fn_sound (T := TH) (fn := Tryd.f11) (tokg (T := TH) ⟨snd19, snd24, snd25, snd37, snd45, snd46, snd64, snd75, snd82, trivial⟩ trivial trivial) Tryd.func11 (by kernel_rfl) H0 vc18 (by kernel_rfl)
theorem tokF : Tok Tryd.prog TF := tokg (T := TF) ⟨snd75, snd48, snd45, snd46, snd82, snd69, snd52, snd18, trivial⟩ trivial trivial

end Ta
end
section
/- The law TallyForms: every int64 as an integer. -/
set_option linter.unusedVariables false
set_option linter.unusedSimpArgs false
set_option maxRecDepth 100000
namespace Ta
open Go Fw Go.Proofs Pl

theorem vcF : ∀ x, CF.pre x → VC TF H0 Tryd.f3 CF x := by
  rintro ⟨(n : Int), ⟨⟩⟩ (hn : rg64 n)
  show ((-9223372036854775808 : Int) ≤ n ∧ n < (9223372036854775808 : Int)) ∧ Pl.okI (Pl.mkI n) ∧ Pl.okI (Pl.mkI n) ∧ (Pl.txtI (Pl.mkI n)).size ≤ (9000000000000000000 : Nat) ∧ Br (Pl.i64b (Pl.mkI n)) (Br (Pl.i64v (Pl.mkI n) == n) (Pl.okI (Pl.mkI n) ∧ Pl.rg64 n ∧ Pl.okZ (Pl.mkR n) ∧ Br ((Pl.txtI (Pl.mkI n)).toList == (Pl.txR (Pl.mkR n)).toList) (Br (Pl.pa2 (Pl.txtI (Pl.mkI n)) == (0 : Int)) ((Pl.okI (Pl.pa1 (Pl.txtI (Pl.mkI n))) ∧ Pl.okI (Pl.mkI n)) ∧ Br (Pl.cpI (Pl.pa1 (Pl.txtI (Pl.mkI n))) (Pl.mkI n) == (0 : Int)) (True ∧ (true, ()) = CF.post (n, ())) ((false, ()) = CF.post (n, ()))) ((false, ()) = CF.post (n, ()))) ((false, ()) = CF.post (n, ()))) ((false, ()) = CF.post (n, ()))) ((false, ()) = CF.post (n, ()))
  have hn' : (-9223372036854775808 : Int) ≤ n ∧ n < 9223372036854775808 := hn
  have b : tb 19 n := by
    show n.natAbs < 10 ^ 19
    have : (10 : Nat) ^ 19 = 10000000000000000000 := by decide
    omega
  have okn : okI (mkI n) := tb_okI b (by decide)
  have hl := dec_len_tb b (by decide)
  have hsz : (ba (Lib.itoa n)).size ≤ 20 := by rw [size_ba]; omega
  have hF := isF_txt n
  have p1 : pa1 (ba (Lib.itoa n)) = mkI n := by
    unfold pa1; rw [if_pos ⟨hF, by omega⟩, parS_txt, att1_tb b (by decide)]
  have p2 : pa2 (ba (Lib.itoa n)) = 0 := by
    unfold pa2; rw [if_pos hF, if_pos (by omega), parS_txt, att2_tb b (by decide)]
  have i6 : i64b (mkI n) = true := by
    show Pl.in64 (iv (mkI n)) = true
    rw [iv_mk]; exact decide_eq_true hn'
  have i7 : i64v (mkI n) = n := by
    have h2 : Pl.in64 (iv (mkI n)) = true := i6
    unfold i64v; rw [if_pos h2, iv_mk]
  have tx : txR (mkR n) = ba (Lib.itoa n) := by unfold txR; rw [zv_mk]
  rw [i6, i7, txtI_mk, p1, p2, tx, cpI_mk]
  refine ⟨hn', okn, okn, by omega, Br_t rfl (Br_t (by simp) ⟨okn, hn, okZ_64 hn, Br_t (by simp) (Br_t rfl ⟨⟨okn, okn⟩, Br_t ?_ ⟨trivial, rfl⟩⟩)⟩)⟩
  rw [ordI_self]; rfl

theorem snd3 : Sound Tryd.prog 3 CF := fn_sound (T := TF) (fn := Tryd.f3) tokF Tryd.func3 (by kernel_rfl) H0 vcF (by kernel_rfl)

end Ta
end
section
/- From the row's premises to the tables that the framework asks for; the bridge for a row with laid tables in a shaped world. -/
namespace Go.Proofs.YtfggmdgegfadkaaDoor
open Go.ChangeShapes Go.WideShapes Go.ChangeAt Go.ChangeMaps Go.RowKit
set_option linter.unusedVariables false

theorem handed_laid {H : Type} {enc : TypeId × Value → H} {a : Assume} {C : Checked} {os : Os} {f : FuncId} {fn : Func} {s : ChangeSpec} {conds : List PathCond} {apart fresh handsOn again : Bool} {X : World → Array Value → Prop}
    (hX : ∀ (w w' : World) (args : Array Value), w.heap = w'.heap → X w args → X w' args)
    (own : ownKnob C.prog.godebug = none) (started : os.Started) (noInit : C.prog.inits.idxOf? f = none) (hfn : C.prog.funcs[f]? = some fn)
    (witness : ∃ (w : World) (tape : Tape) (i : Input), w.os = os ∧ (w.forCall tape i).Shaped C.prog ∧ i.vars = [] ∧ Input.okWide C.prog (w.forCall tape i) .any w.heap.size f i ∧
      ((s.pre enc C.prog fn conds apart (w.forCall tape i).memory i.args ∧ X (w.forCall tape i).memory i.args) ∧ sizedMet enc C.prog fn (OpenSpec.ofChange s) apart (w.forCall tape i).memory i.args) ∧ a.holds C.prog (lone (Frame.enter C.prog f i.args .normal) [] (w.forCall tape i)))
    (contract : ∀ (W : World) (base : Nat) (args : Array Value) (ds gs : List (DataW H)) (before : List MemPlace),
      (∀ (j : Nat) t v, fn.params[j]? = some t → args[j]? = some v → Value.okWide C.prog W .any base t v) →
      DataW.Whole enc C.prog fn.params.toList s.vars apart W args.toList ds gs before →
      conds.all (PathCond.test C.prog ⟨fn.params.toList, ds, s.plain.varTypes C.prog, gs⟩) = true →
      (DataW.weightsEach C.prog (fn.params.toList ++ s.plain.varTypes C.prog) (ds ++ gs)).all (· ≤ reachBytes) = true → X W args →
      W.ShapedOpen C.prog →
      Calls C.prog f args W fun e W' => ∃ v, e = .returned v ∧ s.post enc C.prog fn apart fresh handsOn again W args v W') :
    ReturnsInHanded a C os f .any (fun w args => (s.pre enc C.prog fn conds apart w args ∧ X w args) ∧ sizedMet enc C.prog fn (OpenSpec.ofChange s) apart w args) (s.post enc C.prog fn apart fresh handsOn again) := by
  refine returnsInHanded_of_calls own started noInit witness ?_
  intro w tape i _ hsh _ hok hpre _
  obtain ⟨_, _, _, fn', hfn', _, _, _, _, hval⟩ := hok
  have e : fn' = fn := Option.some.inj (hfn'.symm.trans hfn)
  subst e
  obtain ⟨⟨⟨ds, gs, before, hw, hc⟩, hx⟩, hz⟩ := hpre
  have hw' := DataW.Whole.of_heap (w' := w.forCall tape i) (by rfl) hw
  refine (contract (w.forCall tape i) w.heap.size i.args ds gs before hval hw' hc (hz.weights hw) (hX _ _ _ (by rfl) hx) hsh).mono fun e W' ⟨v, he, hp⟩ => ?_
  subst he
  exact ChangeSpec.post_blind hp

def laids : List (String × DataW Unit) := [("math/bits.deBruijn32tab", Rows.laid_math_bits_deBruijn32tab), ("math/bits.deBruijn64tab", Rows.laid_math_bits_deBruijn64tab), ("internal/strconv.uint64pow10", Rows.laid_internal_strconv_uint64pow10)]
theorem g3 : Tryd.prog.globalNamed "internal/strconv.uint64pow10" = some 2 := by kernel_rfl
theorem t3 : (Tryd.prog.globals[2]?).map (·.type) = some 121 := by kernel_rfl
theorem pow_data : (Rows.laid_internal_strconv_uint64pow10 : DataW Unit) = Lib.tabData .u64 Lib.pow10Tab := by kernel_rfl
/-- The tables that the framework asks for. -/
theorem gok {W : World} (hL : laidMetH Tryd.prog laids W) (hsh : W.ShapedOpen Tryd.prog) : Fw.GOK W := by
  constructor
  · rw [MakeChecks.laidMetH_plain _ _ _ (by kernel_rfl)] at hL
    obtain ⟨ps, ⟨_, _, _, _, _, _, _, _, _, _, ⟨_, _, _, _, _, _, _, _, _, _, ⟨g, t, cs, fuel, p, q, hg, ht, hvar, hd, _, _⟩, _⟩, _⟩, _⟩ := hL
    obtain rfl := Option.some.inj (g3.symm.trans hg)
    obtain rfl := Option.some.inj (t3.symm.trans ht)
    rw [pow_data] at hd
    have hcs := Lib.cells_of_tab Tryd.underlying121 Tryd.underlying44 (by kernel_rfl) (by kernel_rfl) hd
    unfold World.var? at hvar
    rw [g3] at hvar
    simp only [Option.bind_some] at hvar
    split at hvar
    · rename_i cs' ty fr hh
      have := Option.some.inj hvar
      subst this
      refine ⟨ty, fr, ?_⟩
      rw [hh, ← hcs]
    · cases hvar
  · obtain ⟨s0, hs⟩ := cell_of_shapedOpen_int (P := Tryd.prog) (g := 3) (t := 3) (zero := #[.int .i64 0]) hsh (of_decide_eq_true (by kernel_rfl)) (by kernel_rfl) rfl (by kernel_rfl) (by kernel_rfl) Tryd.underlying3
    exact ⟨s0, hs⟩

end Go.Proofs.YtfggmdgegfadkaaDoor
end
section
/- The bridge for a row with a condition, laid tables and a shaped world; pairs. -/
namespace Go.Proofs.YtfggmdgegfadkaaDoor
open Go.ChangeShapes Go.WideShapes Go.ChangeAt Go.ChangeMaps Go.RowKit
set_option linter.unusedVariables false

theorem handed_cond {H : Type} {enc : TypeId × Value → H} {a : Assume} {C : Checked} {os : Os} {f : FuncId} {fn : Func} {s : OpenSpec} {k : (H : Type) → List (DataW H) → Bool} (hk : s.cond = some k) {F : Stop.Interp} {conds : List PathCond} {apart fresh handsOn again : Bool} {X : World → Array Value → Prop}
    (hX : ∀ (w w' : World) (args : Array Value), w.heap = w'.heap → X w args → X w' args)
    (own : ownKnob C.prog.godebug = none) (started : os.Started) (noInit : C.prog.inits.idxOf? f = none) (hfn : C.prog.funcs[f]? = some fn)
    (witness : ∃ (w : World) (tape : Tape) (i : Input), w.os = os ∧ (w.forCall tape i).Shaped C.prog ∧ i.vars = [] ∧ Input.okWide C.prog (w.forCall tape i) .any w.heap.size f i ∧
      ((s.pre enc C.prog fn conds apart (w.forCall tape i).memory i.args ∧ X (w.forCall tape i).memory i.args) ∧ sizedMet enc C.prog fn s apart (w.forCall tape i).memory i.args) ∧ a.holds C.prog (lone (Frame.enter C.prog f i.args .normal) [] (w.forCall tape i)))
    (contract : ∀ (W : World) (base : Nat) (args : Array Value) (ds gs : List (DataW H)) (before : List MemPlace),
      (∀ (j : Nat) t v, fn.params[j]? = some t → args[j]? = some v → Value.okWide C.prog W .any base t v) →
      DataW.Whole enc C.prog fn.params.toList s.vars apart W args.toList ds gs before →
      conds.all (PathCond.test C.prog ⟨fn.params.toList, ds, s.bare.plain.varTypes C.prog, gs⟩) = true → k H (ds ++ gs) = true → X W args →
      W.ShapedOpen C.prog →
      Calls C.prog f args W fun e W' => ∃ v, e = .returned v ∧ (s.at F).post enc C.prog fn apart fresh handsOn again W args v W') :
    ReturnsInHanded a C os f .any (fun w args => (s.pre enc C.prog fn conds apart w args ∧ X w args) ∧ sizedMet enc C.prog fn s apart w args) ((s.at F).post enc C.prog fn apart fresh handsOn again) := by
  refine returnsInHanded_of_calls own started noInit witness ?_
  intro w tape i _ hsh _ hok hpre _
  obtain ⟨_, _, _, fn', hfn', _, _, _, _, hval⟩ := hok
  have e : fn' = fn := Option.some.inj (hfn'.symm.trans hfn)
  subst e
  obtain ⟨⟨hp, hx⟩, hz⟩ := hpre
  obtain ⟨ds, gs, before, hw, hc, hkk⟩ := (OpenSpec.pre_some hk conds apart _ _).1 hp
  have hw' := DataW.Whole.of_heap (w' := w.forCall tape i) (by rfl) hw
  refine (contract (w.forCall tape i) w.heap.size i.args ds gs before hval hw' hc hkk (hX _ _ _ (by rfl) hx) hsh).mono fun e W' ⟨v, he, hp⟩ => ?_
  subst he
  exact ChangeSpec.post_blind hp

theorem witness_cond {H : Type} {enc : TypeId × Value → H} {C : Checked} {os : Os} {f : FuncId} {fn : Func} {s : OpenSpec} {k : (H : Type) → List (DataW H) → Bool} (hk : s.cond = some k) {conds : List PathCond} {apart : Bool} {X : World → Array Value → Prop} (modest : Bool) (w0 : World) (args : Array Value) (fuel : Nat) (hos : w0.os = os)
    (hsh : (w0.forCall (fun _ _ => 0) ⟨#[], args, []⟩).Shaped C.prog)
    (hok : Input.okWideB C.prog (w0.forCall (fun _ _ => 0) ⟨#[], args, []⟩) f ⟨#[], args, []⟩ = true)
    {x : List (DataW H) × List (DataW H) × List MemPlace} (hxx : DataW.whole enc C.prog (w0.forCall (fun _ _ => 0) ⟨#[], args, []⟩).memory fn.params.toList s.vars apart args.toList fuel = some x)
    (hconds : conds.all (PathCond.test C.prog ⟨fn.params.toList, x.1, s.bare.plain.varTypes C.prog, x.2.1⟩) = true) (hkk : k H (x.1 ++ x.2.1) = true)
    (hsz : s.bare.sizedB enc C.prog fn apart (w0.forCall (fun _ _ => 0) ⟨#[], args, []⟩).memory args fuel = true)
    (hx : X (w0.forCall (fun _ _ => 0) ⟨#[], args, []⟩).memory args) :
    ∃ (w : World) (tape : Tape) (i : Input), w.os = os ∧ (w.forCall tape i).Shaped C.prog ∧ i.vars = [] ∧ Input.okWide C.prog (w.forCall tape i) .any w.heap.size f i ∧
      ((s.pre enc C.prog fn conds apart (w.forCall tape i).memory i.args ∧ X (w.forCall tape i).memory i.args) ∧ sizedMet enc C.prog fn s apart (w.forCall tape i).memory i.args) ∧ ({ modest := modest } : Assume).holds C.prog (lone (Frame.enter C.prog f i.args .normal) [] (w.forCall tape i)) :=
  ⟨w0, fun _ _ => 0, ⟨#[], args, []⟩, hos, hsh, (Input.okWide_of_okWideB (base := 0) hok).1, (Input.okWide_of_okWideB hok).2, ⟨⟨(OpenSpec.pre_some hk conds apart _ _).2 ⟨x.1, x.2.1, x.2.2, DataW.Whole_of_whole hxx, hconds, hkk⟩, hx⟩, sizedMet_of_sizedB hsz⟩, by
    simp only [Assume.holds]
    exact ⟨by simp, by simp, fun _ => Modest.zero, by simp, by simp⟩⟩

end Go.Proofs.YtfggmdgegfadkaaDoor
end
