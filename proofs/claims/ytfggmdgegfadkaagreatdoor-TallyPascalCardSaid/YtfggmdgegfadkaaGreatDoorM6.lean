import Derived.Lib.LaidTab
import Derived.HandedShaped
import Derived.WalkKit
import Derived.ProofKit
import Derived.OpenShut
import Derived.Below
import Derived.Lay
import Derived.Shelf.Vars
import Derived.SevenTiedAt
import Derived.JoinedCond
import Derived.WideKeyPair
import Derived.Test.YtfggmdgegfadkaaGreatDoorRows
import Derived.Test.YtfggmdgegfadkaaGreatDoorM5
section
/- The laws: fractions of integers, sizes; all laws are sound. -/
set_option linter.unusedVariables false
set_option linter.unusedSimpArgs false
set_option maxRecDepth 100000
set_option exponentiation.threshold 6000000
namespace Ta
open Go Fw Go.Proofs Go.RowKit Pl

theorem mkz_mk (n m : Int) : mkz (mkI n) (mkI m) = mk1 n m ∧ mkz2 (mkI m) = mk2 m := by unfold mkz mkz2; rw [iv_mk, iv_mk]; exact ⟨rfl, rfl⟩
theorem mk1_ne {n m : Int} (h : m ≠ 0) : mk1 n m = mkQ (Rat.divInt n m) ∧ mk2 m = 0 := by unfold mk1 mk2; rw [if_neg h, if_neg h]; exact ⟨rfl, rfl⟩
theorem mk1_0 (n : Int) : mk1 n 0 = mkQ 0 ∧ mk2 0 = 6 := ⟨rfl, rfl⟩
theorem tail4 {s t : ByteArray} {X F : Prop} (hX : X) (hs : sz s) (ht : sz t) : sz s ∧ sz t ∧ Br (!whB s) (True ∧ X) (Br (!whB t) (True ∧ X) ((okI (pa1 s) ∧ okI (pa1 t)) ∧ okY (paR t) ∧
    Br (sgR (paR t) == (0 : Int)) (Br (mkz2 (pa1 t) == (6 : Int)) (okQ2 (mkz (pa1 s) (pa1 t)) ∧ Br ((txtQ (mkz (pa1 s) (pa1 t))).toList == (ByteArray.mk #[(48 : UInt8)]).toList) (True ∧ X) F) F)
      (Br (mkz2 (pa1 t) == (0 : Int)) ((okZ (paR s) ∧ okZ (paR t) ∧ (paR t).snd.1 ≠ []) ∧ (okQ2 (mkz (pa1 s) (pa1 t)) ∧ okRQ (raR (paR s) (paR t))) ∧ Br (eqB (mkz (pa1 s) (pa1 t)) (raR (paR s) (paR t))) (True ∧ X) F) F))) := by
  refine ⟨hs, ht, Br_of (fun h => ⟨trivial, hX⟩) (fun h => Br_of (fun k => ⟨trivial, hX⟩) (fun k => ?_))⟩
  obtain ⟨n, e1, e2, bn⟩ := whole_ok (not_t h)
  obtain ⟨m, f1, f2, bm⟩ := whole_ok (not_t k)
  have i1 := tb_okI bn (by decide)
  have i2 := tb_okI bm (by decide)
  have z1 := tb_okZ bn (by decide)
  have z2 := tb_okZ bm (by decide)
  obtain ⟨k1, k2⟩ := mkz_mk n m
  rw [e1, e2, f1, f2, k1, k2, sgR_mk]
  refine ⟨⟨i1, i2⟩, okZ_Y z2, Br_of (fun h0 => ?_) (fun h0 => ?_)⟩
  · have := beq0 h0
    subst this
    rw [(mk1_0 n).1, (mk1_0 n).2]
    exact Br_t rfl ⟨qb_okQ2 qb_0 (by decide), Br_t zero_txtQ ⟨trivial, hX⟩⟩
  · have hm := bne0 h0
    obtain ⟨q1, q2⟩ := mk1_ne (n := n) hm
    have qq := qb_div bn bm hm
    have hr : raR (mkR n) (mkR m) = mkRQ (Rat.divInt n m) := by unfold raR; rw [zv_mk, zv_mk]
    rw [q1, q2, hr, eqB_mk']
    exact Br_t rfl ⟨⟨z1, z2, mkR_ne hm⟩, ⟨qb_okQ2 qq (by decide), qb_okRQ qq (by decide)⟩, Br_t (decide_eq_true rfl) ⟨trivial, hX⟩⟩
theorem vc4 : ∀ x, C4.pre x → VC TL H0 Tryz.f4 C4 x := by
  rintro ⟨D', (s : ByteArray), (t : ByteArray), ⟨⟩⟩ ⟨⟨a, b, rfl, ha, hb⟩, (hs : sz s), (ht : sz t)⟩
  refine cast (α := let v1 := Pl.mkz2 (Pl.pa1 t) == (0 : Int); let v2 := Pl.mkz2 (Pl.pa1 t) == (6 : Int); let v3 := Pl.sgR (Pl.paR t) == (0 : Int); let v4 := (ByteArray.mk #[(48 : UInt8)]).toList; let v5 := (Pl.txtQ (Pl.mkz (Pl.pa1 s) (Pl.pa1 t))).toList == v4; Br (decide ((0 : Int) = (↑(0 : Nat) : Int))) (Br (decide ((1 : Int) = (↑(0 : Nat) : Int))) ((((-9223372036854775808 : Int) ≤ a ∧ a < (9223372036854775808 : Int)) ∧ (-9223372036854775808 : Int) ≤ a ∧ a < (9223372036854775808 : Int)) ∧ Br (a == (0 : Int)) (Br (Pl.mk2 a != (6 : Int)) ((false, ()) = C4.post (D.agg [D.int IntKind.i64 a, D.int IntKind.i64 b], s, t, ())) (Pl.okQ2 (Pl.mk1 a a) ∧ Br (!(Pl.txtQ (Pl.mk1 a a)).toList == v4) ((false, ()) = C4.post (D.agg [D.int IntKind.i64 a, D.int IntKind.i64 b], s, t, ())) (Pl.sz s ∧ Pl.sz t ∧ Br (!Pl.whB s) (True ∧ (true, ()) = C4.post (D.agg [D.int IntKind.i64 a, D.int IntKind.i64 b], s, t, ())) (Br (!Pl.whB t) (True ∧ (true, ()) = C4.post (D.agg [D.int IntKind.i64 a, D.int IntKind.i64 b], s, t, ())) ((Pl.okI (Pl.pa1 s) ∧ Pl.okI (Pl.pa1 t)) ∧ Pl.okY (Pl.paR t) ∧ Br v3 (Br v2 (Pl.okQ2 (Pl.mkz (Pl.pa1 s) (Pl.pa1 t)) ∧ Br v5 (True ∧ (true, ()) = C4.post (D.agg [D.int IntKind.i64 a, D.int IntKind.i64 b], s, t, ())) ((false, ()) = C4.post (D.agg [D.int IntKind.i64 a, D.int IntKind.i64 b], s, t, ()))) ((false, ()) = C4.post (D.agg [D.int IntKind.i64 a, D.int IntKind.i64 b], s, t, ()))) (Br v1 ((Pl.okZ (Pl.paR s) ∧ Pl.okZ (Pl.paR t) ∧ (Pl.paR t).snd.1 ≠ []) ∧ (Pl.okQ2 (Pl.mkz (Pl.pa1 s) (Pl.pa1 t)) ∧ Pl.okRQ (Pl.raR (Pl.paR s) (Pl.paR t))) ∧ Br (Pl.eqB (Pl.mkz (Pl.pa1 s) (Pl.pa1 t)) (Pl.raR (Pl.paR s) (Pl.paR t))) (True ∧ (true, ()) = C4.post (D.agg [D.int IntKind.i64 a, D.int IntKind.i64 b], s, t, ())) ((false, ()) = C4.post (D.agg [D.int IntKind.i64 a, D.int IntKind.i64 b], s, t, ()))) ((false, ()) = C4.post (D.agg [D.int IntKind.i64 a, D.int IntKind.i64 b], s, t, ())))))))) (Br (Pl.mk2 a != (0 : Int)) ((false, ()) = C4.post (D.agg [D.int IntKind.i64 a, D.int IntKind.i64 b], s, t, ())) ((Pl.rg64 a ∧ Pl.rg64 a ∧ a ≠ (0 : Int)) ∧ (Pl.okQ2 (Pl.mk1 a a) ∧ Pl.okRQ (Pl.frR a a)) ∧ Br (!Pl.eqB (Pl.mk1 a a) (Pl.frR a a)) ((false, ()) = C4.post (D.agg [D.int IntKind.i64 a, D.int IntKind.i64 b], s, t, ())) (Pl.sz s ∧ Pl.sz t ∧ Br (!Pl.whB s) (True ∧ (true, ()) = C4.post (D.agg [D.int IntKind.i64 a, D.int IntKind.i64 b], s, t, ())) (Br (!Pl.whB t) (True ∧ (true, ()) = C4.post (D.agg [D.int IntKind.i64 a, D.int IntKind.i64 b], s, t, ())) ((Pl.okI (Pl.pa1 s) ∧ Pl.okI (Pl.pa1 t)) ∧ Pl.okY (Pl.paR t) ∧ Br v3 (Br v2 (Pl.okQ2 (Pl.mkz (Pl.pa1 s) (Pl.pa1 t)) ∧ Br v5 (True ∧ (true, ()) = C4.post (D.agg [D.int IntKind.i64 a, D.int IntKind.i64 b], s, t, ())) ((false, ()) = C4.post (D.agg [D.int IntKind.i64 a, D.int IntKind.i64 b], s, t, ()))) ((false, ()) = C4.post (D.agg [D.int IntKind.i64 a, D.int IntKind.i64 b], s, t, ()))) (Br v1 ((Pl.okZ (Pl.paR s) ∧ Pl.okZ (Pl.paR t) ∧ (Pl.paR t).snd.1 ≠ []) ∧ (Pl.okQ2 (Pl.mkz (Pl.pa1 s) (Pl.pa1 t)) ∧ Pl.okRQ (Pl.raR (Pl.paR s) (Pl.paR t))) ∧ Br (Pl.eqB (Pl.mkz (Pl.pa1 s) (Pl.pa1 t)) (Pl.raR (Pl.paR s) (Pl.paR t))) (True ∧ (true, ()) = C4.post (D.agg [D.int IntKind.i64 a, D.int IntKind.i64 b], s, t, ())) ((false, ()) = C4.post (D.agg [D.int IntKind.i64 a, D.int IntKind.i64 b], s, t, ()))) ((false, ()) = C4.post (D.agg [D.int IntKind.i64 a, D.int IntKind.i64 b], s, t, ()))))))))) (Br (decide ((1 : Int) = (↑(1 : Nat) : Int))) ((((-9223372036854775808 : Int) ≤ a ∧ a < (9223372036854775808 : Int)) ∧ (-9223372036854775808 : Int) ≤ b ∧ b < (9223372036854775808 : Int)) ∧ Br (b == (0 : Int)) (Br (Pl.mk2 b != (6 : Int)) ((false, ()) = C4.post (D.agg [D.int IntKind.i64 a, D.int IntKind.i64 b], s, t, ())) (Pl.okQ2 (Pl.mk1 a b) ∧ Br (!(Pl.txtQ (Pl.mk1 a b)).toList == v4) ((false, ()) = C4.post (D.agg [D.int IntKind.i64 a, D.int IntKind.i64 b], s, t, ())) (Pl.sz s ∧ Pl.sz t ∧ Br (!Pl.whB s) (True ∧ (true, ()) = C4.post (D.agg [D.int IntKind.i64 a, D.int IntKind.i64 b], s, t, ())) (Br (!Pl.whB t) (True ∧ (true, ()) = C4.post (D.agg [D.int IntKind.i64 a, D.int IntKind.i64 b], s, t, ())) ((Pl.okI (Pl.pa1 s) ∧ Pl.okI (Pl.pa1 t)) ∧ Pl.okY (Pl.paR t) ∧ Br v3 (Br v2 (Pl.okQ2 (Pl.mkz (Pl.pa1 s) (Pl.pa1 t)) ∧ Br v5 (True ∧ (true, ()) = C4.post (D.agg [D.int IntKind.i64 a, D.int IntKind.i64 b], s, t, ())) ((false, ()) = C4.post (D.agg [D.int IntKind.i64 a, D.int IntKind.i64 b], s, t, ()))) ((false, ()) = C4.post (D.agg [D.int IntKind.i64 a, D.int IntKind.i64 b], s, t, ()))) (Br v1 ((Pl.okZ (Pl.paR s) ∧ Pl.okZ (Pl.paR t) ∧ (Pl.paR t).snd.1 ≠ []) ∧ (Pl.okQ2 (Pl.mkz (Pl.pa1 s) (Pl.pa1 t)) ∧ Pl.okRQ (Pl.raR (Pl.paR s) (Pl.paR t))) ∧ Br (Pl.eqB (Pl.mkz (Pl.pa1 s) (Pl.pa1 t)) (Pl.raR (Pl.paR s) (Pl.paR t))) (True ∧ (true, ()) = C4.post (D.agg [D.int IntKind.i64 a, D.int IntKind.i64 b], s, t, ())) ((false, ()) = C4.post (D.agg [D.int IntKind.i64 a, D.int IntKind.i64 b], s, t, ()))) ((false, ()) = C4.post (D.agg [D.int IntKind.i64 a, D.int IntKind.i64 b], s, t, ())))))))) (Br (Pl.mk2 b != (0 : Int)) ((false, ()) = C4.post (D.agg [D.int IntKind.i64 a, D.int IntKind.i64 b], s, t, ())) ((Pl.rg64 a ∧ Pl.rg64 b ∧ b ≠ (0 : Int)) ∧ (Pl.okQ2 (Pl.mk1 a b) ∧ Pl.okRQ (Pl.frR a b)) ∧ Br (!Pl.eqB (Pl.mk1 a b) (Pl.frR a b)) ((false, ()) = C4.post (D.agg [D.int IntKind.i64 a, D.int IntKind.i64 b], s, t, ())) (Pl.sz s ∧ Pl.sz t ∧ Br (!Pl.whB s) (True ∧ (true, ()) = C4.post (D.agg [D.int IntKind.i64 a, D.int IntKind.i64 b], s, t, ())) (Br (!Pl.whB t) (True ∧ (true, ()) = C4.post (D.agg [D.int IntKind.i64 a, D.int IntKind.i64 b], s, t, ())) ((Pl.okI (Pl.pa1 s) ∧ Pl.okI (Pl.pa1 t)) ∧ Pl.okY (Pl.paR t) ∧ Br v3 (Br v2 (Pl.okQ2 (Pl.mkz (Pl.pa1 s) (Pl.pa1 t)) ∧ Br v5 (True ∧ (true, ()) = C4.post (D.agg [D.int IntKind.i64 a, D.int IntKind.i64 b], s, t, ())) ((false, ()) = C4.post (D.agg [D.int IntKind.i64 a, D.int IntKind.i64 b], s, t, ()))) ((false, ()) = C4.post (D.agg [D.int IntKind.i64 a, D.int IntKind.i64 b], s, t, ()))) (Br v1 ((Pl.okZ (Pl.paR s) ∧ Pl.okZ (Pl.paR t) ∧ (Pl.paR t).snd.1 ≠ []) ∧ (Pl.okQ2 (Pl.mkz (Pl.pa1 s) (Pl.pa1 t)) ∧ Pl.okRQ (Pl.raR (Pl.paR s) (Pl.paR t))) ∧ Br (Pl.eqB (Pl.mkz (Pl.pa1 s) (Pl.pa1 t)) (Pl.raR (Pl.paR s) (Pl.paR t))) (True ∧ (true, ()) = C4.post (D.agg [D.int IntKind.i64 a, D.int IntKind.i64 b], s, t, ())) ((false, ()) = C4.post (D.agg [D.int IntKind.i64 a, D.int IntKind.i64 b], s, t, ()))) ((false, ()) = C4.post (D.agg [D.int IntKind.i64 a, D.int IntKind.i64 b], s, t, ()))))))))) False)) (Br (decide ((0 : Int) = (↑(1 : Nat) : Int))) (Br (decide ((1 : Int) = (↑(0 : Nat) : Int))) ((((-9223372036854775808 : Int) ≤ b ∧ b < (9223372036854775808 : Int)) ∧ (-9223372036854775808 : Int) ≤ a ∧ a < (9223372036854775808 : Int)) ∧ Br (a == (0 : Int)) (Br (Pl.mk2 a != (6 : Int)) ((false, ()) = C4.post (D.agg [D.int IntKind.i64 a, D.int IntKind.i64 b], s, t, ())) (Pl.okQ2 (Pl.mk1 b a) ∧ Br (!(Pl.txtQ (Pl.mk1 b a)).toList == v4) ((false, ()) = C4.post (D.agg [D.int IntKind.i64 a, D.int IntKind.i64 b], s, t, ())) (Pl.sz s ∧ Pl.sz t ∧ Br (!Pl.whB s) (True ∧ (true, ()) = C4.post (D.agg [D.int IntKind.i64 a, D.int IntKind.i64 b], s, t, ())) (Br (!Pl.whB t) (True ∧ (true, ()) = C4.post (D.agg [D.int IntKind.i64 a, D.int IntKind.i64 b], s, t, ())) ((Pl.okI (Pl.pa1 s) ∧ Pl.okI (Pl.pa1 t)) ∧ Pl.okY (Pl.paR t) ∧ Br v3 (Br v2 (Pl.okQ2 (Pl.mkz (Pl.pa1 s) (Pl.pa1 t)) ∧ Br v5 (True ∧ (true, ()) = C4.post (D.agg [D.int IntKind.i64 a, D.int IntKind.i64 b], s, t, ())) ((false, ()) = C4.post (D.agg [D.int IntKind.i64 a, D.int IntKind.i64 b], s, t, ()))) ((false, ()) = C4.post (D.agg [D.int IntKind.i64 a, D.int IntKind.i64 b], s, t, ()))) (Br v1 ((Pl.okZ (Pl.paR s) ∧ Pl.okZ (Pl.paR t) ∧ (Pl.paR t).snd.1 ≠ []) ∧ (Pl.okQ2 (Pl.mkz (Pl.pa1 s) (Pl.pa1 t)) ∧ Pl.okRQ (Pl.raR (Pl.paR s) (Pl.paR t))) ∧ Br (Pl.eqB (Pl.mkz (Pl.pa1 s) (Pl.pa1 t)) (Pl.raR (Pl.paR s) (Pl.paR t))) (True ∧ (true, ()) = C4.post (D.agg [D.int IntKind.i64 a, D.int IntKind.i64 b], s, t, ())) ((false, ()) = C4.post (D.agg [D.int IntKind.i64 a, D.int IntKind.i64 b], s, t, ()))) ((false, ()) = C4.post (D.agg [D.int IntKind.i64 a, D.int IntKind.i64 b], s, t, ())))))))) (Br (Pl.mk2 a != (0 : Int)) ((false, ()) = C4.post (D.agg [D.int IntKind.i64 a, D.int IntKind.i64 b], s, t, ())) ((Pl.rg64 b ∧ Pl.rg64 a ∧ a ≠ (0 : Int)) ∧ (Pl.okQ2 (Pl.mk1 b a) ∧ Pl.okRQ (Pl.frR b a)) ∧ Br (!Pl.eqB (Pl.mk1 b a) (Pl.frR b a)) ((false, ()) = C4.post (D.agg [D.int IntKind.i64 a, D.int IntKind.i64 b], s, t, ())) (Pl.sz s ∧ Pl.sz t ∧ Br (!Pl.whB s) (True ∧ (true, ()) = C4.post (D.agg [D.int IntKind.i64 a, D.int IntKind.i64 b], s, t, ())) (Br (!Pl.whB t) (True ∧ (true, ()) = C4.post (D.agg [D.int IntKind.i64 a, D.int IntKind.i64 b], s, t, ())) ((Pl.okI (Pl.pa1 s) ∧ Pl.okI (Pl.pa1 t)) ∧ Pl.okY (Pl.paR t) ∧ Br v3 (Br v2 (Pl.okQ2 (Pl.mkz (Pl.pa1 s) (Pl.pa1 t)) ∧ Br v5 (True ∧ (true, ()) = C4.post (D.agg [D.int IntKind.i64 a, D.int IntKind.i64 b], s, t, ())) ((false, ()) = C4.post (D.agg [D.int IntKind.i64 a, D.int IntKind.i64 b], s, t, ()))) ((false, ()) = C4.post (D.agg [D.int IntKind.i64 a, D.int IntKind.i64 b], s, t, ()))) (Br v1 ((Pl.okZ (Pl.paR s) ∧ Pl.okZ (Pl.paR t) ∧ (Pl.paR t).snd.1 ≠ []) ∧ (Pl.okQ2 (Pl.mkz (Pl.pa1 s) (Pl.pa1 t)) ∧ Pl.okRQ (Pl.raR (Pl.paR s) (Pl.paR t))) ∧ Br (Pl.eqB (Pl.mkz (Pl.pa1 s) (Pl.pa1 t)) (Pl.raR (Pl.paR s) (Pl.paR t))) (True ∧ (true, ()) = C4.post (D.agg [D.int IntKind.i64 a, D.int IntKind.i64 b], s, t, ())) ((false, ()) = C4.post (D.agg [D.int IntKind.i64 a, D.int IntKind.i64 b], s, t, ()))) ((false, ()) = C4.post (D.agg [D.int IntKind.i64 a, D.int IntKind.i64 b], s, t, ()))))))))) (Br (decide ((1 : Int) = (↑(1 : Nat) : Int))) ((((-9223372036854775808 : Int) ≤ b ∧ b < (9223372036854775808 : Int)) ∧ (-9223372036854775808 : Int) ≤ b ∧ b < (9223372036854775808 : Int)) ∧ Br (b == (0 : Int)) (Br (Pl.mk2 b != (6 : Int)) ((false, ()) = C4.post (D.agg [D.int IntKind.i64 a, D.int IntKind.i64 b], s, t, ())) (Pl.okQ2 (Pl.mk1 b b) ∧ Br (!(Pl.txtQ (Pl.mk1 b b)).toList == v4) ((false, ()) = C4.post (D.agg [D.int IntKind.i64 a, D.int IntKind.i64 b], s, t, ())) (Pl.sz s ∧ Pl.sz t ∧ Br (!Pl.whB s) (True ∧ (true, ()) = C4.post (D.agg [D.int IntKind.i64 a, D.int IntKind.i64 b], s, t, ())) (Br (!Pl.whB t) (True ∧ (true, ()) = C4.post (D.agg [D.int IntKind.i64 a, D.int IntKind.i64 b], s, t, ())) ((Pl.okI (Pl.pa1 s) ∧ Pl.okI (Pl.pa1 t)) ∧ Pl.okY (Pl.paR t) ∧ Br v3 (Br v2 (Pl.okQ2 (Pl.mkz (Pl.pa1 s) (Pl.pa1 t)) ∧ Br v5 (True ∧ (true, ()) = C4.post (D.agg [D.int IntKind.i64 a, D.int IntKind.i64 b], s, t, ())) ((false, ()) = C4.post (D.agg [D.int IntKind.i64 a, D.int IntKind.i64 b], s, t, ()))) ((false, ()) = C4.post (D.agg [D.int IntKind.i64 a, D.int IntKind.i64 b], s, t, ()))) (Br v1 ((Pl.okZ (Pl.paR s) ∧ Pl.okZ (Pl.paR t) ∧ (Pl.paR t).snd.1 ≠ []) ∧ (Pl.okQ2 (Pl.mkz (Pl.pa1 s) (Pl.pa1 t)) ∧ Pl.okRQ (Pl.raR (Pl.paR s) (Pl.paR t))) ∧ Br (Pl.eqB (Pl.mkz (Pl.pa1 s) (Pl.pa1 t)) (Pl.raR (Pl.paR s) (Pl.paR t))) (True ∧ (true, ()) = C4.post (D.agg [D.int IntKind.i64 a, D.int IntKind.i64 b], s, t, ())) ((false, ()) = C4.post (D.agg [D.int IntKind.i64 a, D.int IntKind.i64 b], s, t, ()))) ((false, ()) = C4.post (D.agg [D.int IntKind.i64 a, D.int IntKind.i64 b], s, t, ())))))))) (Br (Pl.mk2 b != (0 : Int)) ((false, ()) = C4.post (D.agg [D.int IntKind.i64 a, D.int IntKind.i64 b], s, t, ())) ((Pl.rg64 b ∧ Pl.rg64 b ∧ b ≠ (0 : Int)) ∧ (Pl.okQ2 (Pl.mk1 b b) ∧ Pl.okRQ (Pl.frR b b)) ∧ Br (!Pl.eqB (Pl.mk1 b b) (Pl.frR b b)) ((false, ()) = C4.post (D.agg [D.int IntKind.i64 a, D.int IntKind.i64 b], s, t, ())) (Pl.sz s ∧ Pl.sz t ∧ Br (!Pl.whB s) (True ∧ (true, ()) = C4.post (D.agg [D.int IntKind.i64 a, D.int IntKind.i64 b], s, t, ())) (Br (!Pl.whB t) (True ∧ (true, ()) = C4.post (D.agg [D.int IntKind.i64 a, D.int IntKind.i64 b], s, t, ())) ((Pl.okI (Pl.pa1 s) ∧ Pl.okI (Pl.pa1 t)) ∧ Pl.okY (Pl.paR t) ∧ Br v3 (Br v2 (Pl.okQ2 (Pl.mkz (Pl.pa1 s) (Pl.pa1 t)) ∧ Br v5 (True ∧ (true, ()) = C4.post (D.agg [D.int IntKind.i64 a, D.int IntKind.i64 b], s, t, ())) ((false, ()) = C4.post (D.agg [D.int IntKind.i64 a, D.int IntKind.i64 b], s, t, ()))) ((false, ()) = C4.post (D.agg [D.int IntKind.i64 a, D.int IntKind.i64 b], s, t, ()))) (Br v1 ((Pl.okZ (Pl.paR s) ∧ Pl.okZ (Pl.paR t) ∧ (Pl.paR t).snd.1 ≠ []) ∧ (Pl.okQ2 (Pl.mkz (Pl.pa1 s) (Pl.pa1 t)) ∧ Pl.okRQ (Pl.raR (Pl.paR s) (Pl.paR t))) ∧ Br (Pl.eqB (Pl.mkz (Pl.pa1 s) (Pl.pa1 t)) (Pl.raR (Pl.paR s) (Pl.paR t))) (True ∧ (true, ()) = C4.post (D.agg [D.int IntKind.i64 a, D.int IntKind.i64 b], s, t, ())) ((false, ()) = C4.post (D.agg [D.int IntKind.i64 a, D.int IntKind.i64 b], s, t, ()))) ((false, ()) = C4.post (D.agg [D.int IntKind.i64 a, D.int IntKind.i64 b], s, t, ()))))))))) False)) False)) (by kernel_rfl) ?_
  intro v1 v2 v3 v4 v5
  have last := fun (F : Prop) => tail4 (F := F) (X := (true, ()) = C4.post (D.agg [D.int IntKind.i64 a, D.int IntKind.i64 b], s, t, ())) rfl hs ht
  refine Br_t (by decide) (Br_f (by decide) (Br_t (by decide) ⟨⟨ha, hb⟩, Br_of (fun h0 => ?_) (fun h0 => ?_)⟩))
  · have : b = 0 := by simpa using h0
    subst this
    rw [(mk1_0 a).1, (mk1_0 a).2]
    refine Br_f rfl ⟨qb_okQ2 qb_0 (by decide), Br_f ?_ (last _)⟩
    show (!((txtQ (mkQ 0)).toList == (ByteArray.mk #[(48 : UInt8)]).toList)) = false
    rw [zero_txtQ]; rfl
  · have hb0 : b ≠ 0 := by simpa using h0
    obtain ⟨q1, q2⟩ := mk1_ne (n := a) hb0
    have qq := qb_div (tb_64 ha) (tb_64 hb) hb0
    rw [q1, q2, show frR a b = mkRQ (Rat.divInt a b) from rfl, eqB_mk']
    exact Br_f rfl ⟨⟨ha, hb, hb0⟩, ⟨qb_okQ2 qq (by decide), qb_okRQ qq (by decide)⟩, Br_f (by simp) (last _)⟩

/-! ### Sizes -/
theorem big_pow (k : Nat) : bigI ((2 ^ k : Nat) : Int) = decide (40000 ≤ k) := by
  by_cases h : 40000 ≤ k
  · rw [decide_eq_true h]
    exact big_ge (by rw [Int.natAbs_natCast]; exact Nat.pow_le_pow_right (by decide) h)
  · rw [decide_eq_false h]
    exact big_lt (by rw [Int.natAbs_natCast]; exact Nat.pow_lt_pow_right (by decide) (by omega))
theorem tb_pow (k : Nat) : tb (k + 1) ((2 ^ k : Nat) : Int) := by
  unfold tb; rw [Int.natAbs_natCast]
  exact Nat.lt_of_le_of_lt (Nat.pow_le_pow_left (by decide : 2 ≤ 10) k) (Nat.pow_lt_pow_right (by decide) (by omega))
theorem att_pow (k : Nat) : att1 ((2 ^ k : Nat) : Int) = (if 40000 ≤ k then mkI 0 else mkI ((2 ^ k : Nat) : Int)) ∧ att2 ((2 ^ k : Nat) : Int) = (if 40000 ≤ k then 11 else 0) := by
  unfold att1 att2
  rw [big_pow]
  by_cases h : 40000 ≤ k
  · rw [decide_eq_true h, if_pos h, if_pos h]; exact ⟨rfl, rfl⟩
  · rw [decide_eq_false h, if_neg h, if_neg h]; exact ⟨rfl, rfl⟩
theorem p16 (m : Nat) : (16 : Int) ^ m = ((2 ^ (4 * m) : Nat) : Int) := by
  rw [Nat.pow_mul, Int.natCast_pow]; rfl
theorem pw_16 {m : Nat} (h : m ≤ 10000) : pw1 (mkI 16) (m : Int) = (if 40000 ≤ 4 * m then mkI 0 else mkI ((2 ^ (4 * m) : Nat) : Int)) ∧ pw2 (mkI 16) (m : Int) = (if 40000 ≤ 4 * m then 11 else 0) := by
  obtain ⟨h1, h2⟩ := att_pow (4 * m)
  have hg : ¬ ((m : Int) < 0 ∨ 10000 < (m : Int)) := by omega
  unfold pw1 pw2
  rw [if_neg hg, if_neg hg, iv_mk, Int.toNat_natCast, p16, h1, h2]
  exact ⟨rfl, rfl⟩
theorem att_sm {n : Int} (h : n.natAbs < 2 ^ 40000) : att1 n = mkI n ∧ att2 n = 0 := by unfold att1 att2; rw [big_lt h]; exact ⟨rfl, rfl⟩
theorem tail15 {m : Nat} (hm : m ≤ 9999) {X F : Prop} (hX : X) {P : Zv} (hP : P = mkI ((2 ^ (4 * m) : Nat) : Int)) {w : Int} (hw : w = ((4 * m + 4 : Nat) : Int)) :
    ((-9223372036854775808 : Int) ≤ (8 : Int) ∧ (8 : Int) < (9223372036854775808 : Int)) ∧ (okI P ∧ okI (mkI 8)) ∧ (okI (mu1 P (mkI 8)) ∧ okI (mu1 P (mkI 8))) ∧
      Br (!(ad2 (mu1 P (mkI 8)) (mu1 P (mkI 8)) == (11 : Int)) == decide (w ≥ (40000 : Int))) F
        (((-9223372036854775808 : Int) ≤ (1 : Int) ∧ (1 : Int) < (9223372036854775808 : Int)) ∧ (okI (mu1 P (mkI 8)) ∧ okI (mkI 1)) ∧ (okI (su1 (mu1 P (mkI 8)) (mkI 1)) ∧ okI (mu1 P (mkI 8))) ∧
          Br ((ad2 (su1 (mu1 P (mkI 8)) (mkI 1)) (mu1 P (mkI 8)) == (11 : Int)) == decide (w > (40000 : Int)))
            (Br (ad2 (mu1 P (mkI 8)) (mu1 P (mkI 8)) != (0 : Int)) X (Br (ad2 (su1 (mu1 P (mkI 8)) (mkI 1)) (mu1 P (mkI 8)) != (0 : Int)) X
              ((okI (ad1 (mu1 P (mkI 8)) (mu1 P (mkI 8))) ∧ okI (ad1 (su1 (mu1 P (mkI 8)) (mkI 1)) (mu1 P (mkI 8)))) ∧ Br (decide (cpI (ad1 (mu1 P (mkI 8)) (mu1 P (mkI 8))) (ad1 (su1 (mu1 P (mkI 8)) (mkI 1)) (mu1 P (mkI 8))) > (0 : Int))) X F))) F) := by
  subst hP hw
  have hU : ((2 ^ (4 * m) : Nat) : Int) * 8 = ((2 ^ (4 * m + 3) : Nat) : Int) := by rw [Nat.pow_add, Int.natCast_mul]; rfl
  have hV : ((2 ^ (4 * m + 3) : Nat) : Int) + ((2 ^ (4 * m + 3) : Nat) : Int) = ((2 ^ (4 * m + 4) : Nat) : Int) := by
    rw [Nat.pow_succ 2 (4 * m + 3)]; omega
  have u1 : att1 ((2 ^ (4 * m + 3) : Nat) : Int) = mkI ((2 ^ (4 * m + 3) : Nat) : Int) := by rw [(att_pow _).1, if_neg (by omega)]
  have up : 2 ^ (4 * m + 3) < 2 ^ 40000 := Nat.pow_lt_pow_right (by decide) (by omega)
  have vp : 2 ^ (4 * m + 4) ≤ 2 ^ 40000 := Nat.pow_le_pow_right (by decide) (by omega)
  have tU := tb_pow (4 * m + 3)
  have tV := tb_pow (4 * m + 4)
  have pos : 0 < 2 ^ (4 * m + 3) := Nat.pow_pos (by decide)
  have e4 : 2 ^ (4 * m + 4) = 2 ^ (4 * m + 3) * 2 := Nat.pow_succ ..
  rw [mu1_mk, hU, u1, ad1_mk, ad2_mk, su1_mk, hV]
  obtain ⟨a1, a2⟩ := att_pow (4 * m + 4)
  rw [a1, a2]
  obtain ⟨Z, hZ, sm⟩ : ∃ Z : Nat, Z = 2 ^ 40000 ∧ ∀ n : Int, n.natAbs < Z → att1 n = mkI n ∧ att2 n = 0 := ⟨2 ^ 40000, rfl, fun n h => att_sm h⟩
  rw [← hZ] at up vp
  clear hZ a1 a2 u1
  have tP := tb_pow (4 * m)
  generalize (2 ^ (4 * m) : Nat) = PP at hU tP ⊢
  generalize (2 ^ (4 * m + 4) : Nat) = V at hV vp tV e4 ⊢
  generalize (2 ^ (4 * m + 3) : Nat) = U at hU hV up tU pos e4 ⊢
  obtain ⟨s1, s2⟩ := sm ((U : Int) - 1) (by omega)
  obtain ⟨y1, y2⟩ := sm ((U : Int) - 1 + U) (by omega)
  rw [s1, ad1_mk, ad2_mk, y1, y2]
  have okU : okI (mkI (U : Int)) := tb_okI tU (by omega)
  have okV : okI (mkI (V : Int)) := tb_okI tV (by omega)
  have okU1 : okI (mkI ((U : Int) - 1)) := tb_okI (m := 4 * m + 3 + 1) (by unfold tb at *; omega) (by omega)
  have okY : okI (mkI ((U : Int) - 1 + U)) := tb_okI (m := 4 * m + 4 + 1) (by unfold tb at *; omega) (by omega)
  have okP : okI (mkI (PP : Int)) := tb_okI tP (by omega)
  have ok8 : okI (mkI 8) := tb_okI (m := 1) (by decide) (by decide)
  have ok1 : okI (mkI 1) := tb_okI (m := 1) (by decide) (by decide)
  have c2 : decide (((4 * m + 4 : Nat) : Int) > 40000) = false := decide_eq_false (by omega)
  rw [c2]
  by_cases h : 40000 ≤ 4 * m + 4
  · have c1 : decide (((4 * m + 4 : Nat) : Int) ≥ 40000) = true := decide_eq_true (by omega)
    rw [if_pos h, if_pos h, c1]
    exact ⟨by decide, ⟨okP, ok8⟩, ⟨okU, okU⟩, Br_f rfl ⟨by decide, ⟨okU, ok1⟩, ⟨okU1, okU⟩, Br_t rfl (Br_t rfl hX)⟩⟩
  · have c1 : decide (((4 * m + 4 : Nat) : Int) ≥ 40000) = false := decide_eq_false (by omega)
    rw [if_neg h, if_neg h, c1, cpI_mk]
    exact ⟨by decide, ⟨okP, ok8⟩, ⟨okU, okU⟩, Br_f rfl ⟨by decide, ⟨okU, ok1⟩, ⟨okU1, okU⟩, Br_t rfl (Br_f rfl (Br_f rfl ⟨⟨okV, okY⟩, Br_t (decide_eq_true (ordI_gt'.2 (by omega))) hX⟩))⟩⟩
theorem vc15 : ∀ x, C15.pre x → VC TL H0 Tryz.f15 C15 x := by
  rintro ⟨(i : Int), (k : Int), ⟨⟩⟩ ⟨(hi : rg64 i), (hk : rg64 k)⟩
  refine cast (α := let v1 := Pl.pw2 (Pl.mkI (16 : Int)) (IntKind.i64.wrap ((IntKind.u64.wrap i).tmod (10001 : Int))); let v2 := Pl.pw2 (Pl.mkI (16 : Int)) (IntKind.i64.wrap ((IntKind.u64.wrap k).tmod (10001 : Int))); let v3 := Pl.sgI (Pl.pw1 (Pl.mkI (16 : Int)) (IntKind.i64.wrap ((IntKind.u64.wrap k).tmod (10001 : Int)))); let v4 := (4 : Int) * IntKind.i64.wrap ((IntKind.u64.wrap i).tmod (10001 : Int)); let v5 := IntKind.i64.wrap v4 + (4 : Int); let v6 := (4 : Int) * IntKind.i64.wrap ((IntKind.u64.wrap k).tmod (10001 : Int)); let v7 := IntKind.i64.wrap ((IntKind.u64.wrap i).tmod (10001 : Int)) + IntKind.i64.wrap ((IntKind.u64.wrap k).tmod (10001 : Int)); let v8 := Pl.ad2 (Pl.mu1 (Pl.pw1 (Pl.mkI (16 : Int)) (IntKind.i64.wrap ((IntKind.u64.wrap i).tmod (10001 : Int)))) (Pl.mkI (8 : Int))) (Pl.mu1 (Pl.pw1 (Pl.mkI (16 : Int)) (IntKind.i64.wrap ((IntKind.u64.wrap i).tmod (10001 : Int)))) (Pl.mkI (8 : Int))); let v9 := Pl.ad2 (Pl.su1 (Pl.mu1 (Pl.pw1 (Pl.mkI (16 : Int)) (IntKind.i64.wrap ((IntKind.u64.wrap i).tmod (10001 : Int)))) (Pl.mkI (8 : Int))) (Pl.mkI (1 : Int))) (Pl.mu1 (Pl.pw1 (Pl.mkI (16 : Int)) (IntKind.i64.wrap ((IntKind.u64.wrap i).tmod (10001 : Int)))) (Pl.mkI (8 : Int))); let v10 := Pl.cpI (Pl.ad1 (Pl.mu1 (Pl.pw1 (Pl.mkI (16 : Int)) (IntKind.i64.wrap ((IntKind.u64.wrap i).tmod (10001 : Int)))) (Pl.mkI (8 : Int))) (Pl.mu1 (Pl.pw1 (Pl.mkI (16 : Int)) (IntKind.i64.wrap ((IntKind.u64.wrap i).tmod (10001 : Int)))) (Pl.mkI (8 : Int)))) (Pl.ad1 (Pl.su1 (Pl.mu1 (Pl.pw1 (Pl.mkI (16 : Int)) (IntKind.i64.wrap ((IntKind.u64.wrap i).tmod (10001 : Int)))) (Pl.mkI (8 : Int))) (Pl.mkI (1 : Int))) (Pl.mu1 (Pl.pw1 (Pl.mkI (16 : Int)) (IntKind.i64.wrap ((IntKind.u64.wrap i).tmod (10001 : Int)))) (Pl.mkI (8 : Int)))); (10001 : Int) ≠ (0 : Int) ∧ (10001 : Int) ≠ (0 : Int) ∧ ((-9223372036854775808 : Int) ≤ (16 : Int) ∧ (16 : Int) < (9223372036854775808 : Int)) ∧ (Pl.okI (Pl.mkI (16 : Int)) ∧ Pl.big (Pl.mkI (16 : Int)).1 = false) ∧ (Pl.okI (Pl.mkI (16 : Int)) ∧ Pl.big (Pl.mkI (16 : Int)).1 = false) ∧ Br (!(v1 == (11 : Int)) == decide (IntKind.i64.wrap v4 ≥ (40000 : Int))) ((false, ()) = C15.post (i, k, ())) (Br (!(v2 == (11 : Int)) == decide (IntKind.i64.wrap v6 ≥ (40000 : Int))) ((false, ()) = C15.post (i, k, ())) (Br (v1 != (0 : Int)) (Br (v1 == (0 : Int)) (Br (v2 == (0 : Int)) (True ∧ (true, ()) = C15.post (i, k, ())) (Pl.okI (Pl.pw1 (Pl.mkI (16 : Int)) (IntKind.i64.wrap ((IntKind.u64.wrap k).tmod (10001 : Int)))) ∧ Br (v3 == (0 : Int)) (True ∧ (true, ()) = C15.post (i, k, ())) ((false, ()) = C15.post (i, k, ())))) (Pl.okI (Pl.pw1 (Pl.mkI (16 : Int)) (IntKind.i64.wrap ((IntKind.u64.wrap i).tmod (10001 : Int)))) ∧ Br (Pl.sgI (Pl.pw1 (Pl.mkI (16 : Int)) (IntKind.i64.wrap ((IntKind.u64.wrap i).tmod (10001 : Int)))) == (0 : Int)) (Br (v2 == (0 : Int)) (True ∧ (true, ()) = C15.post (i, k, ())) (Pl.okI (Pl.pw1 (Pl.mkI (16 : Int)) (IntKind.i64.wrap ((IntKind.u64.wrap k).tmod (10001 : Int)))) ∧ Br (v3 == (0 : Int)) (True ∧ (true, ()) = C15.post (i, k, ())) ((false, ()) = C15.post (i, k, ())))) ((false, ()) = C15.post (i, k, ())))) (Br (v2 != (0 : Int)) (Br (v1 == (0 : Int)) (Br (v2 == (0 : Int)) (True ∧ (true, ()) = C15.post (i, k, ())) (Pl.okI (Pl.pw1 (Pl.mkI (16 : Int)) (IntKind.i64.wrap ((IntKind.u64.wrap k).tmod (10001 : Int)))) ∧ Br (v3 == (0 : Int)) (True ∧ (true, ()) = C15.post (i, k, ())) ((false, ()) = C15.post (i, k, ())))) (Pl.okI (Pl.pw1 (Pl.mkI (16 : Int)) (IntKind.i64.wrap ((IntKind.u64.wrap i).tmod (10001 : Int)))) ∧ Br (Pl.sgI (Pl.pw1 (Pl.mkI (16 : Int)) (IntKind.i64.wrap ((IntKind.u64.wrap i).tmod (10001 : Int)))) == (0 : Int)) (Br (v2 == (0 : Int)) (True ∧ (true, ()) = C15.post (i, k, ())) (Pl.okI (Pl.pw1 (Pl.mkI (16 : Int)) (IntKind.i64.wrap ((IntKind.u64.wrap k).tmod (10001 : Int)))) ∧ Br (v3 == (0 : Int)) (True ∧ (true, ()) = C15.post (i, k, ())) ((false, ()) = C15.post (i, k, ())))) ((false, ()) = C15.post (i, k, ())))) ((Pl.okI (Pl.pw1 (Pl.mkI (16 : Int)) (IntKind.i64.wrap ((IntKind.u64.wrap i).tmod (10001 : Int)))) ∧ Pl.okI (Pl.pw1 (Pl.mkI (16 : Int)) (IntKind.i64.wrap ((IntKind.u64.wrap k).tmod (10001 : Int))))) ∧ Br (decide (IntKind.i64.wrap (IntKind.i64.wrap v4 + IntKind.i64.wrap v6) ≥ (40000 : Int))) (Br (Pl.mu2 (Pl.pw1 (Pl.mkI (16 : Int)) (IntKind.i64.wrap ((IntKind.u64.wrap i).tmod (10001 : Int)))) (Pl.pw1 (Pl.mkI (16 : Int)) (IntKind.i64.wrap ((IntKind.u64.wrap k).tmod (10001 : Int)))) != (11 : Int)) ((false, ()) = C15.post (i, k, ())) (Pl.okI (Pl.mu1 (Pl.pw1 (Pl.mkI (16 : Int)) (IntKind.i64.wrap ((IntKind.u64.wrap i).tmod (10001 : Int)))) (Pl.pw1 (Pl.mkI (16 : Int)) (IntKind.i64.wrap ((IntKind.u64.wrap k).tmod (10001 : Int))))) ∧ Br (Pl.sgI (Pl.mu1 (Pl.pw1 (Pl.mkI (16 : Int)) (IntKind.i64.wrap ((IntKind.u64.wrap i).tmod (10001 : Int)))) (Pl.pw1 (Pl.mkI (16 : Int)) (IntKind.i64.wrap ((IntKind.u64.wrap k).tmod (10001 : Int))))) != (0 : Int)) ((false, ()) = C15.post (i, k, ())) (((-9223372036854775808 : Int) ≤ (8 : Int) ∧ (8 : Int) < (9223372036854775808 : Int)) ∧ (Pl.okI (Pl.pw1 (Pl.mkI (16 : Int)) (IntKind.i64.wrap ((IntKind.u64.wrap i).tmod (10001 : Int)))) ∧ Pl.okI (Pl.mkI (8 : Int))) ∧ (Pl.okI (Pl.mu1 (Pl.pw1 (Pl.mkI (16 : Int)) (IntKind.i64.wrap ((IntKind.u64.wrap i).tmod (10001 : Int)))) (Pl.mkI (8 : Int))) ∧ Pl.okI (Pl.mu1 (Pl.pw1 (Pl.mkI (16 : Int)) (IntKind.i64.wrap ((IntKind.u64.wrap i).tmod (10001 : Int)))) (Pl.mkI (8 : Int)))) ∧ Br (!(v8 == (11 : Int)) == decide (IntKind.i64.wrap v5 ≥ (40000 : Int))) ((false, ()) = C15.post (i, k, ())) (((-9223372036854775808 : Int) ≤ (1 : Int) ∧ (1 : Int) < (9223372036854775808 : Int)) ∧ (Pl.okI (Pl.mu1 (Pl.pw1 (Pl.mkI (16 : Int)) (IntKind.i64.wrap ((IntKind.u64.wrap i).tmod (10001 : Int)))) (Pl.mkI (8 : Int))) ∧ Pl.okI (Pl.mkI (1 : Int))) ∧ (Pl.okI (Pl.su1 (Pl.mu1 (Pl.pw1 (Pl.mkI (16 : Int)) (IntKind.i64.wrap ((IntKind.u64.wrap i).tmod (10001 : Int)))) (Pl.mkI (8 : Int))) (Pl.mkI (1 : Int))) ∧ Pl.okI (Pl.mu1 (Pl.pw1 (Pl.mkI (16 : Int)) (IntKind.i64.wrap ((IntKind.u64.wrap i).tmod (10001 : Int)))) (Pl.mkI (8 : Int)))) ∧ Br ((v9 == (11 : Int)) == decide (IntKind.i64.wrap v5 > (40000 : Int))) (Br (v8 != (0 : Int)) (True ∧ (true, ()) = C15.post (i, k, ())) (Br (v9 != (0 : Int)) (True ∧ (true, ()) = C15.post (i, k, ())) ((Pl.okI (Pl.ad1 (Pl.mu1 (Pl.pw1 (Pl.mkI (16 : Int)) (IntKind.i64.wrap ((IntKind.u64.wrap i).tmod (10001 : Int)))) (Pl.mkI (8 : Int))) (Pl.mu1 (Pl.pw1 (Pl.mkI (16 : Int)) (IntKind.i64.wrap ((IntKind.u64.wrap i).tmod (10001 : Int)))) (Pl.mkI (8 : Int)))) ∧ Pl.okI (Pl.ad1 (Pl.su1 (Pl.mu1 (Pl.pw1 (Pl.mkI (16 : Int)) (IntKind.i64.wrap ((IntKind.u64.wrap i).tmod (10001 : Int)))) (Pl.mkI (8 : Int))) (Pl.mkI (1 : Int))) (Pl.mu1 (Pl.pw1 (Pl.mkI (16 : Int)) (IntKind.i64.wrap ((IntKind.u64.wrap i).tmod (10001 : Int)))) (Pl.mkI (8 : Int))))) ∧ Br (decide (v10 > (0 : Int))) (True ∧ (true, ()) = C15.post (i, k, ())) ((false, ()) = C15.post (i, k, ()))))) ((false, ()) = C15.post (i, k, ())))))) ((Pl.okI (Pl.mkI (16 : Int)) ∧ Pl.big (Pl.mkI (16 : Int)).1 = false) ∧ Br (Pl.mu2 (Pl.pw1 (Pl.mkI (16 : Int)) (IntKind.i64.wrap ((IntKind.u64.wrap i).tmod (10001 : Int)))) (Pl.pw1 (Pl.mkI (16 : Int)) (IntKind.i64.wrap ((IntKind.u64.wrap k).tmod (10001 : Int)))) != (0 : Int)) ((false, ()) = C15.post (i, k, ())) (Br (Pl.pw2 (Pl.mkI (16 : Int)) (IntKind.i64.wrap v7) != (0 : Int)) ((false, ()) = C15.post (i, k, ())) ((Pl.okI (Pl.mu1 (Pl.pw1 (Pl.mkI (16 : Int)) (IntKind.i64.wrap ((IntKind.u64.wrap i).tmod (10001 : Int)))) (Pl.pw1 (Pl.mkI (16 : Int)) (IntKind.i64.wrap ((IntKind.u64.wrap k).tmod (10001 : Int))))) ∧ Pl.okI (Pl.pw1 (Pl.mkI (16 : Int)) (IntKind.i64.wrap v7))) ∧ Br (Pl.cpI (Pl.mu1 (Pl.pw1 (Pl.mkI (16 : Int)) (IntKind.i64.wrap ((IntKind.u64.wrap i).tmod (10001 : Int)))) (Pl.pw1 (Pl.mkI (16 : Int)) (IntKind.i64.wrap ((IntKind.u64.wrap k).tmod (10001 : Int))))) (Pl.pw1 (Pl.mkI (16 : Int)) (IntKind.i64.wrap v7)) != (0 : Int)) ((false, ()) = C15.post (i, k, ())) (((-9223372036854775808 : Int) ≤ (8 : Int) ∧ (8 : Int) < (9223372036854775808 : Int)) ∧ (Pl.okI (Pl.pw1 (Pl.mkI (16 : Int)) (IntKind.i64.wrap ((IntKind.u64.wrap i).tmod (10001 : Int)))) ∧ Pl.okI (Pl.mkI (8 : Int))) ∧ (Pl.okI (Pl.mu1 (Pl.pw1 (Pl.mkI (16 : Int)) (IntKind.i64.wrap ((IntKind.u64.wrap i).tmod (10001 : Int)))) (Pl.mkI (8 : Int))) ∧ Pl.okI (Pl.mu1 (Pl.pw1 (Pl.mkI (16 : Int)) (IntKind.i64.wrap ((IntKind.u64.wrap i).tmod (10001 : Int)))) (Pl.mkI (8 : Int)))) ∧ Br (!(v8 == (11 : Int)) == decide (IntKind.i64.wrap v5 ≥ (40000 : Int))) ((false, ()) = C15.post (i, k, ())) (((-9223372036854775808 : Int) ≤ (1 : Int) ∧ (1 : Int) < (9223372036854775808 : Int)) ∧ (Pl.okI (Pl.mu1 (Pl.pw1 (Pl.mkI (16 : Int)) (IntKind.i64.wrap ((IntKind.u64.wrap i).tmod (10001 : Int)))) (Pl.mkI (8 : Int))) ∧ Pl.okI (Pl.mkI (1 : Int))) ∧ (Pl.okI (Pl.su1 (Pl.mu1 (Pl.pw1 (Pl.mkI (16 : Int)) (IntKind.i64.wrap ((IntKind.u64.wrap i).tmod (10001 : Int)))) (Pl.mkI (8 : Int))) (Pl.mkI (1 : Int))) ∧ Pl.okI (Pl.mu1 (Pl.pw1 (Pl.mkI (16 : Int)) (IntKind.i64.wrap ((IntKind.u64.wrap i).tmod (10001 : Int)))) (Pl.mkI (8 : Int)))) ∧ Br ((v9 == (11 : Int)) == decide (IntKind.i64.wrap v5 > (40000 : Int))) (Br (v8 != (0 : Int)) (True ∧ (true, ()) = C15.post (i, k, ())) (Br (v9 != (0 : Int)) (True ∧ (true, ()) = C15.post (i, k, ())) ((Pl.okI (Pl.ad1 (Pl.mu1 (Pl.pw1 (Pl.mkI (16 : Int)) (IntKind.i64.wrap ((IntKind.u64.wrap i).tmod (10001 : Int)))) (Pl.mkI (8 : Int))) (Pl.mu1 (Pl.pw1 (Pl.mkI (16 : Int)) (IntKind.i64.wrap ((IntKind.u64.wrap i).tmod (10001 : Int)))) (Pl.mkI (8 : Int)))) ∧ Pl.okI (Pl.ad1 (Pl.su1 (Pl.mu1 (Pl.pw1 (Pl.mkI (16 : Int)) (IntKind.i64.wrap ((IntKind.u64.wrap i).tmod (10001 : Int)))) (Pl.mkI (8 : Int))) (Pl.mkI (1 : Int))) (Pl.mu1 (Pl.pw1 (Pl.mkI (16 : Int)) (IntKind.i64.wrap ((IntKind.u64.wrap i).tmod (10001 : Int)))) (Pl.mkI (8 : Int))))) ∧ Br (decide (v10 > (0 : Int))) (True ∧ (true, ()) = C15.post (i, k, ())) ((false, ()) = C15.post (i, k, ()))))) ((false, ()) = C15.post (i, k, ())))))))))))) (by kernel_rfl) ?_
  intro v1 v2 v3 v4 v5 v6 v7 v8 v9 v10
  obtain ⟨a1, a2⟩ := wrapmod i (m := 10001) (by decide) (by decide)
  obtain ⟨b1, b2⟩ := wrapmod k (m := 10001) (by decide) (by decide)
  obtain ⟨m, hI⟩ : ∃ m : Nat, IntKind.i64.wrap ((IntKind.u64.wrap i).tmod 10001) = (m : Int) := ⟨(IntKind.i64.wrap ((IntKind.u64.wrap i).tmod 10001)).toNat, by omega⟩
  obtain ⟨n, hK⟩ : ∃ n : Nat, IntKind.i64.wrap ((IntKind.u64.wrap k).tmod 10001) = (n : Int) := ⟨(IntKind.i64.wrap ((IntKind.u64.wrap k).tmod 10001)).toNat, by omega⟩
  rw [hI] at a2
  rw [hK] at b2
  obtain ⟨p1, p2⟩ := pw_16 (m := m) (by omega)
  obtain ⟨q1, q2⟩ := pw_16 (m := n) (by omega)
  have w4 : IntKind.i64.wrap v4 = ((4 * m : Nat) : Int) := by
    show IntKind.i64.wrap (4 * IntKind.i64.wrap ((IntKind.u64.wrap i).tmod 10001)) = _
    rw [hI, wrap_i64 (by omega) (by omega)]; omega
  have w6 : IntKind.i64.wrap v6 = ((4 * n : Nat) : Int) := by
    show IntKind.i64.wrap (4 * IntKind.i64.wrap ((IntKind.u64.wrap k).tmod 10001)) = _
    rw [hK, wrap_i64 (by omega) (by omega)]; omega
  have w46 : IntKind.i64.wrap (IntKind.i64.wrap v4 + IntKind.i64.wrap v6) = ((4 * m + 4 * n : Nat) : Int) := by
    rw [w4, w6, wrap_i64 (by omega) (by omega)]; omega
  have w5 : IntKind.i64.wrap v5 = ((4 * m + 4 : Nat) : Int) := by
    show IntKind.i64.wrap (IntKind.i64.wrap v4 + 4) = _
    rw [w4, wrap_i64 (by omega) (by omega)]; omega
  have w7 : IntKind.i64.wrap v7 = ((m + n : Nat) : Int) := by
    show IntKind.i64.wrap (IntKind.i64.wrap ((IntKind.u64.wrap i).tmod 10001) + IntKind.i64.wrap ((IntKind.u64.wrap k).tmod 10001)) = _
    rw [hI, hK, wrap_i64 (by omega) (by omega)]; omega
  have h1 : v1 = if 40000 ≤ 4 * m then 11 else 0 := by
    show pw2 (mkI 16) (IntKind.i64.wrap ((IntKind.u64.wrap i).tmod 10001)) = _
    rw [hI, p2]
  have h2 : v2 = if 40000 ≤ 4 * n then 11 else 0 := by
    show pw2 (mkI 16) (IntKind.i64.wrap ((IntKind.u64.wrap k).tmod 10001)) = _
    rw [hK, q2]
  obtain ⟨P, hP⟩ : ∃ P, P = pw1 (mkI 16) (IntKind.i64.wrap ((IntKind.u64.wrap i).tmod 10001)) := ⟨_, rfl⟩
  obtain ⟨Q, hQ⟩ : ∃ Q, Q = pw1 (mkI 16) (IntKind.i64.wrap ((IntKind.u64.wrap k).tmod 10001)) := ⟨_, rfl⟩
  have h3 : v3 = sgI Q := by rw [hQ]
  have P1 : P = if 40000 ≤ 4 * m then mkI 0 else mkI ((2 ^ (4 * m) : Nat) : Int) := by rw [hP, hI, p1]
  have Q1 : Q = if 40000 ≤ 4 * n then mkI 0 else mkI ((2 ^ (4 * n) : Nat) : Int) := by rw [hQ, hK, q1]
  have ok16 : okI (mkI 16) := tb_okI (m := 2) (by decide) (by decide)
  have bg16 : big (mkI 16).1 = false := by rw [big_mk]; exact tb_big (m := 2) (by decide) (by decide)
  have okP : okI P := by
    rw [P1]; split
    · exact okI_0
    · exact tb_okI (tb_pow _) (by omega)
  have okQ : okI Q := by
    rw [Q1]; split
    · exact okI_0
    · exact tb_okI (tb_pow _) (by omega)
  obtain ⟨X, hX⟩ : ∃ X, X = ((true, ()) = C15.post (i, k, ())) := ⟨_, rfl⟩
  have x0 : X := by rw [hX]; rfl
  have tK : Br (v2 == 0) (True ∧ (true, ()) = C15.post (i, k, ())) (okI Q ∧ Br (v3 == 0) (True ∧ (true, ()) = C15.post (i, k, ())) ((false, ()) = C15.post (i, k, ()))) := Br_of (fun _ => ⟨trivial, rfl⟩) (fun h => ⟨okQ, Br_t (by
    have : 40000 ≤ 4 * n := Classical.byContradiction fun h4 => by rw [h2, if_neg h4] at h; cases h
    rw [h3, Q1, if_pos this, sgI_mk]; rfl) ⟨trivial, rfl⟩⟩)
  have chk : ∀ {v : Int} {j : Nat} {w : Int}, v = (if 40000 ≤ 4 * j then 11 else 0) → w = ((4 * j : Nat) : Int) → (!((v == (11 : Int)) == decide (w ≥ (40000 : Int)))) = false := by
    intro v j w hv hw
    subst hv hw
    by_cases h : 40000 ≤ 4 * j
    · rw [if_pos h, decide_eq_true (by omega)]; rfl
    · rw [if_neg h, decide_eq_false (by omega)]; rfl
  rw [← hP, ← hQ]
  refine ⟨by decide, by decide, by decide, ⟨ok16, bg16⟩, ⟨ok16, bg16⟩, Br_f (chk h1 w4) (Br_f (chk h2 w6) (Br_of (fun h => ?_) (fun h => Br_of (fun h' => ?_) (fun h' => ?_))))⟩
  · have hb : 40000 ≤ 4 * m := Classical.byContradiction fun h4 => by rw [h1, if_neg h4] at h; cases h
    have hv : v1 = 11 := by rw [h1, if_pos hb]
    exact Br_f (by rw [hv]; rfl) ⟨okP, Br_t (by rw [P1, if_pos hb, sgI_mk]; rfl) tK⟩
  · have hb : ¬ 40000 ≤ 4 * m := fun h4 => by rw [h1, if_pos h4] at h; cases h
    have hv : v1 = 0 := by rw [h1, if_neg hb]
    exact Br_t (by rw [hv]; rfl) tK
  · have hm : ¬ 40000 ≤ 4 * m := fun h4 => by rw [h1, if_pos h4] at h; cases h
    have hn : ¬ 40000 ≤ 4 * n := fun h4 => by rw [h2, if_pos h4] at h'; cases h'
    rw [if_neg hm] at P1
    rw [if_neg hn] at Q1
    have last := fun (F : Prop) => tail15 (m := m) (by omega) (F := F) (X := True ∧ (true, ()) = C15.post (i, k, ())) ⟨trivial, rfl⟩ (hP ▸ P1) w5
    have pq : ((2 ^ (4 * m) : Nat) : Int) * ((2 ^ (4 * n) : Nat) : Int) = ((2 ^ (4 * m + 4 * n) : Nat) : Int) := by rw [Nat.pow_add, Int.natCast_mul]
    obtain ⟨c1, c2⟩ := att_pow (4 * m + 4 * n)
    have m1 : mu1 P Q = if 40000 ≤ 4 * m + 4 * n then mkI 0 else mkI ((2 ^ (4 * m + 4 * n) : Nat) : Int) := by rw [P1, Q1, mu1_mk, pq, c1]
    have m2 : mu2 P Q = if 40000 ≤ 4 * m + 4 * n then 11 else 0 := by rw [P1, Q1, mu2_mk, pq, c2]
    refine ⟨⟨okP, okQ⟩, Br_of (fun hc => ?_) (fun hc => ?_)⟩
    · have hs : 40000 ≤ 4 * m + 4 * n := by have := of_decide_eq_true hc; rw [w46] at this; omega
      rw [if_pos hs] at m1 m2
      have e1 : okI (mu1 P Q) := by rw [m1]; exact okI_0
      exact Br_f (by rw [m2]; rfl) ⟨e1, Br_f (by rw [m1, sgI_mk]; rfl) (by rw [hP]; exact last _)⟩
    · have hs : ¬ 40000 ≤ 4 * m + 4 * n := by have := of_decide_eq_false hc; rw [w46] at this; omega
      rw [if_neg hs] at m1 m2
      obtain ⟨r1, r2⟩ := pw_16 (m := m + n) (by omega)
      rw [if_neg (by omega), Nat.mul_add] at r1
      rw [if_neg (by omega)] at r2
      have e1 : okI (mu1 P Q) := by rw [m1]; exact tb_okI (tb_pow _) (by omega)
      exact ⟨⟨ok16, bg16⟩, Br_f (by rw [m2]; rfl) (Br_f (by rw [w7, r2]; rfl) ⟨⟨e1, by rw [w7, r1, ← m1]; exact e1⟩, Br_f (by rw [w7, r1, m1, cpI_mk, ordI_self]; rfl) (by rw [hP]; exact last _)⟩)⟩

theorem snd3 : Sound Tryz.prog 3 C3 := fn_sound (T := TL) (fn := Tryz.f3) tokL Tryz.func3 (by kernel_rfl) H0 vc3 (by kernel_rfl)
theorem snd4 : Sound Tryz.prog 4 C4 := fn_sound (T := TL) (fn := Tryz.f4) tokL Tryz.func4 (by kernel_rfl) H0 vc4 (by kernel_rfl)
theorem snd5 : Sound Tryz.prog 5 C5 := fn_sound (T := TL) (fn := Tryz.f5) tokL Tryz.func5 (by kernel_rfl) H0 vc5 (by kernel_rfl)
theorem snd6 : Sound Tryz.prog 6 C6 := fn_sound (T := TL) (fn := Tryz.f6) tokL Tryz.func6 (by kernel_rfl) H0 vc6 (by kernel_rfl)
theorem snd7 : Sound Tryz.prog 7 C7 := fn_sound (T := TL) (fn := Tryz.f7) tokL Tryz.func7 (by kernel_rfl) H0 vc7 (by kernel_rfl)
theorem snd8 : Sound Tryz.prog 8 C8 := fn_sound (T := TL) (fn := Tryz.f8) tokL Tryz.func8 (by kernel_rfl) H0 vc8 (by kernel_rfl)
theorem snd9 : Sound Tryz.prog 9 C9 := fn_sound (T := TL) (fn := Tryz.f9) tokL Tryz.func9 (by kernel_rfl) H0 vc9 (by kernel_rfl)
theorem snd10 : Sound Tryz.prog 10 C10 := fn_sound (T := TL) (fn := Tryz.f10) tokL Tryz.func10 (by kernel_rfl) H0 vc10 (by kernel_rfl)
theorem snd11 : Sound Tryz.prog 11 C11 := fn_sound (T := TL) (fn := Tryz.f11) tokL Tryz.func11 (by kernel_rfl) H11 vc11 (by kernel_rfl)
theorem snd12 : Sound Tryz.prog 12 C12 := fn_sound (T := TL) (fn := Tryz.f12) tokL Tryz.func12 (by kernel_rfl) H0 vc12 (by kernel_rfl)
theorem snd13 : Sound Tryz.prog 13 C13 := fn_sound (T := TL) (fn := Tryz.f13) tokL Tryz.func13 (by kernel_rfl) H0 vc13 (by kernel_rfl)
theorem snd14 : Sound Tryz.prog 14 C14 := fn_sound (T := TL) (fn := Tryz.f14) tokL Tryz.func14 (by kernel_rfl) H0 vc14 (by kernel_rfl)
theorem snd15 : Sound Tryz.prog 15 C15 := fn_sound (T := TL) (fn := Tryz.f15) tokL Tryz.func15 (by kernel_rfl) H0 vc15 (by kernel_rfl)
theorem snd16 : Sound Tryz.prog 16 C16 := fn_sound (T := TL) (fn := Tryz.f16) tokL Tryz.func16 (by kernel_rfl) H16 vc16 (by kernel_rfl)

end Ta
end
section
/- From the row's premises to the tables that the framework asks for; the bridge for a row with laid tables in a shaped world. -/
namespace Go.Proofs.YtfggmdgegfadkaaGreatDoor
open Go.ChangeShapes Go.WideShapes Go.ChangeAt Go.ChangeMaps Go.RowKit
set_option linter.unusedVariables false

theorem handed_laid {H : Type} {enc : TypeId × Value → H} {a : Assume} {C : Checked} {os : Os} {f : FuncId} {fn : Func} {s : ChangeSpec} {conds : List PathCond} {apart fresh handsOn again : Bool} {X : World → Array Value → Prop}
    (hX : ∀ (w w' : World) (args : Array Value), w.heap = w'.heap → X w args → X w' args)
    (own : ownKnob C.prog.godebug = none) (started : os.Started) (noInit : C.prog.inits.idxOf? f = none) (hfn : C.prog.funcs[f]? = some fn)
    (witness : ∃ (w : World) (tape : Tape) (i : Input), w.os = os ∧ (w.forCall tape i).Shaped C.prog ∧ i.vars = [] ∧ Input.okWide C.prog (w.forCall tape i) .any w.heap.size f i ∧
      ((s.pre enc C.prog fn conds apart (w.forCall tape i).memory i.args ∧ X (w.forCall tape i).memory i.args) ∧ sizedMet enc C.prog fn (OpenSpec.ofChange s) apart (w.forCall tape i).memory i.args) ∧ a.holds C.prog (lone (Frame.enter C.prog f i.args .normal) [] (w.forCall tape i)))
    (contract : ∀ (W : World) (base : Nat) (args : Array Value) (ds gs : List (DataW H)) (before : List MemPlace),
      (∀ (j : Nat) t v, fn.params[j]? = some t → args[j]? = some v → Value.okWide C.prog W .any base t v) →
      DataW.Whole enc C.prog fn.params.toList s.vars apart W args.toList ds gs before →
      conds.all (PathCond.test C.prog ⟨fn.params.toList, ds, s.plain.varTypes C.prog, gs⟩) = true →
      (DataW.weightsEach C.prog (fn.params.toList ++ s.plain.varTypes C.prog) (ds ++ gs)).all (· ≤ reachBytes) = true → X W args →
      W.ShapedOpen C.prog →
      Calls C.prog f args W fun e W' => ∃ v, e = .returned v ∧ s.post enc C.prog fn apart fresh handsOn again W args v W') :
    ReturnsInHanded a C os f .any (fun w args => (s.pre enc C.prog fn conds apart w args ∧ X w args) ∧ sizedMet enc C.prog fn (OpenSpec.ofChange s) apart w args) (s.post enc C.prog fn apart fresh handsOn again) := by
  refine returnsInHanded_of_calls own started noInit witness ?_
  intro w tape i _ hsh _ hok hpre _
  obtain ⟨_, _, _, fn', hfn', _, _, _, _, hval⟩ := hok
  have e : fn' = fn := Option.some.inj (hfn'.symm.trans hfn)
  subst e
  obtain ⟨⟨⟨ds, gs, before, hw, hc⟩, hx⟩, hz⟩ := hpre
  have hw' := DataW.Whole.of_heap (w' := w.forCall tape i) (by rfl) hw
  refine (contract (w.forCall tape i) w.heap.size i.args ds gs before hval hw' hc (hz.weights hw) (hX _ _ _ (by rfl) hx) hsh).mono fun e W' ⟨v, he, hp⟩ => ?_
  subst he
  exact ChangeSpec.post_blind hp

def laids : List (String × DataW Unit) := [("math/bits.deBruijn32tab", Rows.laid_math_bits_deBruijn32tab), ("math/bits.deBruijn64tab", Rows.laid_math_bits_deBruijn64tab), ("internal/strconv.uint64pow10", Rows.laid_internal_strconv_uint64pow10)]
theorem g3 : Tryz.prog.globalNamed "internal/strconv.uint64pow10" = some 3 := by kernel_rfl
theorem t3 : (Tryz.prog.globals[3]?).map (·.type) = some 173 := by kernel_rfl
theorem pow_data : (Rows.laid_internal_strconv_uint64pow10 : DataW Unit) = Lib.tabData .u64 Lib.pow10Tab := by kernel_rfl
/-- The tables that the framework asks for. -/
theorem gok {W : World} (hL : laidMetH Tryz.prog laids W) (hsh : W.ShapedOpen Tryz.prog) : Fw.GOK W := by
  constructor
  · rw [MakeChecks.laidMetH_plain _ _ _ (by kernel_rfl)] at hL
    obtain ⟨ps, ⟨_, _, _, _, _, _, _, _, _, _, ⟨_, _, _, _, _, _, _, _, _, _, ⟨g, t, cs, fuel, p, q, hg, ht, hvar, hd, _, _⟩, _⟩, _⟩, _⟩ := hL
    obtain rfl := Option.some.inj (g3.symm.trans hg)
    obtain rfl := Option.some.inj (t3.symm.trans ht)
    rw [pow_data] at hd
    have hcs := Lib.cells_of_tab Tryz.underlying173 Tryz.underlying112 (by kernel_rfl) (by kernel_rfl) hd
    unfold World.var? at hvar
    rw [g3] at hvar
    simp only [Option.bind_some] at hvar
    split at hvar
    · rename_i cs' ty fr hh
      have := Option.some.inj hvar
      subst this
      refine ⟨ty, fr, ?_⟩
      rw [hh, ← hcs]
    · cases hvar
  · obtain ⟨s0, hs⟩ := cell_of_shapedOpen_int (P := Tryz.prog) (g := 2) (t := 3) (zero := #[.int .i64 0]) hsh (of_decide_eq_true (by kernel_rfl)) (by kernel_rfl) rfl (by kernel_rfl) (by kernel_rfl) Tryz.underlying3
    exact ⟨s0, hs⟩

end Go.Proofs.YtfggmdgegfadkaaGreatDoor
end
section
/- The bridge for a row with a condition, laid tables and a shaped world; pairs. -/
namespace Go.Proofs.YtfggmdgegfadkaaGreatDoor
open Go.ChangeShapes Go.WideShapes Go.ChangeAt Go.ChangeMaps Go.RowKit
set_option linter.unusedVariables false

theorem pairs : WideMaps.ArrKey Tryz.prog 42 2 2 := ⟨Tryz.underlying42, by kernel_rfl, by kernel_rfl, by kernel_rfl⟩

theorem handed_cond {H : Type} {enc : TypeId × Value → H} {a : Assume} {C : Checked} {os : Os} {f : FuncId} {fn : Func} {s : OpenSpec} {k : (H : Type) → List (DataW H) → Bool} (hk : s.cond = some k) {F : Stop.Interp} {conds : List PathCond} {apart fresh handsOn again : Bool} {X : World → Array Value → Prop}
    (hX : ∀ (w w' : World) (args : Array Value), w.heap = w'.heap → X w args → X w' args)
    (own : ownKnob C.prog.godebug = none) (started : os.Started) (noInit : C.prog.inits.idxOf? f = none) (hfn : C.prog.funcs[f]? = some fn)
    (witness : ∃ (w : World) (tape : Tape) (i : Input), w.os = os ∧ (w.forCall tape i).Shaped C.prog ∧ i.vars = [] ∧ Input.okWide C.prog (w.forCall tape i) .any w.heap.size f i ∧
      ((s.pre enc C.prog fn conds apart (w.forCall tape i).memory i.args ∧ X (w.forCall tape i).memory i.args) ∧ sizedMet enc C.prog fn s apart (w.forCall tape i).memory i.args) ∧ a.holds C.prog (lone (Frame.enter C.prog f i.args .normal) [] (w.forCall tape i)))
    (contract : ∀ (W : World) (base : Nat) (args : Array Value) (ds gs : List (DataW H)) (before : List MemPlace),
      (∀ (j : Nat) t v, fn.params[j]? = some t → args[j]? = some v → Value.okWide C.prog W .any base t v) →
      DataW.Whole enc C.prog fn.params.toList s.vars apart W args.toList ds gs before →
      conds.all (PathCond.test C.prog ⟨fn.params.toList, ds, s.bare.plain.varTypes C.prog, gs⟩) = true → k H (ds ++ gs) = true → X W args →
      W.ShapedOpen C.prog →
      Calls C.prog f args W fun e W' => ∃ v, e = .returned v ∧ (s.at F).post enc C.prog fn apart fresh handsOn again W args v W') :
    ReturnsInHanded a C os f .any (fun w args => (s.pre enc C.prog fn conds apart w args ∧ X w args) ∧ sizedMet enc C.prog fn s apart w args) ((s.at F).post enc C.prog fn apart fresh handsOn again) := by
  refine returnsInHanded_of_calls own started noInit witness ?_
  intro w tape i _ hsh _ hok hpre _
  obtain ⟨_, _, _, fn', hfn', _, _, _, _, hval⟩ := hok
  have e : fn' = fn := Option.some.inj (hfn'.symm.trans hfn)
  subst e
  obtain ⟨⟨hp, hx⟩, hz⟩ := hpre
  obtain ⟨ds, gs, before, hw, hc, hkk⟩ := (OpenSpec.pre_some hk conds apart _ _).1 hp
  have hw' := DataW.Whole.of_heap (w' := w.forCall tape i) (by rfl) hw
  refine (contract (w.forCall tape i) w.heap.size i.args ds gs before hval hw' hc hkk (hX _ _ _ (by rfl) hx) hsh).mono fun e W' ⟨v, he, hp⟩ => ?_
  subst he
  exact ChangeSpec.post_blind hp

theorem witness_cond {H : Type} {enc : TypeId × Value → H} {C : Checked} {os : Os} {f : FuncId} {fn : Func} {s : OpenSpec} {k : (H : Type) → List (DataW H) → Bool} (hk : s.cond = some k) {conds : List PathCond} {apart : Bool} {X : World → Array Value → Prop} (modest : Bool) (w0 : World) (args : Array Value) (fuel : Nat) (hos : w0.os = os)
    (hsh : (w0.forCall (fun _ _ => 0) ⟨#[], args, []⟩).Shaped C.prog)
    (hok : Input.okWideB C.prog (w0.forCall (fun _ _ => 0) ⟨#[], args, []⟩) f ⟨#[], args, []⟩ = true)
    {x : List (DataW H) × List (DataW H) × List MemPlace} (hxx : DataW.whole enc C.prog (w0.forCall (fun _ _ => 0) ⟨#[], args, []⟩).memory fn.params.toList s.vars apart args.toList fuel = some x)
    (hconds : conds.all (PathCond.test C.prog ⟨fn.params.toList, x.1, s.bare.plain.varTypes C.prog, x.2.1⟩) = true) (hkk : k H (x.1 ++ x.2.1) = true)
    (hsz : s.bare.sizedB enc C.prog fn apart (w0.forCall (fun _ _ => 0) ⟨#[], args, []⟩).memory args fuel = true)
    (hx : X (w0.forCall (fun _ _ => 0) ⟨#[], args, []⟩).memory args) :
    ∃ (w : World) (tape : Tape) (i : Input), w.os = os ∧ (w.forCall tape i).Shaped C.prog ∧ i.vars = [] ∧ Input.okWide C.prog (w.forCall tape i) .any w.heap.size f i ∧
      ((s.pre enc C.prog fn conds apart (w.forCall tape i).memory i.args ∧ X (w.forCall tape i).memory i.args) ∧ sizedMet enc C.prog fn s apart (w.forCall tape i).memory i.args) ∧ ({ modest := modest } : Assume).holds C.prog (lone (Frame.enter C.prog f i.args .normal) [] (w.forCall tape i)) :=
  ⟨w0, fun _ _ => 0, ⟨#[], args, []⟩, hos, hsh, (Input.okWide_of_okWideB (base := 0) hok).1, (Input.okWide_of_okWideB hok).2, ⟨⟨(OpenSpec.pre_some hk conds apart _ _).2 ⟨x.1, x.2.1, x.2.2, DataW.Whole_of_whole hxx, hconds, hkk⟩, hx⟩, sizedMet_of_sizedB hsz⟩, by
    simp only [Assume.holds]
    exact ⟨by simp, by simp, fun _ => Modest.zero, by simp, by simp⟩⟩

end Go.Proofs.YtfggmdgegfadkaaGreatDoor
end
