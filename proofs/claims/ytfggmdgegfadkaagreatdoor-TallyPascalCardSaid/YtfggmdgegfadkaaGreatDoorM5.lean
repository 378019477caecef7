import Derived.Test.YtfggmdgegfadkaaGreatDoorM4
section
/- Fractions from texts. -/
set_option linter.unusedVariables false
set_option linter.unusedSimpArgs false
set_option maxRecDepth 100000
set_option exponentiation.threshold 6000000
namespace Ta
open Go Fw Go.Proofs Go.RowKit Pl

theorem decV_pos {l : List UInt8} (h : l.all isDig = true) (h0 : l ≠ []) (h48 : l.head? ≠ some 48) : 0 < decV l := by
  cases l with
  | nil => exact absurd rfl h0
  | cons x l =>
    rw [List.all_cons, Bool.and_eq_true] at h
    have h2 := isDig_iff.1 h.1
    have e := decV_append [x] l
    rw [List.singleton_append, decV_one] at e
    have hx : x.toNat ≠ 48 := fun hx => h48 (by rw [(u8_eq (n := 48) (by decide)).2 hx]; rfl)
    have : 1 ≤ (x.toNat - 48) * 10 ^ l.length := Nat.mul_pos (by omega) (Nat.pow_pos (by decide))
    omega
theorem parV_ne {l : List UInt8} (h : isFl l = true) (h48 : l ≠ [48]) : parV l ≠ 0 := by
  obtain ⟨h1, h2⟩ := isFl_parts h
  have h3 : (unsg l).head? ≠ some 48 := by
    unfold isFl at h
    simp only [Bool.and_eq_true, Bool.or_eq_true, decide_eq_true_eq] at h
    rcases h.1.2 with h3 | h3
    · exact h3
    · exact absurd h3 h48
  have h4 := decV_pos h2 h1 h3
  have h5 := parV_abs l
  omega
theorem parV_W {l : List UInt8} (h : isFl l = true) : (parV l).natAbs < W ^ l.length := by
  obtain ⟨h1, h2⟩ := isFl_parts h
  rw [parV_abs]
  exact Nat.lt_of_lt_of_le (decV_W h2) (pow_le_W (unsg_len l))
theorem ba_toList (a b : ByteArray) : (a.toList == b.toList) = decide (bl a = bl b) := by
  rw [Lib.toList_data, Lib.toList_data]
  show (bl a == bl b) = _
  rw [Bool.eq_iff_iff]; simp
theorem txtQ_mk (r : Rat) : txtQ (mkQ r) = ba (txtR r) := by unfold txtQ; rw [qv_mkQ]
theorem tail37 {s A B : ByteArray} (hA : bl A = topL (bl s)) (hB : bl B = botL (bl s)) (lA : A.size ≤ 1100000) (lB : B.size ≤ 1100000) :
    A.size ≤ (9000000000000000000 : Nat) ∧
      Br (!Pl.isF A)
        (((([], false, ()), [], ()), (10 : Int), ()) = C37.post (s, ()))
        (B.size ≤ (9000000000000000000 : Nat) ∧
          Br (!Pl.isF B)
            (((([], false, ()), [], ()), (10 : Int), ()) = C37.post (s, ()))
            ((0 : Int) ≤ (0 : Int) ∧
              (0 : Int) < (↑B.size : Int) ∧
                Br (bt B (0 : Int) == (45 : Int))
                  (((([], false, ()), [], ()), (10 : Int), ()) = C37.post (s, ()))
                  (Br (B.toList == (ByteArray.mk #[(48 : UInt8)]).toList)
                    (((([], false, ()), [], ()), (10 : Int), ()) = C37.post (s, ()))
                    ((A.size ≤ (2000000 : Nat) ∧
                        Pl.isF A = true) ∧
                      (B.size ≤ (2000000 : Nat) ∧
                          Pl.isF B = true) ∧
                        (Pl.okI (Pl.froI A) ∧
                            Pl.okI (Pl.froI B) ∧
                              (Pl.froI B).1 ≠ []) ∧
                          Pl.okQ2
                              (Pl.loQ (Pl.froI A)
                                (Pl.froI B)) ∧
                            Br
                              (!(Pl.txtQ
                                      (Pl.loQ (Pl.froI A)
                                        (Pl.froI B))).toList ==
                                  s.toList)
                              (((([], false, ()), [], ()), (10 : Int), ()) = C37.post (s, ()))
                              (Pl.okCloQ
                                  (D.bfn (100 : Nat)
                                    [D.agg
                                        [D.slc false u64
                                            (Pl.loQ (Pl.froI A)
                                                  (Pl.froI B)).fst.fst,
                                          D.bool
                                            (Pl.loQ (Pl.froI A)
                                                    (Pl.froI B)).fst.snd.fst,
                                          D.slc false u64
                                            (Pl.loQ (Pl.froI A)
                                                  (Pl.froI B)).snd.fst]]) ∧
                                (Pl.aq1
                                      (D.bfn (100 : Nat)
                                        [D.agg
                                            [D.slc false u64
                                                (Pl.loQ (Pl.froI A)
                                                      (Pl.froI B)).fst.fst,
                                              D.bool
                                                (Pl.loQ (Pl.froI A)
                                                        (Pl.froI B)).fst.snd.fst,
                                              D.slc false u64
                                                (Pl.loQ (Pl.froI A)
                                                      (Pl.froI B)).snd.fst]]),
                                    Pl.aq2
                                      (D.bfn (100 : Nat)
                                        [D.agg
                                            [D.slc false u64
                                                (Pl.loQ (Pl.froI A)
                                                      (Pl.froI B)).fst.fst,
                                              D.bool
                                                (Pl.loQ (Pl.froI A)
                                                        (Pl.froI B)).fst.snd.fst,
                                              D.slc false u64
                                                (Pl.loQ (Pl.froI A)
                                                      (Pl.froI B)).snd.fst]]),
                                    ()) =
                                  C37.post (s, ())))))) := by
  have e : C37.post (s, ()) = (if rdV (bl s) then atq1 (rdR (bl s)) else mkQ 0, if rdV (bl s) then atq2 (rdR (bl s)) else 10, ()) := rfl
  rw [e]
  have bad : rdB (bl s) = false → ((([], false, ()), [], ()), (10 : Int), ()) = ((if rdV (bl s) then atq1 (rdR (bl s)) else mkQ 0 : Qv), (if rdV (bl s) then atq2 (rdR (bl s)) else 10 : Int), ()) := fun h => by
    have : rdV (bl s) = false := by unfold rdV; rw [h]; rfl
    rw [this]; rfl
  have eB : rdB (bl s) = (isF A && isF B && !decide ((bl B).head? = some 45) && !decide (bl B = [48])) := by
    show (isFl (topL (bl s)) && isFl (botL (bl s)) && !decide ((botL (bl s)).head? = some 45) && !decide (botL (bl s) = [48])) = _
    rw [← hA, ← hB]; rfl
  have eR : rdR (bl s) = Rat.divInt (parS A) (parS B) := by
    show Rat.divInt (parV (topL (bl s))) (parV (botL (bl s))) = _
    rw [← hA, ← hB]; rfl
  refine ⟨by omega, Br_of (fun h1 => bad ?_) (fun h1 => ⟨by omega, Br_of (fun h2 => bad ?_) (fun h2 => ?_)⟩)⟩
  · have : isF A = false := by simpa using h1
    rw [eB, this]; rfl
  · have : isF B = false := by simpa using h2
    rw [eB, this, Bool.and_false]; rfl
  have fA : isF A = true := by simpa using h1
  have fB : isF B = true := by simpa using h2
  rw [fA, fB] at eB
  have hp := List.length_pos_iff.2 (isFl_parts fB).1
  have hl := unsg_len (bl B)
  have sB := size_bl B
  have sA := size_bl A
  have h0 : bt B (0 : Int) = ((((bl B).getD 0 0).toNat : Nat) : Int) := bt_bl B 0
  have hh : (bl B).head? = some ((bl B).getD 0 0) := by
    generalize bl B = l at hl hp
    cases l with
    | nil => rw [List.length_nil] at hl; omega
    | cons x l => rfl
  refine ⟨by omega, by omega, Br_of (fun h3 => bad ?_) (fun h3 => Br_of (fun h4 => bad ?_) (fun h4 => ?_))⟩
  · have : (bl B).head? = some 45 := by
      have h45 : bt B 0 = 45 := by simpa using h3
      have : (bl B).getD 0 0 = 45 := (u8_eq (n := 45) (by decide)).2 (by omega)
      rw [hh, this]
    rw [eB, decide_eq_true this]; rfl
  · rw [ba_toList] at h4
    have : bl B = [48] := of_decide_eq_true h4
    rw [eB, decide_eq_true this, Bool.not_true, Bool.and_false]
  have n45 : (bl B).head? ≠ some 45 := fun h => by
    rw [hh] at h
    rw [h0, (show ((bl B).getD 0 0) = 45 from Option.some.inj h)] at h3
    cases h3
  have n48 : bl B ≠ [48] := by rw [ba_toList] at h4; exact of_decide_eq_false h4
  rw [decide_eq_false n45, decide_eq_false n48] at eB
  have vA := parV_W fA
  have vB := parV_W fB
  have bN := parV_ne fB n48
  have i1 : iv (froI A) = parS A := iv_mk _
  have i2 : iv (froI B) = parS B := iv_mk _
  have oA : okI (froI A) := okI_mk' (bl A).length vA (by omega)
  have oB : okI (froI B) := okI_mk' (bl B).length vB (by omega)
  have eL : loQ (froI A) (froI B) = mkQ (rdR (bl s)) := by
    show mkQ (Rat.divInt (iv (froI A)) (iv (froI B))) = _
    rw [i1, i2, eR]
  have oL : okQ2 (mkQ (rdR (bl s))) := by
    rw [eR]
    exact okQ_div (k := 1100000) bN (Nat.lt_of_lt_of_le vA (pow_le_W (by omega))) (Nat.le_of_lt (Nat.lt_of_lt_of_le vB (pow_le_W (by omega)))) (by decide) (by decide)
  have hV : rdV (bl s) = decide (txtR (rdR (bl s)) = bl s) := by
    unfold rdV; rw [eB]; rfl
  rw [hV, eL, txtQ_mk, ba_toList, bl_ba]
  refine ⟨⟨by omega, fA⟩, ⟨by omega, fB⟩, ⟨oA, oB, ne_of_iv (by rw [i2]; exact bN)⟩, oL, Br_of (fun h5 => ?_) (fun h5 => ?_)⟩
  · have : ¬ txtR (rdR (bl s)) = bl s := by simpa using h5
    rw [decide_eq_false this]; rfl
  · have : txtR (rdR (bl s)) = bl s := by simpa using h5
    rw [decide_eq_true this]
    refine ⟨⟨rfl, ⟨_, _, _, _, _, rfl⟩, oL⟩, ?_⟩
    show (atq1 (qv (mkQ (rdR (bl s)))), atq2 (qv (mkQ (rdR (bl s)))), ()) = _
    rw [qv_mkQ]; rfl

theorem cut_len (l p : List UInt8) : (Lib.cut l p).1.length ≤ l.length ∧ (Lib.cut l p).2.1.length ≤ l.length := by
  unfold Lib.cut
  split
  · exact ⟨by rw [List.length_take]; omega, by rw [List.length_drop]; omega⟩
  · exact ⟨Nat.le_refl _, Nat.zero_le _⟩
theorem vc37 : ∀ x, C37.pre x → VC T37 H0 Tryz.f37 C37 x := by
  rintro ⟨(s : ByteArray), ⟨⟩⟩ (h : s.size ≤ 1100000)
  refine cast (α := s.size ≤ (4000000000 : Nat) ∧ Br (!Pl.cut3 s (ByteArray.mk #[(47 : UInt8)])) ((Pl.cut1 s (ByteArray.mk #[(47 : UInt8)])).size ≤ (9000000000000000000 : Nat) ∧ Br (!Pl.isF (Pl.cut1 s (ByteArray.mk #[(47 : UInt8)]))) (((([], false, ()), [], ()), (10 : Int), ()) = C37.post (s, ())) ((ByteArray.mk #[(49 : UInt8)]).size ≤ (9000000000000000000 : Nat) ∧ Br (!Pl.isF (ByteArray.mk #[(49 : UInt8)])) (((([], false, ()), [], ()), (10 : Int), ()) = C37.post (s, ())) ((0 : Int) ≤ (0 : Int) ∧ (0 : Int) < (↑(ByteArray.mk #[(49 : UInt8)]).size : Int) ∧ Br (bt (ByteArray.mk #[(49 : UInt8)]) (0 : Int) == (45 : Int)) (((([], false, ()), [], ()), (10 : Int), ()) = C37.post (s, ())) (Br ((ByteArray.mk #[(49 : UInt8)]).toList == (ByteArray.mk #[(48 : UInt8)]).toList) (((([], false, ()), [], ()), (10 : Int), ()) = C37.post (s, ())) (((Pl.cut1 s (ByteArray.mk #[(47 : UInt8)])).size ≤ (2000000 : Nat) ∧ Pl.isF (Pl.cut1 s (ByteArray.mk #[(47 : UInt8)])) = true) ∧ ((ByteArray.mk #[(49 : UInt8)]).size ≤ (2000000 : Nat) ∧ Pl.isF (ByteArray.mk #[(49 : UInt8)]) = true) ∧ (Pl.okI (Pl.froI (Pl.cut1 s (ByteArray.mk #[(47 : UInt8)]))) ∧ Pl.okI (Pl.froI (ByteArray.mk #[(49 : UInt8)])) ∧ (Pl.froI (ByteArray.mk #[(49 : UInt8)])).1 ≠ []) ∧ Pl.okQ2 (Pl.loQ (Pl.froI (Pl.cut1 s (ByteArray.mk #[(47 : UInt8)]))) (Pl.froI (ByteArray.mk #[(49 : UInt8)]))) ∧ Br (!(Pl.txtQ (Pl.loQ (Pl.froI (Pl.cut1 s (ByteArray.mk #[(47 : UInt8)]))) (Pl.froI (ByteArray.mk #[(49 : UInt8)])))).toList == s.toList) (((([], false, ()), [], ()), (10 : Int), ()) = C37.post (s, ())) (Pl.okCloQ (D.bfn (100 : Nat) [D.agg [D.slc false u64 (Pl.loQ (Pl.froI (Pl.cut1 s (ByteArray.mk #[(47 : UInt8)]))) (Pl.froI (ByteArray.mk #[(49 : UInt8)]))).fst.fst, D.bool (Pl.loQ (Pl.froI (Pl.cut1 s (ByteArray.mk #[(47 : UInt8)]))) (Pl.froI (ByteArray.mk #[(49 : UInt8)]))).fst.snd.fst, D.slc false u64 (Pl.loQ (Pl.froI (Pl.cut1 s (ByteArray.mk #[(47 : UInt8)]))) (Pl.froI (ByteArray.mk #[(49 : UInt8)]))).snd.fst]]) ∧ (Pl.aq1 (D.bfn (100 : Nat) [D.agg [D.slc false u64 (Pl.loQ (Pl.froI (Pl.cut1 s (ByteArray.mk #[(47 : UInt8)]))) (Pl.froI (ByteArray.mk #[(49 : UInt8)]))).fst.fst, D.bool (Pl.loQ (Pl.froI (Pl.cut1 s (ByteArray.mk #[(47 : UInt8)]))) (Pl.froI (ByteArray.mk #[(49 : UInt8)]))).fst.snd.fst, D.slc false u64 (Pl.loQ (Pl.froI (Pl.cut1 s (ByteArray.mk #[(47 : UInt8)]))) (Pl.froI (ByteArray.mk #[(49 : UInt8)]))).snd.fst]]), Pl.aq2 (D.bfn (100 : Nat) [D.agg [D.slc false u64 (Pl.loQ (Pl.froI (Pl.cut1 s (ByteArray.mk #[(47 : UInt8)]))) (Pl.froI (ByteArray.mk #[(49 : UInt8)]))).fst.fst, D.bool (Pl.loQ (Pl.froI (Pl.cut1 s (ByteArray.mk #[(47 : UInt8)]))) (Pl.froI (ByteArray.mk #[(49 : UInt8)]))).fst.snd.fst, D.slc false u64 (Pl.loQ (Pl.froI (Pl.cut1 s (ByteArray.mk #[(47 : UInt8)]))) (Pl.froI (ByteArray.mk #[(49 : UInt8)]))).snd.fst]]), ()) = C37.post (s, ()))))))) ((Pl.cut1 s (ByteArray.mk #[(47 : UInt8)])).size ≤ (9000000000000000000 : Nat) ∧ Br (!Pl.isF (Pl.cut1 s (ByteArray.mk #[(47 : UInt8)]))) (((([], false, ()), [], ()), (10 : Int), ()) = C37.post (s, ())) ((Pl.cut2 s (ByteArray.mk #[(47 : UInt8)])).size ≤ (9000000000000000000 : Nat) ∧ Br (!Pl.isF (Pl.cut2 s (ByteArray.mk #[(47 : UInt8)]))) (((([], false, ()), [], ()), (10 : Int), ()) = C37.post (s, ())) ((0 : Int) ≤ (0 : Int) ∧ (0 : Int) < (↑(Pl.cut2 s (ByteArray.mk #[(47 : UInt8)])).size : Int) ∧ Br (bt (Pl.cut2 s (ByteArray.mk #[(47 : UInt8)])) (0 : Int) == (45 : Int)) (((([], false, ()), [], ()), (10 : Int), ()) = C37.post (s, ())) (Br ((Pl.cut2 s (ByteArray.mk #[(47 : UInt8)])).toList == (ByteArray.mk #[(48 : UInt8)]).toList) (((([], false, ()), [], ()), (10 : Int), ()) = C37.post (s, ())) (((Pl.cut1 s (ByteArray.mk #[(47 : UInt8)])).size ≤ (2000000 : Nat) ∧ Pl.isF (Pl.cut1 s (ByteArray.mk #[(47 : UInt8)])) = true) ∧ ((Pl.cut2 s (ByteArray.mk #[(47 : UInt8)])).size ≤ (2000000 : Nat) ∧ Pl.isF (Pl.cut2 s (ByteArray.mk #[(47 : UInt8)])) = true) ∧ (Pl.okI (Pl.froI (Pl.cut1 s (ByteArray.mk #[(47 : UInt8)]))) ∧ Pl.okI (Pl.froI (Pl.cut2 s (ByteArray.mk #[(47 : UInt8)]))) ∧ (Pl.froI (Pl.cut2 s (ByteArray.mk #[(47 : UInt8)]))).1 ≠ []) ∧ Pl.okQ2 (Pl.loQ (Pl.froI (Pl.cut1 s (ByteArray.mk #[(47 : UInt8)]))) (Pl.froI (Pl.cut2 s (ByteArray.mk #[(47 : UInt8)])))) ∧ Br (!(Pl.txtQ (Pl.loQ (Pl.froI (Pl.cut1 s (ByteArray.mk #[(47 : UInt8)]))) (Pl.froI (Pl.cut2 s (ByteArray.mk #[(47 : UInt8)]))))).toList == s.toList) (((([], false, ()), [], ()), (10 : Int), ()) = C37.post (s, ())) (Pl.okCloQ (D.bfn (100 : Nat) [D.agg [D.slc false u64 (Pl.loQ (Pl.froI (Pl.cut1 s (ByteArray.mk #[(47 : UInt8)]))) (Pl.froI (Pl.cut2 s (ByteArray.mk #[(47 : UInt8)])))).fst.fst, D.bool (Pl.loQ (Pl.froI (Pl.cut1 s (ByteArray.mk #[(47 : UInt8)]))) (Pl.froI (Pl.cut2 s (ByteArray.mk #[(47 : UInt8)])))).fst.snd.fst, D.slc false u64 (Pl.loQ (Pl.froI (Pl.cut1 s (ByteArray.mk #[(47 : UInt8)]))) (Pl.froI (Pl.cut2 s (ByteArray.mk #[(47 : UInt8)])))).snd.fst]]) ∧ (Pl.aq1 (D.bfn (100 : Nat) [D.agg [D.slc false u64 (Pl.loQ (Pl.froI (Pl.cut1 s (ByteArray.mk #[(47 : UInt8)]))) (Pl.froI (Pl.cut2 s (ByteArray.mk #[(47 : UInt8)])))).fst.fst, D.bool (Pl.loQ (Pl.froI (Pl.cut1 s (ByteArray.mk #[(47 : UInt8)]))) (Pl.froI (Pl.cut2 s (ByteArray.mk #[(47 : UInt8)])))).fst.snd.fst, D.slc false u64 (Pl.loQ (Pl.froI (Pl.cut1 s (ByteArray.mk #[(47 : UInt8)]))) (Pl.froI (Pl.cut2 s (ByteArray.mk #[(47 : UInt8)])))).snd.fst]]), Pl.aq2 (D.bfn (100 : Nat) [D.agg [D.slc false u64 (Pl.loQ (Pl.froI (Pl.cut1 s (ByteArray.mk #[(47 : UInt8)]))) (Pl.froI (Pl.cut2 s (ByteArray.mk #[(47 : UInt8)])))).fst.fst, D.bool (Pl.loQ (Pl.froI (Pl.cut1 s (ByteArray.mk #[(47 : UInt8)]))) (Pl.froI (Pl.cut2 s (ByteArray.mk #[(47 : UInt8)])))).fst.snd.fst, D.slc false u64 (Pl.loQ (Pl.froI (Pl.cut1 s (ByteArray.mk #[(47 : UInt8)]))) (Pl.froI (Pl.cut2 s (ByteArray.mk #[(47 : UInt8)])))).snd.fst]]), ()) = C37.post (s, ())))))))) (by kernel_rfl) ?_
  obtain ⟨l1, l2⟩ := cut_len (bl s) [47]
  have e47 : bl (ByteArray.mk #[(47 : UInt8)]) = [47] := rfl
  have hA : bl (cut1 s (ByteArray.mk #[(47 : UInt8)])) = topL (bl s) := rfl
  have hl : bl s = bl s := rfl
  rw [size_bl] at h
  have lA : (cut1 s (ByteArray.mk #[(47 : UInt8)])).size ≤ 1100000 := by rw [size_bl, hA]; exact Nat.le_trans l1 h
  have h3 : cut3 s (ByteArray.mk #[(47 : UInt8)]) = (Lib.cut (bl s) [47]).2.2 := rfl
  refine ⟨by rw [size_bl]; omega, Br_of (fun hc => ?_) (fun hc => ?_)⟩
  · refine tail37 hA ?_ lA (by decide)
    have : (Lib.cut (bl s) [47]).2.2 = false := by rw [h3] at hc; simpa using hc
    unfold botL
    rw [this]; rfl
  · have hB : bl (cut2 s (ByteArray.mk #[(47 : UInt8)])) = botL (bl s) := by
      have : (Lib.cut (bl s) [47]).2.2 = true := by rw [h3] at hc; simpa using hc
      unfold botL
      rw [this]; rfl
    refine tail37 hA hB lA ?_
    have h5 : bl (cut2 s (ByteArray.mk #[(47 : UInt8)])) = (Lib.cut (bl s) [47]).2.1 := rfl
    rw [size_bl, h5]; exact Nat.le_trans l2 h
theorem snd37 : Sound Tryz.prog 37 C37 := fn_sound (T := T37) (fn := Tryz.f37) (tokg (T := T37) ⟨snd96, snd97, snd98, snd85, snd25, snd99, trivial⟩ trivial trivial) Tryz.func37 (by kernel_rfl) H0 vc37 (by kernel_rfl)

end Ta
end
section
/- The reference's fractions; powers, binomials, factorials. -/
set_option linter.unusedVariables false
set_option linter.unusedSimpArgs false
set_option maxRecDepth 100000
set_option exponentiation.threshold 6000000
namespace Ta
open Go Fw Go.Proofs Pl

theorem zv_gc (x y : Rv) : zv (gcR x y) = ((Nat.gcd (nr x.2.1) (nr y.2.1) : Nat) : Int) := zv_mk _
theorem zv_qo (x y : Rv) : zv (qoR x y) = (zv x).tdiv (zv y) := zv_mk _
theorem zv_ad (x y : Rv) : zv (adR x y) = zv x + zv y := zv_mk _
theorem zv_mu (x y : Rv) : zv (muR x y) = zv x * zv y := zv_mk _
theorem ne_zv {z : Rv} (h : zv z ≠ 0) : z.2.1 ≠ [] := fun h1 => h (by have := natAbs_zv z; rw [h1, show nr [] = 0 from rfl] at this; omega)
theorem zv_ne {z : Rv} (h : okZ z) (h0 : z.2.1 ≠ []) : zv z ≠ 0 := fun h1 => h0 ((zv_nil (okZ_Y h)).1 h1)
theorem okZ_qo {x y : Rv} (h : okZ x) : okZ (qoR x y) := by
  refine okZ_mk K4 (Nat.lt_of_le_of_lt ?_ (okZ_abs h)) (by rw [K4_eq]; decide)
  rw [Int.natAbs_tdiv]; exact Nat.div_le_self _ _
theorem okZ_gc {x y : Rv} (hy : okZ y) (h0 : y.2.1 ≠ []) : okZ (gcR x y) := by
  refine okZ_mk K4 (Nat.lt_of_le_of_lt ?_ (okZ_abs hy)) (by rw [K4_eq]; decide)
  rw [Int.natAbs_natCast, natAbs_zv]
  exact Nat.gcd_le_right _ (nr_pos hy.1 h0)
theorem vc29 : ∀ x, C29.pre x → VC T29 H0 Tryz.f29 C29 x := by
  rintro ⟨⟨(s : Bool), (a : List Int), ⟨⟩⟩, ⟨(t : Bool), (b : List Int), ⟨⟩⟩, ⟨⟩⟩ ⟨(h : okZ (s, a, ())), (k : okZ (t, b, ())), (hb : b ≠ [])⟩
  refine cast (α := (Pl.okZ (s, a, ()) ∧ Pl.okZ (t, b, ())) ∧ (Pl.okZ (s, a, ()) ∧ Pl.okZ (Pl.gcR (s, a, ()) (t, b, ())) ∧ (Pl.gcR (s, a, ()) (t, b, ())).snd.1 ≠ []) ∧ (Pl.okZ (t, b, ()) ∧ Pl.okZ (Pl.gcR (s, a, ()) (t, b, ())) ∧ (Pl.gcR (s, a, ()) (t, b, ())).snd.1 ≠ []) ∧ Br (Pl.qoR (t, b, ()) (Pl.gcR (s, a, ()) (t, b, ()))).fst (Pl.okZ (Pl.qoR (s, a, ()) (Pl.gcR (s, a, ()) (t, b, ()))) ∧ Pl.okZ (Pl.qoR (t, b, ()) (Pl.gcR (s, a, ()) (t, b, ()))) ∧ ((Pl.ngR (Pl.qoR (s, a, ()) (Pl.gcR (s, a, ()) (t, b, ()))), Pl.ngR (Pl.qoR (t, b, ()) (Pl.gcR (s, a, ()) (t, b, ()))), ()), ()) = C29.post ((s, a, ()), (t, b, ()), ())) (((Pl.qoR (s, a, ()) (Pl.gcR (s, a, ()) (t, b, ())), Pl.qoR (t, b, ()) (Pl.gcR (s, a, ()) (t, b, ())), ()), ()) = C29.post ((s, a, ()), (t, b, ()), ()))) (by kernel_rfl) ?_
  have e : C29.post ((s, a, ()), (t, b, ()), ()) = (mkRQ (Rat.divInt (zv (s, a, ())) (zv (t, b, ()))), ()) := rfl
  rw [e]
  have hz : zv (t, b, ()) ≠ 0 := zv_ne k hb
  have og := okZ_gc (x := (s, a, ())) k hb
  have hgp : 0 < Nat.gcd (nr a) (nr b) := Nat.gcd_pos_of_pos_right _ (nr_pos k.1 hb)
  have hgz : zv (gcR (s, a, ()) (t, b, ())) = ((Nat.gcd (nr a) (nr b) : Nat) : Int) := zv_gc _ _
  have gn : (gcR (s, a, ()) (t, b, ())).2.1 ≠ [] := ne_zv (by rw [hgz]; omega)
  obtain ⟨g, hg⟩ : ∃ g, g = Nat.gcd (nr a) (nr b) := ⟨_, rfl⟩
  rw [← hg] at hgz hgp
  have da : (g : Int) ∣ zv (s, a, ()) := by
    rw [← Int.dvd_natAbs, natAbs_zv]
    exact Int.natCast_dvd_natCast.2 (by rw [hg]; exact Nat.gcd_dvd_left _ _)
  have db : (g : Int) ∣ zv (t, b, ()) := by
    rw [← Int.dvd_natAbs, natAbs_zv]
    exact Int.natCast_dvd_natCast.2 (by rw [hg]; exact Nat.gcd_dvd_right _ _)
  obtain ⟨a', ha'⟩ := da
  obtain ⟨b', hb'⟩ := db
  have hg0 : (g : Int) ≠ 0 := by omega
  have qa : zv (qoR (s, a, ()) (gcR (s, a, ()) (t, b, ()))) = a' := by rw [zv_qo, hgz]; exact Int.tdiv_eq_of_eq_mul_right hg0 ha'
  have qb : zv (qoR (t, b, ()) (gcR (s, a, ()) (t, b, ()))) = b' := by rw [zv_qo, hgz]; exact Int.tdiv_eq_of_eq_mul_right hg0 hb'
  have ea : qoR (s, a, ()) (gcR (s, a, ()) (t, b, ())) = mkR a' := by rw [← qa, mk_zv (okZ_Y (okZ_qo h))]
  have eb : qoR (t, b, ()) (gcR (s, a, ()) (t, b, ())) = mkR b' := by rw [← qb, mk_zv (okZ_Y (okZ_qo k))]
  have hgc : Int.gcd (zv (t, b, ())) (zv (s, a, ())) = g := by
    show Nat.gcd (zv (t, b, ())).natAbs (zv (s, a, ())).natAbs = g
    rw [natAbs_zv, natAbs_zv, Nat.gcd_comm, hg]
  have hb0 : b' ≠ 0 := fun h0 => by rw [h0, Int.mul_zero] at hb'; exact hz hb'
  have hden : (Rat.divInt (zv (s, a, ())) (zv (t, b, ()))).den = b'.natAbs := by
    rw [Rat.den_divInt, hgc, if_neg hz, hb', Int.natAbs_mul, Int.natAbs_natCast, Nat.mul_div_cancel_left _ hgp]
  have hnum : (Rat.divInt (zv (s, a, ())) (zv (t, b, ()))).num = b'.sign * a' := by
    rw [Rat.num_divInt, hgc, hb', ha', Int.sign_mul, Int.sign_eq_one_of_pos (by omega : 0 < (g : Int)), Int.one_mul, Int.mul_left_comm, Int.mul_ediv_cancel_left _ hg0]
  have o1 : okZ (mkR a') := by rw [← ea]; exact okZ_qo h
  have o2 : okZ (mkR b') := by rw [← eb]; exact okZ_qo k
  rw [ea, eb]
  unfold mkRQ
  rw [hden, hnum]
  refine ⟨⟨h, k⟩, ⟨h, og, gn⟩, ⟨k, og, gn⟩, Br_of (fun hc => ⟨o1, o2, ?_⟩) (fun hc => ?_)⟩
  · have hneg : b' < 0 := of_decide_eq_true hc
    rw [Int.sign_eq_neg_one_of_neg hneg]
    show ((mkR (-(zv (mkR a'))), mkR (-(zv (mkR b'))), ()), ()) = _
    rw [zv_mk, zv_mk, Int.neg_mul, Int.one_mul, show -b' = ((b'.natAbs : Nat) : Int) by omega]
  · have hpos : ¬ b' < 0 := of_decide_eq_false hc
    rw [Int.sign_eq_one_of_pos (by omega), Int.one_mul, show ((b'.natAbs : Nat) : Int) = b' by omega]
theorem okZ_64 {n : Int} (h : rg64 n) : okZ (mkR n) := okZ_mk 3 (by
  obtain ⟨h1, h2⟩ := h
  have : BB ^ 3 = 1000000000000000000000000000 := by decide
  rw [this]; omega) (by decide)
theorem vc27 : ∀ x, C27.pre x → VC T27 H0 Tryz.f27 C27 x := by
  rintro ⟨(m : Int), (n : Int), ⟨⟩⟩ ⟨h, k, (hn : n ≠ 0)⟩
  refine cast (α := Pl.rg64 m ∧ Pl.rg64 n ∧ (Pl.okZ (Pl.mkR m) ∧ Pl.okZ (Pl.mkR n) ∧ (Pl.mkR n).snd.1 ≠ []) ∧ (Pl.raR (Pl.mkR m) (Pl.mkR n), ()) = C27.post (m, n, ())) (by kernel_rfl) ?_
  refine ⟨h, k, ⟨okZ_64 h, okZ_64 k, ne_zv (by rw [zv_mk]; exact hn)⟩, ?_⟩
  show (mkRQ (Rat.divInt (zv (mkR m)) (zv (mkR n))), ()) = (mkRQ (Rat.divInt m n), ())
  rw [zv_mk, zv_mk]
theorem rg64_1 : rg64 1 := ⟨by decide, by decide⟩
theorem vc95 : ∀ x, C95.pre x → VC T95 H0 Tryz.f95 C95 x := by
  rintro ⟨⟨(s : Bool), (a : List Int), ⟨⟩⟩, ⟨⟩⟩ -
  refine cast (α := Pl.rg64 (1 : Int) ∧ (((s, a, ()), Pl.mkR (1 : Int), ()), ()) = C95.post ((s, a, ()), ())) (by kernel_rfl) ?_
  exact ⟨rg64_1, rfl⟩

def Pl.M1b : Nat := 1000000
theorem M1b_eq : M1b = 1000000 := rfl
theorem okRQ_n {q : RQv} (h : okRQ q) : (zv q.1).natAbs < BB ^ M1b := by rw [natAbs_zv]; exact Nat.lt_of_lt_of_le (nr_lt h.1.1.1) (pow_le_B h.2.2.1)
theorem okRQ_d {q : RQv} (h : okRQ q) : (zv q.2.1).natAbs < BB ^ M1b := by rw [natAbs_zv]; exact Nat.lt_of_lt_of_le (nr_lt h.2.1.1.1) (pow_le_B h.2.2.2.1)
theorem mu_abs {x y : Rv} {k l : Nat} (hx : (zv x).natAbs < BB ^ k) (hy : (zv y).natAbs < BB ^ l) : (zv (muR x y)).natAbs < BB ^ (k + l) := by
  rw [zv_mu, Int.natAbs_mul]; exact mul_lt_B hx hy
theorem okZ_mu {x y : Rv} {k l : Nat} (hx : (zv x).natAbs < BB ^ k) (hy : (zv y).natAbs < BB ^ l) (h : k + l ≤ 4000000) : okZ (muR x y) :=
  okZ_mk (k + l) (by rw [Int.natAbs_mul]; exact mul_lt_B hx hy) h
theorem okZ_ad {x y : Rv} {k : Nat} (hx : (zv x).natAbs < BB ^ k) (hy : (zv y).natAbs < BB ^ k) (h : k + 1 ≤ 4000000) : okZ (adR x y) :=
  okZ_mk (k + 1) (by have := add_lt_B hx hy; omega) h
theorem okZ_su {x y : Rv} {k : Nat} (hx : (zv x).natAbs < BB ^ k) (hy : (zv y).natAbs < BB ^ k) (h : k + 1 ≤ 4000000) : okZ (suR x y) :=
  okZ_mk (k + 1) (by have := add_lt_B hx hy; omega) h
theorem M22 : M1b + M1b + 1 ≤ 4000000 := by rw [M1b_eq]; decide
theorem M21 : M1b + M1b ≤ 4000000 := by rw [M1b_eq]; decide
theorem vc71 : ∀ x, C71.pre x → VC T71 H0 Tryz.f71 C71 x := by
  rintro ⟨⟨⟨(s : Bool), (a : List Int), ⟨⟩⟩, ⟨(t : Bool), (b : List Int), ⟨⟩⟩, ⟨⟩⟩, ⟨⟨(s' : Bool), (a' : List Int), ⟨⟩⟩, ⟨(t' : Bool), (b' : List Int), ⟨⟩⟩, ⟨⟩⟩, ⟨⟩⟩ ⟨(h : okRQ ((s, a, ()), (t, b, ()), ())), (k : okRQ ((s', a', ()), (t', b', ()), ()))⟩
  refine cast (α := (Pl.okZ (s, a, ()) ∧ Pl.okZ (t', b', ())) ∧ (Pl.okZ (s', a', ()) ∧ Pl.okZ (t, b, ())) ∧ (Pl.okZ (Pl.muR (s, a, ()) (t', b', ())) ∧ Pl.okZ (Pl.muR (s', a', ()) (t, b, ()))) ∧ (Pl.okZ (t, b, ()) ∧ Pl.okZ (t', b', ())) ∧ (Pl.okZ (Pl.adR (Pl.muR (s, a, ()) (t', b', ())) (Pl.muR (s', a', ()) (t, b, ()))) ∧ Pl.okZ (Pl.muR (t, b, ()) (t', b', ())) ∧ (Pl.muR (t, b, ()) (t', b', ())).snd.1 ≠ []) ∧ (Pl.raR (Pl.adR (Pl.muR (s, a, ()) (t', b', ())) (Pl.muR (s', a', ()) (t, b, ()))) (Pl.muR (t, b, ()) (t', b', ())), ()) = C71.post (((s, a, ()), (t, b, ()), ()), ((s', a', ()), (t', b', ()), ()), ())) (by kernel_rfl) ?_
  have n1 := okRQ_n h
  have n2 := okRQ_n k
  have d1 := okRQ_d h
  have d2 := okRQ_d k
  have p1 := h.2.2.2.2.1
  have p2 := k.2.2.2.2.1
  simp only at n1 n2 d1 d2 p1 p2
  have hne : zv (muR (t, b, ()) (t', b', ())) ≠ 0 := by rw [zv_mu]; exact Int.mul_ne_zero (by omega) (by omega)
  refine ⟨⟨h.1, k.2.1⟩, ⟨k.1, h.2.1⟩, ⟨okZ_mu n1 d2 M21, okZ_mu n2 d1 M21⟩, ⟨h.2.1, k.2.1⟩, ⟨okZ_ad (mu_abs n1 d2) (mu_abs n2 d1) M22, okZ_mu d1 d2 M21, ne_zv hne⟩, ?_⟩
  show (mkRQ (Rat.divInt (zv (adR (muR (s, a, ()) (t', b', ())) (muR (s', a', ()) (t, b, ())))) (zv (muR (t, b, ()) (t', b', ())))), ()) = (mkRQ (Rat.divInt (zv (s, a, ())) (zv (t, b, ())) + Rat.divInt (zv (s', a', ())) (zv (t', b', ()))), ())
  rw [Rat.divInt_add_divInt _ _ (by omega) (by omega), zv_ad, zv_mu, zv_mu, zv_mu]
theorem vc43 : ∀ x, C43.pre x → VC T71 H0 Tryz.f43 C43 x := by
  rintro ⟨⟨⟨(s : Bool), (a : List Int), ⟨⟩⟩, ⟨(t : Bool), (b : List Int), ⟨⟩⟩, ⟨⟩⟩, ⟨⟨(s' : Bool), (a' : List Int), ⟨⟩⟩, ⟨(t' : Bool), (b' : List Int), ⟨⟩⟩, ⟨⟩⟩, ⟨⟩⟩ ⟨(h : okRQ ((s, a, ()), (t, b, ()), ())), (k : okRQ ((s', a', ()), (t', b', ()), ()))⟩
  refine cast (α := (Pl.okZ (s, a, ()) ∧ Pl.okZ (t', b', ())) ∧ (Pl.okZ (s', a', ()) ∧ Pl.okZ (t, b, ())) ∧ (Pl.okZ (Pl.muR (s, a, ()) (t', b', ())) ∧ Pl.okZ (Pl.muR (s', a', ()) (t, b, ()))) ∧ (Pl.okZ (t, b, ()) ∧ Pl.okZ (t', b', ())) ∧ (Pl.okZ (Pl.suR (Pl.muR (s, a, ()) (t', b', ())) (Pl.muR (s', a', ()) (t, b, ()))) ∧ Pl.okZ (Pl.muR (t, b, ()) (t', b', ())) ∧ (Pl.muR (t, b, ()) (t', b', ())).snd.1 ≠ []) ∧ (Pl.raR (Pl.suR (Pl.muR (s, a, ()) (t', b', ())) (Pl.muR (s', a', ()) (t, b, ()))) (Pl.muR (t, b, ()) (t', b', ())), ()) = C43.post (((s, a, ()), (t, b, ()), ()), ((s', a', ()), (t', b', ()), ()), ())) (by kernel_rfl) ?_
  have n1 := okRQ_n h
  have n2 := okRQ_n k
  have d1 := okRQ_d h
  have d2 := okRQ_d k
  have p1 := h.2.2.2.2.1
  have p2 := k.2.2.2.2.1
  simp only at n1 n2 d1 d2 p1 p2
  have hne : zv (muR (t, b, ()) (t', b', ())) ≠ 0 := by rw [zv_mu]; exact Int.mul_ne_zero (by omega) (by omega)
  refine ⟨⟨h.1, k.2.1⟩, ⟨k.1, h.2.1⟩, ⟨okZ_mu n1 d2 M21, okZ_mu n2 d1 M21⟩, ⟨h.2.1, k.2.1⟩, ⟨okZ_su (mu_abs n1 d2) (mu_abs n2 d1) M22, okZ_mu d1 d2 M21, ne_zv hne⟩, ?_⟩
  show (mkRQ (Rat.divInt (zv (suR (muR (s, a, ()) (t', b', ())) (muR (s', a', ()) (t, b, ())))) (zv (muR (t, b, ()) (t', b', ())))), ()) = (mkRQ (Rat.divInt (zv (s, a, ())) (zv (t, b, ())) - Rat.divInt (zv (s', a', ())) (zv (t', b', ()))), ())
  rw [Rat.divInt_sub_divInt _ _ (by omega) (by omega), zv_su, zv_mu, zv_mu, zv_mu]
theorem vc72 : ∀ x, C72.pre x → VC T71 H0 Tryz.f72 C72 x := by
  rintro ⟨⟨⟨(s : Bool), (a : List Int), ⟨⟩⟩, ⟨(t : Bool), (b : List Int), ⟨⟩⟩, ⟨⟩⟩, ⟨⟨(s' : Bool), (a' : List Int), ⟨⟩⟩, ⟨(t' : Bool), (b' : List Int), ⟨⟩⟩, ⟨⟩⟩, ⟨⟩⟩ ⟨(h : okRQ ((s, a, ()), (t, b, ()), ())), (k : okRQ ((s', a', ()), (t', b', ()), ()))⟩
  refine cast (α := (Pl.okZ (s, a, ()) ∧ Pl.okZ (s', a', ())) ∧ (Pl.okZ (t, b, ()) ∧ Pl.okZ (t', b', ())) ∧ (Pl.okZ (Pl.muR (s, a, ()) (s', a', ())) ∧ Pl.okZ (Pl.muR (t, b, ()) (t', b', ())) ∧ (Pl.muR (t, b, ()) (t', b', ())).snd.1 ≠ []) ∧ (Pl.raR (Pl.muR (s, a, ()) (s', a', ())) (Pl.muR (t, b, ()) (t', b', ())), ()) = C72.post (((s, a, ()), (t, b, ()), ()), ((s', a', ()), (t', b', ()), ()), ())) (by kernel_rfl) ?_
  have n1 := okRQ_n h
  have n2 := okRQ_n k
  have d1 := okRQ_d h
  have d2 := okRQ_d k
  have p1 := h.2.2.2.2.1
  have p2 := k.2.2.2.2.1
  simp only at n1 n2 d1 d2 p1 p2
  have hne : zv (muR (t, b, ()) (t', b', ())) ≠ 0 := by rw [zv_mu]; exact Int.mul_ne_zero (by omega) (by omega)
  refine ⟨⟨h.1, k.1⟩, ⟨h.2.1, k.2.1⟩, ⟨okZ_mu n1 n2 M21, okZ_mu d1 d2 M21, ne_zv hne⟩, ?_⟩
  show (mkRQ (Rat.divInt (zv (muR (s, a, ()) (s', a', ()))) (zv (muR (t, b, ()) (t', b', ())))), ()) = (mkRQ (Rat.divInt (zv (s, a, ())) (zv (t, b, ())) * Rat.divInt (zv (s', a', ())) (zv (t', b', ()))), ())
  rw [Rat.divInt_mul_divInt, zv_mu, zv_mu]
theorem vc74 : ∀ x, C74.pre x → VC T71 H0 Tryz.f74 C74 x := by
  rintro ⟨⟨⟨(s : Bool), (a : List Int), ⟨⟩⟩, ⟨(t : Bool), (b : List Int), ⟨⟩⟩, ⟨⟩⟩, ⟨⟨(s' : Bool), (a' : List Int), ⟨⟩⟩, ⟨(t' : Bool), (b' : List Int), ⟨⟩⟩, ⟨⟩⟩, ⟨⟩⟩ ⟨(h : okRQ ((s, a, ()), (t, b, ()), ())), (k : okRQ ((s', a', ()), (t', b', ()), ())), (ha : a' ≠ [])⟩
  refine cast (α := (Pl.okZ (s, a, ()) ∧ Pl.okZ (t', b', ())) ∧ (Pl.okZ (t, b, ()) ∧ Pl.okZ (s', a', ())) ∧ (Pl.okZ (Pl.muR (s, a, ()) (t', b', ())) ∧ Pl.okZ (Pl.muR (t, b, ()) (s', a', ())) ∧ (Pl.muR (t, b, ()) (s', a', ())).snd.1 ≠ []) ∧ (Pl.raR (Pl.muR (s, a, ()) (t', b', ())) (Pl.muR (t, b, ()) (s', a', ())), ()) = C74.post (((s, a, ()), (t, b, ()), ()), ((s', a', ()), (t', b', ()), ()), ())) (by kernel_rfl) ?_
  have n1 := okRQ_n h
  have n2 := okRQ_n k
  have d1 := okRQ_d h
  have d2 := okRQ_d k
  have p1 := h.2.2.2.2.1
  simp only at n1 n2 d1 d2 p1
  have hne : zv (muR (t, b, ()) (s', a', ())) ≠ 0 := by rw [zv_mu]; exact Int.mul_ne_zero (by omega) (zv_ne k.1 ha)
  refine ⟨⟨h.1, k.2.1⟩, ⟨h.2.1, k.1⟩, ⟨okZ_mu n1 d2 M21, okZ_mu d1 n2 M21, ne_zv hne⟩, ?_⟩
  show (mkRQ (Rat.divInt (zv (muR (s, a, ()) (t', b', ()))) (zv (muR (t, b, ()) (s', a', ())))), ()) = (mkRQ (Rat.divInt (zv (s, a, ())) (zv (t, b, ())) / Rat.divInt (zv (s', a', ())) (zv (t', b', ()))), ())
  rw [Rat.div_def, Rat.inv_divInt, Rat.divInt_mul_divInt, zv_mu, zv_mu]
theorem vc73 : ∀ x, C73.pre x → VC T73 H0 Tryz.f73 C73 x := by
  rintro ⟨⟨⟨(s : Bool), (a : List Int), ⟨⟩⟩, ⟨(t : Bool), (b : List Int), ⟨⟩⟩, ⟨⟩⟩, ⟨⟨(s' : Bool), (a' : List Int), ⟨⟩⟩, ⟨(t' : Bool), (b' : List Int), ⟨⟩⟩, ⟨⟩⟩, ⟨⟩⟩ ⟨(h : okRQ ((s, a, ()), (t, b, ()), ())), (k : okRQ ((s', a', ()), (t', b', ()), ()))⟩
  refine cast (α := (Pl.okZ (s, a, ()) ∧ Pl.okZ (t', b', ())) ∧ (Pl.okZ (s', a', ()) ∧ Pl.okZ (t, b, ())) ∧ (Pl.okZ (Pl.muR (s, a, ()) (t', b', ())) ∧ Pl.okZ (Pl.muR (s', a', ()) (t, b, ()))) ∧ (Pl.cpR (Pl.muR (s, a, ()) (t', b', ())) (Pl.muR (s', a', ()) (t, b, ())), ()) = C73.post (((s, a, ()), (t, b, ()), ()), ((s', a', ()), (t', b', ()), ()), ())) (by kernel_rfl) ?_
  have n1 := okRQ_n h
  have n2 := okRQ_n k
  have d1 := okRQ_d h
  have d2 := okRQ_d k
  refine ⟨⟨h.1, k.2.1⟩, ⟨k.1, h.2.1⟩, ⟨okZ_mu n1 d2 M21, okZ_mu n2 d1 M21⟩, ?_⟩
  show (ordI (zv (muR (s, a, ()) (t', b', ()))) (zv (muR (s', a', ()) (t, b, ()))), ()) = (ordI (zv (s, a, ()) * zv (t', b', ())) (zv (s', a', ()) * zv (t, b, ())), ())
  rw [zv_mu, zv_mu]
theorem vc41 : ∀ x, C41.pre x → VC T41 H0 Tryz.f41 C41 x := by
  rintro ⟨⟨⟨(s : Bool), (a : List Int), ⟨⟩⟩, ⟨(t : Bool), (b : List Int), ⟨⟩⟩, ⟨⟩⟩, ⟨⟩⟩ (h : okRQ ((s, a, ()), (t, b, ()), ()))
  refine cast (α := Pl.okY (s, a, ()) ∧ (Pl.sgR (s, a, ()), ()) = C41.post (((s, a, ()), (t, b, ()), ()), ())) (by kernel_rfl) ?_
  exact ⟨okZ_Y h.1, rfl⟩
/-- A fraction's parts. -/
theorem rqv_parts {q : RQv} (h : okRQ q) : (rqv q).num = zv q.1 ∧ ((rqv q).den : Int) = zv q.2.1 := by
  obtain ⟨d, hd⟩ : ∃ d : Nat, zv q.2.1 = ((d + 1 : Nat) : Int) := ⟨(zv q.2.1).toNat - 1, by have := h.2.2.2.2.1; omega⟩
  have hn : nr q.2.1.2.1 = d + 1 := by rw [← natAbs_zv, hd, Int.natAbs_natCast]
  have hc : Nat.gcd (zv q.1).natAbs (d + 1) = 1 := by rw [natAbs_zv, ← hn]; exact h.2.2.2.2.2
  obtain ⟨k1, k2⟩ := num_mk hc
  unfold rqv
  rw [hd, Rat.divInt_ofNat]
  exact ⟨k1, by rw [k2]⟩
theorem decL_len {x : List Int} (h : rng BB x) : (Lib.decDigits (nr x)).length ≤ 9 * x.length + 1 := by
  refine dec_len (by omega) (Nat.lt_of_lt_of_le (nr_lt h) ?_)
  rw [BB_pow]; exact Nat.pow_le_pow_right (by decide) (by omega)
theorem txR_len {z : Rv} (h : okZ z) : (Lib.itoa (zv z)).length ≤ 40000000 := by
  obtain ⟨s, a, ⟨⟩⟩ := z
  have h1 := decL_len h.1.1
  have h2 := h.2.1
  simp only at h1 h2
  cases s with
  | true => rw [zv_t, Lib.itoa_neg _ (okZ_pos h), List.length_cons]; omega
  | false => rw [zv_f, Lib.itoa_nonneg]; omega
theorem cpR_mk (x : Rv) (n : Int) : cpR x (mkR n) = ordI (zv x) n := by show ordI (zv x) (zv (mkR n)) = _; rw [zv_mk]
theorem ordI_eq {x y : Int} : ordI x y = 0 ↔ x = y := by rw [← ordI_sub, ordI_eq0]; omega
theorem ordI_gt' {x y : Int} : ordI x y > 0 ↔ y < x := by
  unfold ordI
  by_cases h : x < y
  · rw [if_pos h]; omega
  · rw [if_neg h]
    by_cases h' : y < x
    · rw [if_pos h']; omega
    · rw [if_neg h']; omega
theorem ordI_lt' {x y : Int} : ordI x y < 0 ↔ x < y := by
  unfold ordI
  by_cases h : x < y
  · rw [if_pos h]; omega
  · rw [if_neg h]
    by_cases h' : y < x
    · rw [if_pos h']; omega
    · rw [if_neg h']; omega
theorem vc84 : ∀ x, C84.pre x → VC T84 H0 Tryz.f84 C84 x := by
  rintro ⟨⟨⟨(s : Bool), (a : List Int), ⟨⟩⟩, ⟨(t : Bool), (b : List Int), ⟨⟩⟩, ⟨⟩⟩, ⟨⟩⟩ (h : okRQ ((s, a, ()), (t, b, ()), ()))
  refine cast (α := Pl.rg64 (1 : Int) ∧ (Pl.okZ (t, b, ()) ∧ Pl.okZ (Pl.mkR (1 : Int))) ∧ Br (Pl.cpR (t, b, ()) (Pl.mkR (1 : Int)) == (0 : Int)) (Pl.okZ (s, a, ()) ∧ (Pl.txR (s, a, ()), ()) = C84.post (((s, a, ()), (t, b, ()), ()), ())) (Pl.okZ (s, a, ()) ∧ (↑((Pl.txR (s, a, ())).size + (ByteArray.mk #[(47 : UInt8)]).size) : Int) ≤ (9223372036854775807 : Int) ∧ Pl.okZ (t, b, ()) ∧ (↑((Pl.txR (s, a, ()) ++ (ByteArray.mk #[(47 : UInt8)])).size + (Pl.txR (t, b, ())).size) : Int) ≤ (9223372036854775807 : Int) ∧ (Pl.txR (s, a, ()) ++ (ByteArray.mk #[(47 : UInt8)]) ++ Pl.txR (t, b, ()), ()) = C84.post (((s, a, ()), (t, b, ()), ()), ()))) (by kernel_rfl) ?_
  obtain ⟨h1, h2⟩ := rqv_parts h
  simp only at h1 h2
  obtain ⟨r, hr⟩ : ∃ r, r = rqv ((s, a, ()), (t, b, ()), ()) := ⟨_, rfl⟩
  rw [← hr] at h1 h2
  have e : C84.post (((s, a, ()), (t, b, ()), ()), ()) = (ba (txtR r), ()) := by rw [hr]; rfl
  rw [e, cpR_mk, ← h2]
  have e1 : txR (s, a, ()) = ba (Lib.itoa r.num) := by rw [h1]; rfl
  have e2 : txR (t, b, ()) = ba (Lib.decDigits r.den) := by show ba (Lib.itoa (zv (t, b, ()))) = _; rw [← h2, itoa_nat]
  have e3 : (ByteArray.mk #[(47 : UInt8)]) = ba [47] := rfl
  have l1 := txR_len h.1
  have l2 := txR_len h.2.1
  simp only at l1 l2
  rw [← h1] at l1
  rw [← h2, itoa_nat] at l2
  refine ⟨rg64_1, ⟨h.2.1, okZ_64 rg64_1⟩, Br_of (fun hc => ⟨h.1, ?_⟩) (fun hc => ⟨h.1, ?_⟩)⟩
  · have hd : r.den = 1 := by
      have : ordI (r.den : Int) 1 = 0 := by simpa using hc
      rw [ordI_eq] at this; omega
    rw [e1]
    unfold txtR
    rw [if_pos hd]
  · have hd : ¬ r.den = 1 := fun h0 => by
      have : ordI (r.den : Int) 1 = 0 := ordI_eq.2 (by omega)
      rw [this] at hc; cases hc
    rw [e1, e2, e3, ba_append, ba_append, size_ba, size_ba, size_ba, size_ba]
    refine ⟨?_, h.2.1, ?_, ?_⟩
    · simp only [List.length_singleton]; omega
    · simp only [List.length_append, List.length_singleton]; omega
    · unfold txtR
      rw [if_neg hd, List.append_assoc]; rfl

/-! ### Powers, binomials, factorials -/
theorem pow_BX {m : Nat} (k : Nat) (h : m ≤ 29 * k) : 2 ^ m ≤ BB ^ k := by
  refine Nat.le_trans (Nat.pow_le_pow_right (by decide) h) ?_
  rw [Nat.pow_mul]
  exact Nat.pow_le_pow_left (by decide) k
theorem vc104 : ∀ x, C104.pre x → VC T104 H104 Tryz.f104 C104 x := by
  rintro ⟨(n : Int), ⟨⟩⟩ ⟨(h0 : 0 ≤ n), (h1 : n ≤ 100000)⟩
  refine cast (α := Pl.rg64 (1 : Int) ∧ ∃ (n_1 : Nat), itl (fun (G : (Bool × List Int × PUnit) × (Bool × List Int × PUnit) × Int × PUnit → Prop) (x : (Bool × List Int × PUnit) × (Bool × List Int × PUnit) × Int × PUnit) => Br (decide (x.snd.snd.fst < n)) ((Pl.okZ x.snd.fst ∧ Pl.okZ x.snd.fst) ∧ G (x.fst, Pl.adR x.snd.fst x.snd.fst, IntKind.i64.wrap (x.snd.snd.fst + (1 : Int)), ())) ((x.snd.fst, ()) = C104.post (n, ()))) n_1 ((false, [], ()), Pl.mkR (1 : Int), (0 : Int), ())) (by kernel_rfl) ?_
  obtain ⟨m, rfl⟩ := Int.eq_ofNat_of_zero_le h0
  have e : C104.post ((m : Int), ()) = (mkR (2 ^ m), ()) := by show (mkR (2 ^ (m : Int).toNat), ()) = _; rw [Int.toNat_natCast]
  rw [e]
  refine ⟨rg64_1, itl_rule (fun s => ∃ i : Nat, s.2.2.1 = (i : Int) ∧ i ≤ m ∧ s.2.1 = mkR (2 ^ i)) (fun s => m - s.2.2.1.toNat) ⟨0, rfl, by omega, rfl⟩ ?_⟩
  rintro ⟨bx, x, ii, ⟨⟩⟩ G ⟨i, hi, hle, hx⟩ hG
  simp only at hi hx
  subst hi hx
  simp only
  have hok : okZ (mkR (2 ^ i)) := by
    refine okZ_mk 4000 ?_ (by decide)
    rw [Int.natAbs_pow]
    show 2 ^ i < _
    refine Nat.lt_of_lt_of_le (Nat.pow_lt_pow_right (by decide) (show i < 100001 by omega)) (pow_BX 4000 (by decide))
  refine Br_of (fun hb => ?_) (fun hb => ?_)
  · have hlt : i < m := by have := of_decide_eq_true hb; omega
    rw [wrap_i64 (x := (i : Int) + 1) (by omega) (by omega)]
    refine ⟨⟨hok, hok⟩, hG _ ⟨i + 1, by simp only; omega, hlt, ?_⟩ (by simp only; omega)⟩
    show mkR (zv (mkR (2 ^ i)) + zv (mkR (2 ^ i))) = _
    rw [zv_mk, Int.pow_succ]
    congr 1; omega
  · have : i = m := by have := of_decide_eq_false hb; omega
    rw [this]
theorem nr_mkR (n : Int) : nr (mkR n).2.1 = n.natAbs := nr_rn _
theorem vc47 : ∀ x, C47.pre x → VC T47 H0 Tryz.f47 C47 x := by
  rintro ⟨⟨(s : Bool), (a : List Int), ⟨⟩⟩, ⟨⟩⟩ (h : okZ (s, a, ()))
  refine cast (α := ((0 : Int) ≤ (40000 : Int) ∧ (40000 : Int) ≤ (100000 : Int)) ∧ (Pl.okL a ∧ Pl.okL (Pl.twR (40000 : Int)).snd.1) ∧ (decide (Pl.cmpR a (Pl.twR (40000 : Int)).snd.1 < (0 : Int)), ()) = C47.post ((s, a, ()), ())) (by kernel_rfl) ?_
  have key : ∀ k : Nat, k ≤ 40000 → okL (twR (k : Int)).2.1 ∧ (decide (cmpR a (twR (k : Int)).2.1 < (0 : Int)) = decide ((zv (s, a, ())).natAbs < 2 ^ k)) := by
    intro k hk
    have e : twR (k : Int) = mkR (2 ^ k) := by show mkR (2 ^ (k : Int).toNat) = _; rw [Int.toNat_natCast]
    have e2 : ((2 : Int) ^ k).natAbs = 2 ^ k := by rw [Int.natAbs_pow]; rfl
    rw [e]
    constructor
    · refine ⟨rn_can _, ?_⟩
      refine Nat.le_trans (len_rn (k := 4000) ?_) (by decide)
      rw [e2]
      exact Nat.lt_of_lt_of_le (Nat.pow_lt_pow_right (by decide) (show k < 100001 by omega)) (pow_BX 4000 (by decide))
    · rw [natAbs_zv]
      show decide (cmpN (nr a) (nr (mkR (2 ^ k)).2.1) < 0) = _
      rw [nr_mkR, e2]
      exact decide_eq_decide.2 cmp_neg
  obtain ⟨k1, k2⟩ := key 40000 (Nat.le_refl _)
  refine ⟨⟨by decide, by decide⟩, ⟨okZ_L h, k1⟩, ?_⟩
  have k2' : decide (cmpR a (twR (40000 : Int)).2.1 < (0 : Int)) = smR (s, a, ()) := k2
  rw [k2']; rfl
theorem vc58 : ∀ x, C58.pre x → VC T58 H58 Tryz.f58 C58 x := by
  rintro ⟨⟨(s : Bool), (a : List Int), ⟨⟩⟩, (n : Int), ⟨⟩⟩ ⟨(h : okZ (s, a, ())), (h0 : 0 ≤ n), (h1 : n ≤ 1000000), (h2 : a.length * n.toNat ≤ 1000000)⟩
  refine cast (α := Pl.rg64 (1 : Int) ∧ ∃ (n_1 : Nat), itl (fun (G : (Bool × List Int × PUnit) × (Bool × List Int × PUnit) × Int × PUnit → Prop) (x : (Bool × List Int × PUnit) × (Bool × List Int × PUnit) × Int × PUnit) => Br (decide (x.snd.snd.fst < n)) ((Pl.okZ x.snd.fst ∧ Pl.okZ (s, a, ())) ∧ G (x.fst, Pl.muR x.snd.fst (s, a, ()), IntKind.i64.wrap (x.snd.snd.fst + (1 : Int)), ())) ((x.snd.fst, ()) = C58.post ((s, a, ()), n, ()))) n_1 ((false, [], ()), Pl.mkR (1 : Int), (0 : Int), ())) (by kernel_rfl) ?_
  obtain ⟨m, rfl⟩ := Int.eq_ofNat_of_zero_le h0
  rw [Int.toNat_natCast] at h2
  have e : C58.post ((s, a, ()), (m : Int), ()) = (mkR (zv (s, a, ()) ^ m), ()) := by show (mkR (zv (s, a, ()) ^ (m : Int).toNat), ()) = _; rw [Int.toNat_natCast]
  rw [e]
  refine ⟨rg64_1, itl_rule (fun st => ∃ i : Nat, st.2.2.1 = (i : Int) ∧ i ≤ m ∧ st.2.1 = mkR (zv (s, a, ()) ^ i)) (fun st => m - st.2.2.1.toNat) ⟨0, rfl, by omega, by rw [Int.pow_zero]⟩ ?_⟩
  rintro ⟨bx, x, ii, ⟨⟩⟩ G ⟨i, hi, hle, hx⟩ hG
  simp only at hi hx
  subst hi hx
  simp only
  have hok : okZ (mkR (zv (s, a, ()) ^ i)) := by
    refine okZ_mk (a.length * i + 1) ?_ ?_
    · rw [Int.natAbs_pow, natAbs_zv, Nat.pow_succ, Nat.pow_mul]
      have h5 := Nat.pow_le_pow_left (Nat.le_of_lt (nr_lt h.1.1)) i
      have h6 : 0 < (BB ^ a.length) ^ i := Nat.pow_pos (pow_B_pos _)
      have h7 : (BB ^ a.length) ^ i * 2 ≤ (BB ^ a.length) ^ i * BB := Nat.mul_le_mul_left _ BB2
      simp only at h5 ⊢
      omega
    · have := Nat.mul_le_mul_left a.length hle
      omega
  refine Br_of (fun hb => ?_) (fun hb => ?_)
  · have hlt : i < m := by have := of_decide_eq_true hb; omega
    rw [wrap_i64 (x := (i : Int) + 1) (by omega) (by omega)]
    refine ⟨⟨hok, h⟩, hG _ ⟨i + 1, by simp only; omega, hlt, ?_⟩ (by simp only; omega)⟩
    show mkR (zv (mkR (zv (s, a, ()) ^ i)) * zv (s, a, ())) = _
    rw [zv_mk, Int.pow_succ]
  · have : i = m := by have := of_decide_eq_false hb; omega
    rw [this]
theorem okZ_nat {z : Nat} (h : z ≤ 2 ^ 10000 * 1000) : okZ (mkR ((z : Nat) : Int)) := by
  refine okZ_mk 400 ?_ (by decide)
  rw [Int.natAbs_natCast]
  have h3 := pow_BX (m := 10000) 345 (by decide)
  have h4 : BB ^ 345 * 1000 < BB ^ 345 * BB := Nat.mul_lt_mul_of_pos_left (by decide) (pow_B_pos _)
  have h5 := Nat.mul_le_mul_right 1000 h3
  have h6 : BB ^ 345 * BB = BB ^ 346 := (Nat.pow_succ ..).symm
  have h7 := pow_le_B (show 346 ≤ 400 by decide)
  generalize 2 ^ 10000 = A at *
  generalize BB ^ 345 = B1 at *
  omega
theorem fac_le' {j : Nat} (h : j ≤ 1000) : fac j ≤ 2 ^ 10000 * 1000 := by
  have h1 := fac_le j h
  have h2 : 2 ^ (10 * j) ≤ 2 ^ 10000 := Nat.pow_le_pow_right (by decide) (by omega)
  generalize 2 ^ 10000 = A at *
  omega
theorem fac_succ (n : Nat) : fac (n + 1) = (n + 1) * fac n := rfl
theorem vc62 : ∀ x, C62.pre x → VC T58 H62 Tryz.f62 C62 x := by
  rintro ⟨(n : Int), ⟨⟩⟩ ⟨(h0 : 0 ≤ n), (h1 : n ≤ 1000)⟩
  refine cast (α := Pl.rg64 (1 : Int) ∧ ∃ (n_1 : Nat), itl (fun (G : (Bool × List Int × PUnit) × (Bool × List Int × PUnit) × Int × PUnit → Prop) (x : (Bool × List Int × PUnit) × (Bool × List Int × PUnit) × Int × PUnit) => Br (decide (x.snd.snd.fst ≤ n)) (Pl.rg64 x.snd.snd.fst ∧ (Pl.okZ x.snd.fst ∧ Pl.okZ (Pl.mkR x.snd.snd.fst)) ∧ G (x.fst, Pl.muR x.snd.fst (Pl.mkR x.snd.snd.fst), IntKind.i64.wrap (x.snd.snd.fst + (1 : Int)), ())) ((x.snd.fst, ()) = C62.post (n, ()))) n_1 ((false, [], ()), Pl.mkR (1 : Int), (2 : Int), ())) (by kernel_rfl) ?_
  obtain ⟨m, rfl⟩ := Int.eq_ofNat_of_zero_le h0
  have e : C62.post ((m : Int), ()) = (mkR ((fac m : Nat) : Int), ()) := by show (mkR ((fac (m : Int).toNat : Nat) : Int), ()) = _; rw [Int.toNat_natCast]
  rw [e]
  refine ⟨rg64_1, itl_rule (fun st => ∃ i : Nat, st.2.2.1 = ((i + 1 : Nat) : Int) ∧ 1 ≤ i ∧ (i ≤ m ∨ i = 1) ∧ st.2.1 = mkR ((fac i : Nat) : Int)) (fun st => m + 1 - st.2.2.1.toNat) ⟨1, rfl, Nat.le_refl _, .inr rfl, rfl⟩ ?_⟩
  rintro ⟨bx, x, ii, ⟨⟩⟩ G ⟨i, hi, h3, hle, hx⟩ hG
  simp only at hi hx
  subst hi hx
  simp only
  have hi2 : i ≤ 1000 := by omega
  refine Br_of (fun hb => ?_) (fun hb => ?_)
  · have hlt : i < m := by have := of_decide_eq_true hb; omega
    rw [wrap_i64 (x := ((i + 1 : Nat) : Int) + 1) (by omega) (by omega)]
    refine ⟨⟨by omega, by omega⟩, ⟨okZ_nat (fac_le' hi2), okZ_64 ⟨by omega, by omega⟩⟩, hG _ ⟨i + 1, by simp only; omega, by omega, .inl hlt, ?_⟩ (by simp only; omega)⟩
    show mkR (zv (mkR ((fac i : Nat) : Int)) * zv (mkR ((i + 1 : Nat) : Int))) = _
    rw [zv_mk, zv_mk, ← Int.natCast_mul, fac_succ, Nat.mul_comm]
  · have hge : m ≤ i := by have := of_decide_eq_false hb; omega
    rcases hle with h4 | h4
    · rw [show i = m by omega]
    · subst h4
      have : fac m = fac 1 := by
        rcases Nat.eq_zero_or_pos m with h5 | h5
        · subst h5; rfl
        · rw [show m = 1 by omega]
      rw [this]
theorem cho_le' {n k : Nat} (h : n ≤ 1000) : cho n k ≤ 2 ^ 1000 := Nat.le_trans (cho_le n k) (Nat.pow_le_pow_right (by decide) h)
theorem le_big {z : Nat} (h : z ≤ 2 ^ 1000 * 1000) : z ≤ 2 ^ 10000 * 1000 := Nat.le_trans h (Nat.mul_le_mul_right _ (Nat.pow_le_pow_right (by decide) (by decide)))
theorem vc61 : ∀ x, C61.pre x → VC T61 H61 Tryz.f61 C61 x := by
  rintro ⟨(n : Int), (k : Int), ⟨⟩⟩ ⟨(h0 : 0 ≤ n), (h1 : n ≤ 1000)⟩
  refine cast (α := Br (decide (k < (0 : Int))) (((false, [], ()), ()) = C61.post (n, k, ())) (Br (decide (k > n)) (((false, [], ()), ()) = C61.post (n, k, ())) (Pl.rg64 (1 : Int) ∧ ∃ (n_1 : Nat), itl (fun (G : (Bool × List Int × PUnit) × (Bool × List Int × PUnit) × Int × PUnit → Prop) (x : (Bool × List Int × PUnit) × (Bool × List Int × PUnit) × Int × PUnit) => Br (decide (x.snd.snd.fst ≤ k)) (Pl.rg64 (IntKind.i64.wrap (IntKind.i64.wrap (n - k) + x.snd.snd.fst)) ∧ (Pl.okZ x.snd.fst ∧ Pl.okZ (Pl.mkR (IntKind.i64.wrap (IntKind.i64.wrap (n - k) + x.snd.snd.fst)))) ∧ Pl.rg64 x.snd.snd.fst ∧ (Pl.okZ (Pl.muR x.snd.fst (Pl.mkR (IntKind.i64.wrap (IntKind.i64.wrap (n - k) + x.snd.snd.fst)))) ∧ Pl.okZ (Pl.mkR x.snd.snd.fst) ∧ (Pl.mkR x.snd.snd.fst).snd.1 ≠ []) ∧ G (x.fst, Pl.qoR (Pl.muR x.snd.fst (Pl.mkR (IntKind.i64.wrap (IntKind.i64.wrap (n - k) + x.snd.snd.fst)))) (Pl.mkR x.snd.snd.fst), IntKind.i64.wrap (x.snd.snd.fst + (1 : Int)), ())) ((x.snd.fst, ()) = C61.post (n, k, ()))) n_1 ((false, [], ()), Pl.mkR (1 : Int), (1 : Int), ())))) (by kernel_rfl) ?_
  have e : C61.post (n, k, ()) = (if k < 0 ∨ n < k then mkR 0 else mkR ((cho n.toNat k.toNat : Nat) : Int), ()) := rfl
  rw [e]
  refine Br_of (fun h => by rw [if_pos (.inl (of_decide_eq_true h))]; rfl) (fun h => Br_of (fun h' => by rw [if_pos (.inr (of_decide_eq_true h'))]; rfl) (fun h' => ?_))
  have hk0 := of_decide_eq_false h
  have hkn := of_decide_eq_false h'
  obtain ⟨m, rfl⟩ := Int.eq_ofNat_of_zero_le h0
  obtain ⟨j, rfl⟩ := Int.eq_ofNat_of_zero_le (show 0 ≤ k by omega)
  rw [if_neg (by omega), Int.toNat_natCast, Int.toNat_natCast]
  have wd : IntKind.i64.wrap ((m : Int) - (j : Int)) = ((m - j : Nat) : Int) := by rw [wrap_i64 (by omega) (by omega)]; omega
  rw [wd]
  refine ⟨rg64_1, itl_rule (fun st => ∃ i : Nat, st.2.2.1 = ((i + 1 : Nat) : Int) ∧ i ≤ j ∧ st.2.1 = mkR ((cho (m - j + i) i : Nat) : Int)) (fun st => j + 1 - st.2.2.1.toNat) ⟨0, rfl, by omega, by rw [cho_zero]; rfl⟩ ?_⟩
  rintro ⟨bx, x, ii, ⟨⟩⟩ G ⟨i, hi, hle, hx⟩ hG
  simp only at hi hx
  subst hi hx
  simp only
  refine Br_of (fun hb => ?_) (fun hb => ?_)
  · have hlt : i < j := by have := of_decide_eq_true hb; omega
    have w2 : IntKind.i64.wrap (((m - j : Nat) : Int) + ((i + 1 : Nat) : Int)) = ((m - j + i + 1 : Nat) : Int) := by rw [wrap_i64 (by omega) (by omega)]; omega
    rw [w2, wrap_i64 (x := ((i + 1 : Nat) : Int) + 1) (by omega) (by omega)]
    have hc := cho_le' (n := m - j + i) (k := i) (by omega)
    have hmul := cho_mul (m - j + i) i
    have hp : cho (m - j + i) i * (m - j + i + 1) ≤ 2 ^ 1000 * 1000 := Nat.mul_le_mul hc (by omega)
    have o1 : okZ (mkR ((cho (m - j + i) i : Nat) : Int)) := okZ_nat (le_big (Nat.le_trans hc (Nat.le_mul_of_pos_right _ (by decide))))
    have em : muR (mkR ((cho (m - j + i) i : Nat) : Int)) (mkR ((m - j + i + 1 : Nat) : Int)) = mkR ((cho (m - j + i) i * (m - j + i + 1) : Nat) : Int) := by
      show mkR (zv (mkR _) * zv (mkR _)) = _
      rw [zv_mk, zv_mk, ← Int.natCast_mul]
    rw [em]
    refine ⟨⟨by omega, by omega⟩, ⟨o1, okZ_64 ⟨by omega, by omega⟩⟩, ⟨by omega, by omega⟩, ⟨okZ_nat (le_big hp), okZ_64 ⟨by omega, by omega⟩, ne_zv (by rw [zv_mk]; omega)⟩, hG _ ⟨i + 1, by simp only; omega, hlt, ?_⟩ (by simp only; omega)⟩
    show mkR ((zv (mkR _)).tdiv (zv (mkR _))) = _
    rw [zv_mk, zv_mk, Nat.mul_comm, hmul]
    have : (((cho (m - j + i + 1) (i + 1) * (i + 1) : Nat)) : Int).tdiv ((i + 1 : Nat) : Int) = ((cho (m - j + i + 1) (i + 1) * (i + 1) / (i + 1) : Nat) : Int) := rfl
    rw [this, Nat.mul_div_cancel _ (by omega)]; rfl
  · have hij : i = j := by have := of_decide_eq_false hb; omega
    subst hij
    rw [show m - i + i = m by omega]

theorem vc49 : ∀ x, C49.pre x → VC T49 H49 Tryz.f49 C49 x := by
  rintro ⟨⟨(s : Bool), (a : List Int), ⟨⟩⟩, ⟨⟩⟩ (h : okZ (s, a, ()))
  refine cast (α := Pl.rg64 (9223372036854775807 : Int) ∧ (Pl.okZ (s, a, ()) ∧ Pl.okZ (Pl.mkR (9223372036854775807 : Int))) ∧ Br (decide (Pl.cpR (s, a, ()) (Pl.mkR (9223372036854775807 : Int)) > (0 : Int))) (((0 : Int), false, ()) = C49.post ((s, a, ()), ())) (Pl.rg64 (-9223372036854775808 : Int) ∧ (Pl.okZ (s, a, ()) ∧ Pl.okZ (Pl.mkR (-9223372036854775808 : Int))) ∧ Br (decide (Pl.cpR (s, a, ()) (Pl.mkR (-9223372036854775808 : Int)) < (0 : Int))) (((0 : Int), false, ()) = C49.post ((s, a, ()), ())) (∃ (n : Nat), itl (fun (G : Int × Int × PUnit → Prop) (x : Int × Int × PUnit) => Br (decide (x.snd.fst ≥ (0 : Int))) (Br s ((0 : Int) ≤ x.snd.fst ∧ x.snd.fst < (↑a.length : Int) ∧ G (IntKind.i64.wrap (IntKind.i64.wrap (x.fst * (1000000000 : Int)) - rd i64 a x.snd.fst), IntKind.i64.wrap (x.snd.fst - (1 : Int)), ())) ((0 : Int) ≤ x.snd.fst ∧ x.snd.fst < (↑a.length : Int) ∧ G (IntKind.i64.wrap (IntKind.i64.wrap (x.fst * (1000000000 : Int)) + rd i64 a x.snd.fst), IntKind.i64.wrap (x.snd.fst - (1 : Int)), ()))) ((x.fst, true, ()) = C49.post ((s, a, ()), ()))) n ((0 : Int), IntKind.i64.wrap ((↑a.length : Int) - (1 : Int)), ())))) (by kernel_rfl) ?_
  have e : C49.post ((s, a, ()), ()) = (if in64 (zv (s, a, ())) then zv (s, a, ()) else 0, in64 (zv (s, a, ())), ()) := rfl
  rw [e, cpR_mk, cpR_mk]
  have hout : ¬ (-9223372036854775808 ≤ zv (s, a, ()) ∧ zv (s, a, ()) < 9223372036854775808) → ((0 : Int), false, ()) = ((if in64 (zv (s, a, ())) then zv (s, a, ()) else 0), in64 (zv (s, a, ())), ()) := fun hn => by
    have : in64 (zv (s, a, ())) = false := decide_eq_false hn
    rw [this]; rfl
  refine ⟨⟨by decide, by decide⟩, ⟨h, okZ_64 ⟨by decide, by decide⟩⟩, Br_of (fun hb => hout ?_) (fun hb => ⟨⟨by decide, by decide⟩, ⟨h, okZ_64 ⟨by decide, by decide⟩⟩, Br_of (fun hc => hout ?_) (fun hc => ?_)⟩)⟩
  · have := ordI_gt'.1 (of_decide_eq_true hb)
    omega
  · have := ordI_lt'.1 (of_decide_eq_true hc)
    omega
  · have h1 : ¬ 9223372036854775807 < zv (s, a, ()) := fun h => of_decide_eq_false hb (ordI_gt'.2 h)
    have h2 : ¬ zv (s, a, ()) < -9223372036854775808 := fun h => of_decide_eq_false hc (ordI_lt'.2 h)
    have hin : in64 (zv (s, a, ())) = true := decide_eq_true ⟨by omega, by omega⟩
    rw [hin]
    have hl := h.2.1
    have cx := h.1.1
    simp only at hl cx
    have hA : nr a ≤ 9223372036854775808 ∧ (s = false → nr a ≤ 9223372036854775807) := by
      cases s with
      | true => rw [zv_t] at h1 h2; exact ⟨by omega, fun h => by cases h⟩
      | false => rw [zv_f] at h1 h2; exact ⟨by omega, fun _ => by omega⟩
    rw [wrap_i64 (x := (a.length : Int) - 1) (by omega) (by omega)]
    refine itl_rule (fun st => ∃ j : Nat, st.2.1 = (j : Int) - 1 ∧ j ≤ a.length ∧ st.1 = (if s then -((vl BB (a.drop j) : Nat) : Int) else ((vl BB (a.drop j) : Nat) : Int))) (fun st => (st.2.1 + 1).toNat) ⟨a.length, rfl, Nat.le_refl _, by cases s <;> simp [vl]⟩ ?_
    rintro ⟨n, i, ⟨⟩⟩ G ⟨j, hi, hle, hn⟩ hG
    simp only at hi hn
    subst hi hn
    simp only
    refine Br_of (fun hd => ?_) (fun hd => ?_)
    · have hj : 1 ≤ j := by have := of_decide_eq_true hd; omega
      obtain ⟨p, rfl⟩ : ∃ p, j = p + 1 := ⟨j - 1, by omega⟩
      have ep : ((p + 1 : Nat) : Int) - 1 = (p : Int) := by omega
      rw [ep]
      have wR := rngB cx p
      have hrR : rd i64 a (p : Int) = a.getD p 0 := rfl
      have hdp : vl BB (a.drop p) = (a.getD p 0).toNat + 1000000000 * vl BB (a.drop (p + 1)) := by rw [getD_get (by omega)]; exact vl_drop_cons (by omega)
      have hle2 : vl BB (a.drop p) ≤ nr a := Nat.le_trans (Nat.le_mul_of_pos_left _ (pow_B_pos p)) (vl_drop_le (by omega))
      rw [hrR, wrap_i64 (x := (p : Int) - 1) (by omega) (by omega)]
      refine Br_of (fun hs => ⟨by omega, by omega, hG _ ⟨p, rfl, by omega, ?_⟩ (by simp only; omega)⟩) (fun hs => ⟨by omega, by omega, hG _ ⟨p, rfl, by omega, ?_⟩ (by simp only; omega)⟩)
      · subst hs
        simp only [if_true]
        have hA1 := hA.1
        generalize vl BB (a.drop (p + 1)) = z1 at hdp ⊢
        generalize vl BB (a.drop p) = z2 at hdp hle2 ⊢
        generalize nr a = z3 at hle2 hA1
        rw [wrap_i64 (x := -(z1 : Int) * 1000000000) (by omega) (by omega), wrap_i64 (by omega) (by omega)]
        omega
      · subst hs
        simp only [Bool.false_eq_true, if_false]
        have hA2 := hA.2 rfl
        generalize vl BB (a.drop (p + 1)) = z1 at hdp ⊢
        generalize vl BB (a.drop p) = z2 at hdp hle2 ⊢
        generalize nr a = z3 at hle2 hA2
        rw [wrap_i64 (x := (z1 : Int) * 1000000000) (by omega) (by omega), wrap_i64 (by omega) (by omega)]
        omega
    · have hj : j = 0 := by have := of_decide_eq_false hd; omega
      subst hj
      rfl

end Ta
end
section
/- The reference's texts of integers. -/
set_option linter.unusedVariables false
set_option linter.unusedSimpArgs false
set_option maxRecDepth 100000
namespace Ta
open Go Fw Go.Proofs Pl

abbrev u8t : Ty := .int .u8
theorem rd8 {l : List Int} {i : Nat} : rd (Ty.int IntKind.u8) l (i : Int) = l.getD i 0 := rfl
theorem baOf_aux (l : List Int) : ∀ r : ByteArray, l.foldl (fun (r : ByteArray) (n : Int) => r.push (UInt8.ofNat n.toNat)) r = ba (bl r ++ l.map fun n => UInt8.ofNat n.toNat) := by
  induction l with
  | nil => intro r; rw [List.map_nil, List.append_nil]; exact (ba_bl r).symm
  | cons x l ih =>
    intro r
    rw [List.foldl_cons, ih]
    obtain ⟨⟨r⟩⟩ := r
    show ba (bl _ ++ _) = _
    congr 1
    show (ByteArray.push _ _).data.toList ++ _ = _
    simp [ByteArray.push, bl]
theorem baOf_eq (l : List Int) : baOf l = ba (l.map fun n => UInt8.ofNat n.toNat) := by
  show l.foldl _ ByteArray.empty = _
  rw [baOf_aux]; rfl
/-- The digits' signs. -/
def ch (l : List Int) : List Int := l.map fun d => 48 + d
theorem ch_snoc (l : List Int) (d : Int) : ch l ++ [48 + d] = ch (l ++ [d]) := by unfold ch; simp
theorem ch_len (l : List Int) : (ch l).length = l.length := by unfold ch; simp
theorem ch_getD {l : List Int} {i : Nat} (h : i < l.length) : (ch l).getD i 0 = 48 + l.getD i 0 := by
  rw [getD_get (by rw [ch_len]; exact h), getD_get h]
  unfold ch
  rw [List.getElem_map]
theorem ch_take (l : List Int) (n : Nat) : (ch l).take n = ch (l.take n) := by unfold ch; rw [List.map_take]
theorem dec_dg : ∀ (f n : Nat), n ≤ f → 0 < n → (ch (dg 10 n)).reverse.map (fun x => UInt8.ofNat x.toNat) = Lib.decDigits n
  | 0, n, h, h0 => by omega
  | f + 1, n, h, h0 => by
    rw [dg_step (by decide) h0]
    by_cases h1 : n < 10
    · rw [dec_small h1, Nat.div_eq_of_lt h1, dg_zero, Nat.mod_eq_of_lt h1]
      simp only [ch, List.map_cons, List.map_nil, List.reverse_cons, List.reverse_nil, List.nil_append]
      congr 2 <;> omega
    · rw [dec_big h1, ← dec_dg f (n / 10) (by omega) (by omega)]
      simp only [ch, List.map_cons, List.reverse_cons, List.map_append, List.map_nil]
      congr 3 <;> omega
theorem getD_rev {L : List Int} {j : Nat} (h : j < L.length) : L.reverse.getD j 0 = L.getD (L.length - 1 - j) 0 := by
  rw [getD_get (by rw [List.length_reverse]; exact h), getD_get (by omega), List.getElem_reverse]
theorem ext_getD {l m : List Int} (h : l.length = m.length) (he : ∀ j, j < l.length → l.getD j 0 = m.getD j 0) : l = m :=
  List.ext_getElem h fun j h1 h2 => by
    have := he j h1
    rwa [getD_get h1, getD_get h2] at this
theorem rev_ok {L : List Int} (hL : L.length ≤ 100000000) (h0 : 0 < L.length) (P : List Int → Prop) (hP : P L.reverse) : ∃ n : Nat,
    itl
      (fun (G : List Int × Int × Int × PUnit → Prop) (x : List Int × Int × Int × PUnit) =>
        let v5 := List.length x.fst;
        let v6 := Int.toNat x.snd.fst;
        let v7 := rd (Ty.int IntKind.u8) x.fst x.snd.snd.fst;
        let v8 := List.set x.fst v6 v7;
        Br (decide (x.snd.fst < x.snd.snd.fst))
          ((0 : Int) ≤ x.snd.fst ∧
            x.snd.fst < (v5 : Int) ∧
              (0 : Int) ≤ x.snd.fst ∧
                x.snd.fst < (v5 : Int) ∧
                  (0 : Int) ≤ x.snd.snd.fst ∧
                    x.snd.snd.fst < (v5 : Int) ∧
                      (0 : Int) ≤ x.snd.snd.fst ∧
                        x.snd.snd.fst < (v5 : Int) ∧
                          (0 : Int) ≤ x.snd.fst ∧
                            x.snd.fst < (v5 : Int) ∧
                              (0 : Int) ≤ x.snd.fst ∧
                                x.snd.fst < (v5 : Int) ∧
                                  (0 : Int) ≤ x.snd.snd.fst ∧
                                    x.snd.snd.fst < (v8.length : Int) ∧
                                      (0 : Int) ≤ x.snd.snd.fst ∧
                                        x.snd.snd.fst < (v8.length : Int) ∧
                                          G
                                            (v8.set (Int.toNat x.snd.snd.fst)
                                                (rd (Ty.int IntKind.u8) x.fst x.snd.fst),
                                              IntKind.i64.wrap (x.snd.fst + (1 : Int)),
                                              IntKind.i64.wrap (x.snd.snd.fst - (1 : Int)),
                                              ()))
          (P x.1))
      n (L, (0 : Int), ((L.length - 1 : Nat) : Int), ()) := by
  refine itl_rule (fun s => ∃ i k : Nat, s.2.1 = (i : Int) ∧ s.2.2.1 = (k : Int) - 1 ∧ i + k = L.length ∧ s.1.length = L.length ∧ ∀ j, j < L.length → s.1.getD j 0 = if j < i ∨ k ≤ j then L.getD (L.length - 1 - j) 0 else L.getD j 0) (fun s => s.2.2.1.toNat)
    ⟨0, L.length, rfl, by simp only; omega, by omega, rfl, fun j hj => by rw [if_neg (by omega)]⟩ ?_
  rintro ⟨l, i', k', ⟨⟩⟩ G ⟨i, k, hi, hk, h1, h2, h3⟩ hG
  simp only at hi hk h2 h3
  subst hi hk
  simp only
  refine Br_of (fun hb => ?_) (fun hb => ?_)
  · have hlt : i + 1 < k := by have := of_decide_eq_true hb; omega
    obtain ⟨p, rfl⟩ : ∃ p, k = p + 1 := ⟨k - 1, by omega⟩
    have ep : ((p + 1 : Nat) : Int) - 1 = (p : Int) := by omega
    rw [ep, Int.toNat_natCast, Int.toNat_natCast, wrap_i64 (x := (i : Int) + 1) (by omega) (by omega), wrap_i64 (x := (p : Int) - 1) (by omega) (by omega), rd8, rd8]
    refine ⟨by omega, by omega, by omega, by omega, by omega, by omega, by omega, by omega, by omega, by omega, by omega, by omega, by omega, by rw [List.length_set]; omega, by omega, by rw [List.length_set]; omega, hG _ ⟨i + 1, p, rfl, rfl, by omega, by simp only [List.length_set]; exact h2, ?_⟩ (by simp only; omega)⟩
    intro j hj
    simp only
    have hi3 := h3 i (by omega)
    have hp3 := h3 p (by omega)
    rw [if_neg (by omega)] at hi3 hp3
    rw [getD_set, List.length_set]
    by_cases e1 : p = j
    · rw [if_pos ⟨e1, by omega⟩, if_pos (by omega), hi3]
      congr 1; omega
    · rw [if_neg (fun h => e1 h.1), getD_set]
      by_cases e2 : i = j
      · rw [if_pos ⟨e2, by omega⟩, if_pos (by omega), hp3]
        congr 1; omega
      · rw [if_neg (fun h => e2 h.1), h3 j hj]
        by_cases e3 : j < i ∨ p + 1 ≤ j
        · rw [if_pos e3, if_pos (by omega)]
        · rw [if_neg e3, if_neg (by omega)]
  · have hge : k ≤ i + 1 := by have := of_decide_eq_false hb; omega
    have : l = L.reverse := by
      refine ext_getD (by rw [List.length_reverse]; exact h2) fun j hj => ?_
      rw [h2] at hj
      rw [h3 j hj, getD_rev hj]
      by_cases e3 : j < i ∨ k ≤ j
      · rw [if_pos e3]
      · rw [if_neg e3]
        congr 1; omega
    rw [this]; exact hP

theorem vc82 : ∀ x, C82.pre x → VC T0 H82 Tryz.f82 C82 x := by
  rintro ⟨⟨(s : Bool), (a : List Int), ⟨⟩⟩, ⟨⟩⟩ (h : okZ (s, a, ()))
  refine cast (α := let v1 := [(45 : Int)]; let v2 := (s, a, ()); Br ((↑a.length : Int) == (0 : Int)) (((ByteArray.mk #[(48 : UInt8)]), ()) = C82.post (v2, ())) (∃ (n : Nat), itl (fun (G : List Int × Int × PUnit → Prop) (x : List Int × Int × PUnit) => Br (decide (x.snd.fst < (↑a.length : Int))) ((0 : Int) ≤ x.snd.fst ∧ x.snd.fst < (↑a.length : Int) ∧ ∃ (n : Nat), itl (fun (G_1 : List Int × Int × Int × PUnit → Prop) (x_1 : List Int × Int × Int × PUnit) => Br (decide (x_1.snd.snd.fst < (9 : Int))) ((10 : Int) ≠ (0 : Int) ∧ ((↑(List.length x_1.fst) : Int) + (↑[IntKind.u8.wrap (IntKind.i64.wrap ((48 : Int) + Int.tmod x_1.snd.fst (10 : Int)))].length : Int)) * (1 : Int) ≤ (140737488355328 : Int) ∧ (10 : Int) ≠ (0 : Int) ∧ G_1 (List.append x_1.fst [IntKind.u8.wrap (IntKind.i64.wrap ((48 : Int) + Int.tmod x_1.snd.fst (10 : Int)))], IntKind.i64.wrap (Int.tdiv x_1.snd.fst (10 : Int)), IntKind.i64.wrap (x_1.snd.snd.fst + (1 : Int)), ())) (G (x_1.1, IntKind.i64.wrap (x.snd.fst + (1 : Int)), ()))) n (x.1, rd i64 a x.snd.fst, (0 : Int), ())) (∃ (n : Nat), itl (fun (G : List Int × PUnit → Prop) (x : List Int × PUnit) => let v3 := List.length x.fst; let v4 := (↑v3 : Int) - (1 : Int); (0 : Int) ≤ IntKind.i64.wrap v4 ∧ IntKind.i64.wrap v4 < (↑v3 : Int) ∧ (0 : Int) ≤ IntKind.i64.wrap v4 ∧ IntKind.i64.wrap v4 < (↑v3 : Int) ∧ Br (rd (Ty.int IntKind.u8) x.fst (IntKind.i64.wrap v4) == (48 : Int)) ((0 : Int) ≤ IntKind.i64.wrap v4 ∧ IntKind.i64.wrap v4 ≤ (↑v3 : Int) ∧ G (List.take (IntKind.i64.wrap v4).toNat x.fst, ())) (Br s (((↑v3 : Int) + (↑v1.length : Int)) * (1 : Int) ≤ (140737488355328 : Int) ∧ ∃ (n : Nat), itl (fun (G : List Int × Int × Int × PUnit → Prop) (x : List Int × Int × Int × PUnit) => let v5 := List.length x.fst; let v6 := Int.toNat x.snd.fst; let v7 := rd (Ty.int IntKind.u8) x.fst x.snd.snd.fst; let v8 := List.set x.fst v6 v7; Br (decide (x.snd.fst < x.snd.snd.fst)) ((0 : Int) ≤ x.snd.fst ∧ x.snd.fst < (↑v5 : Int) ∧ (0 : Int) ≤ x.snd.fst ∧ x.snd.fst < (↑v5 : Int) ∧ (0 : Int) ≤ x.snd.snd.fst ∧ x.snd.snd.fst < (↑v5 : Int) ∧ (0 : Int) ≤ x.snd.snd.fst ∧ x.snd.snd.fst < (↑v5 : Int) ∧ (0 : Int) ≤ x.snd.fst ∧ x.snd.fst < (↑v5 : Int) ∧ (0 : Int) ≤ x.snd.fst ∧ x.snd.fst < (↑v5 : Int) ∧ (0 : Int) ≤ x.snd.snd.fst ∧ x.snd.snd.fst < (↑v8.length : Int) ∧ (0 : Int) ≤ x.snd.snd.fst ∧ x.snd.snd.fst < (↑v8.length : Int) ∧ G (v8.set (Int.toNat x.snd.snd.fst) (rd (Ty.int IntKind.u8) x.fst x.snd.fst), IntKind.i64.wrap (x.snd.fst + (1 : Int)), IntKind.i64.wrap (x.snd.snd.fst - (1 : Int)), ())) ((baOf x.1, ()) = C82.post (v2, ()))) n (List.append x.fst v1, (0 : Int), IntKind.i64.wrap ((↑(x.fst ++ v1).length : Int) - (1 : Int)), ())) (∃ (n : Nat), itl (fun (G : List Int × Int × Int × PUnit → Prop) (x : List Int × Int × Int × PUnit) => let v5 := List.length x.fst; let v6 := Int.toNat x.snd.fst; let v7 := rd (Ty.int IntKind.u8) x.fst x.snd.snd.fst; let v8 := List.set x.fst v6 v7; Br (decide (x.snd.fst < x.snd.snd.fst)) ((0 : Int) ≤ x.snd.fst ∧ x.snd.fst < (↑v5 : Int) ∧ (0 : Int) ≤ x.snd.fst ∧ x.snd.fst < (↑v5 : Int) ∧ (0 : Int) ≤ x.snd.snd.fst ∧ x.snd.snd.fst < (↑v5 : Int) ∧ (0 : Int) ≤ x.snd.snd.fst ∧ x.snd.snd.fst < (↑v5 : Int) ∧ (0 : Int) ≤ x.snd.fst ∧ x.snd.fst < (↑v5 : Int) ∧ (0 : Int) ≤ x.snd.fst ∧ x.snd.fst < (↑v5 : Int) ∧ (0 : Int) ≤ x.snd.snd.fst ∧ x.snd.snd.fst < (↑v8.length : Int) ∧ (0 : Int) ≤ x.snd.snd.fst ∧ x.snd.snd.fst < (↑v8.length : Int) ∧ G (v8.set (Int.toNat x.snd.snd.fst) (rd (Ty.int IntKind.u8) x.fst x.snd.fst), IntKind.i64.wrap (x.snd.fst + (1 : Int)), IntKind.i64.wrap (x.snd.snd.fst - (1 : Int)), ())) ((baOf x.1, ()) = C82.post (v2, ()))) n (x.1, (0 : Int), IntKind.i64.wrap v4, ())))) n (x.1, ()))) n ([], (0 : Int), ()))) (by kernel_rfl) ?_
  intro v1 v2
  have e : C82.post (v2, ()) = (ba (Lib.itoa (zv (s, a, ()))), ()) := rfl
  have hv1 : v1 = [45] := rfl
  rw [e]
  clear_value v2 v1
  subst hv1
  have ca := h.1
  have la := h.2.1
  simp only at ca la
  refine Br_of (fun hb => ?_) (fun hb => ?_)
  · have h0 : a = [] := List.eq_nil_of_length_eq_zero (by have : (a.length : Int) = 0 := by simpa using hb
                                                          omega)
    have hz : zv (s, a, ()) = 0 := (zv_nil (okZ_Y h)).2 h0
    rw [hz]
    show (ba [48], ()) = (ba (Lib.itoa ((0 : Nat) : Int)), ())
    rw [itoa_nat, dec_small (by decide)]; rfl
  have hne : a ≠ [] := fun h0 => by rw [h0] at hb; cases hb
  have hN := nr_pos ca hne
  obtain ⟨N, hNe⟩ : ∃ N, N = nr a := ⟨_, rfl⟩
  rw [← hNe] at hN
  refine itl_rule (fun st => ∃ (i : Nat) (d : List Int), st.2.1 = (i : Int) ∧ i ≤ a.length ∧ st.1 = ch d ∧ rng 10 d ∧ d.length = 9 * i ∧ vl 10 d = vl BB (a.take i)) (fun st => a.length - st.2.1.toNat) ⟨0, [], rfl, Nat.zero_le _, rfl, rng_nil, rfl, rfl⟩ ?_
  rintro ⟨out, i', ⟨⟩⟩ G ⟨i, d, hi, h1, h2, h3, h4, h5⟩ hG
  simp only at hi h2
  subst hi h2
  simp -zeta only
  refine Br_of (fun hc => ?_) (fun hc => ?_)
  · have hlt : i < a.length := by have := of_decide_eq_true hc; omega
    have wa := rngB ca.1 i
    have hra : rd i64 a (i : Int) = a.getD i 0 := rfl
    have hvt := vl_take_getD (B := BB) (l := a) i
    rw [hra]
    obtain ⟨w, hw⟩ : ∃ w : Nat, a.getD i 0 = (w : Int) := ⟨(a.getD i 0).toNat, by omega⟩
    rw [hw] at wa hvt ⊢
    rw [Int.toNat_natCast] at hvt
    refine ⟨by omega, by omega, itl_rule (fun st => ∃ (t v : Nat) (d' : List Int), st.2.2.1 = (t : Int) ∧ st.2.1 = (v : Int) ∧ t ≤ 9 ∧ v * 10 ^ t ≤ w ∧ st.1 = ch d' ∧ rng 10 d' ∧ d'.length = 9 * i + t ∧ vl 10 d' + 10 ^ (9 * i + t) * v = vl BB (a.take i) + BB ^ i * w) (fun st => 9 - st.2.2.1.toNat) ⟨0, w, d, rfl, rfl, by omega, by omega, rfl, h3, h4, by rw [h5, BB_pow]; rfl⟩ ?_⟩
    rintro ⟨out', v', t', ⟨⟩⟩ G1 ⟨t, v, d', u1, u2, u3, u8, u4, u5, u6, u7⟩ hG1
    simp only at u1 u2 u4
    subst u1 u2 u4
    simp -zeta only
    refine Br_of (fun hd => ?_) (fun hd => ?_)
    · have ht : t < 9 := by have := of_decide_eq_true hd; omega
      have hv9 : v < 1000000000 := by
        have : v * 1 ≤ v * 10 ^ t := Nat.mul_le_mul_left _ (Nat.pow_pos (by decide))
        omega
      have e1 : Int.tmod (v : Int) 10 = ((v % 10 : Nat) : Int) := by rw [tmod_nn (by omega)]; omega
      have e2 : Int.tdiv (v : Int) 10 = ((v / 10 : Nat) : Int) := by rw [tdiv_nn (by omega)]; omega
      have e3 : IntKind.u8.wrap (IntKind.i64.wrap ((48 : Int) + ((v % 10 : Nat) : Int))) = 48 + ((v % 10 : Nat) : Int) := by
        rw [wrap_i64 (by omega) (by omega)]
        unfold IntKind.wrap
        simp [IntKind.bits, IntKind.signed]
        omega
      rw [e1, e2, e3, wrap_i64 (x := (t : Int) + 1) (by omega) (by omega), wrap_i64 (x := ((v / 10 : Nat) : Int)) (by omega) (by omega)]
      refine ⟨by decide, by rw [ch_len]; simp only [List.length_singleton]; omega, by decide, hG1 _ ⟨t + 1, v / 10, d' ++ [((v % 10 : Nat) : Int)], rfl, rfl, ht, ?_, by simp only [List.append_eq]; exact ch_snoc _ _, rng_snoc u5 ⟨by omega, by omega⟩, by rw [List.length_append, u6]; rfl, ?_⟩ (by simp only; omega)⟩
      · rw [Nat.pow_succ, Nat.mul_comm (10 ^ t) 10, ← Nat.mul_assoc]
        refine Nat.le_trans (Nat.mul_le_mul_right _ ?_) u8
        omega
      · rw [vl_snoc, u6, Int.toNat_natCast, ← u7, show 9 * i + (t + 1) = 9 * i + t + 1 by omega, Nat.pow_succ, Nat.mul_assoc]
        have e4 : 10 ^ (9 * i + t) * v = 10 ^ (9 * i + t) * (v % 10) + 10 ^ (9 * i + t) * (10 * (v / 10)) := by
          rw [← Nat.mul_add, Nat.mod_add_div]
        omega
    · have ht : t = 9 := by have := of_decide_eq_false hd; omega
      subst ht
      have hv0 : v = 0 := by
        have : (10 : Nat) ^ 9 = 1000000000 := rfl
        rw [this] at u8
        omega
      subst hv0
      have hval : vl 10 d' = vl BB (a.take (i + 1)) := by rw [hvt]; rw [Nat.mul_zero, Nat.add_zero] at u7; exact u7
      clear u7 u8
      rw [wrap_i64 (x := (i : Int) + 1) (by omega) (by omega)]
      exact hG _ ⟨i + 1, d', rfl, hlt, rfl, u5, by omega, hval⟩ (by simp only; omega)
  · have hil : i = a.length := by have := of_decide_eq_false hc; omega
    subst hil
    rw [List.take_length] at h5
    have hdN : vl 10 d = N := by rw [h5, hNe]; rfl
    refine itl_rule (fun st => ∃ d' : List Int, st.1 = ch d' ∧ rng 10 d' ∧ d'.length ≤ 9 * a.length ∧ vl 10 d' = N) (fun st => st.1.length) ⟨d, rfl, h3, by omega, hdN⟩ ?_
    rintro ⟨out', ⟨⟩⟩ G1 ⟨d', u1, u2, u3, u4⟩ hG1
    simp only at u1
    subst u1
    simp -zeta only
    intro v3 v4
    have hv3 : v3 = d'.length := ch_len _
    have hdp : 0 < d'.length := by
      rcases Nat.eq_zero_or_pos d'.length with h0 | h0
      · rw [List.eq_nil_of_length_eq_zero h0] at u4; simp [vl] at u4; omega
      · exact h0
    obtain ⟨m, hm⟩ : ∃ m, d'.length = m + 1 := ⟨d'.length - 1, by omega⟩
    have hv4 : IntKind.i64.wrap v4 = (m : Int) := by show IntKind.i64.wrap ((v3 : Int) - 1) = _; rw [hv3, wrap_i64 (by omega) (by omega)]; omega
    have hv4' : IntKind.i64.wrap v4 = v4 := by show IntKind.i64.wrap ((v3 : Int) - 1) = (v3 : Int) - 1; rw [hv3, wrap_i64 (by omega) (by omega)]
    rw [hv4]
    have hv34 : v4 = (m : Int) := by rw [← hv4', hv4]
    clear_value v4 v3
    subst hv3
    have hl : d' = d'.take m ++ [d'.getD m 0] := by
      rw [getD_get (by omega), ← List.take_succ_eq_append_getElem (by omega), List.take_of_length_le (by omega)]
    have hrd : rd (Ty.int IntKind.u8) (ch d') (m : Int) = 48 + d'.getD m 0 := by rw [rd8, ch_getD (by omega)]
    rw [hrd]
    refine ⟨by omega, by omega, by omega, by omega, Br_of (fun hd => ⟨by omega, by omega, ?_⟩) (fun hd => ?_)⟩
    · have h0' : d'.getD m 0 = 0 := by have : 48 + d'.getD m 0 = 48 := by simpa using hd
                                       omega
      rw [Int.toNat_natCast, ch_take]
      refine hG1 _ ⟨d'.take m, rfl, rng_take u2 m, by rw [List.length_take]; omega, ?_⟩ (by simp only [ch_len, List.length_take]; omega)
      rw [← u4]
      conv => rhs; rw [hl, h0', vl_snoc]
      simp
    · have h0' : d'.getD m 0 ≠ 0 := fun h0 => by rw [h0] at hd; cases hd
      have hcan : can 10 d' := ⟨u2, fun x hx => by
        rw [hl, List.getLast?_concat] at hx
        injection hx with hx
        rw [← hx]; exact h0'⟩
      have hd10 : d' = dg 10 N := by rw [← u4, dg_vl (by decide) hcan]
      have hfin : (ch d').reverse.map (fun x => UInt8.ofNat x.toNat) = Lib.decDigits N := by rw [hd10]; exact dec_dg N N (Nat.le_refl _) hN
      refine Br_of (fun hs => ⟨by simp only [List.length_singleton]; omega, ?_⟩) (fun hs => ?_)
      · subst hs
        have hk : IntKind.i64.wrap ((((ch d' ++ [(45 : Int)]).length : Nat) : Int) - 1) = (((List.append (ch d') [(45 : Int)]).length - 1 : Nat) : Int) := by
          simp only [List.append_eq, List.length_append, List.length_singleton, ch_len]
          rw [wrap_i64 (by omega) (by omega)]; omega
        rw [hk]
        refine rev_ok (L := List.append (ch d') [(45 : Int)]) (by simp only [List.append_eq, List.length_append, List.length_singleton, ch_len]; omega) (by simp) (fun l => (baOf l, ()) = (ba (Lib.itoa (zv (true, a, ()))), ())) ?_
        show (baOf _, ()) = _
        rw [baOf_eq, zv_t, ← hNe, Lib.itoa_neg _ hN, List.append_eq, List.reverse_append, List.map_append, hfin]; rfl
      · subst hs
        have hk : (m : Int) = (((ch d').length - 1 : Nat) : Int) := by rw [ch_len]; omega
        rw [hk]
        refine rev_ok (L := ch d') (by rw [ch_len]; omega) (by rw [ch_len]; omega) (fun l => (baOf l, ()) = (ba (Lib.itoa (zv (false, a, ()))), ())) ?_
        show (baOf _, ()) = _
        rw [baOf_eq, zv_f, ← hNe, itoa_nat, hfin]

end Ta
end
section
/- The reference's integers from texts. -/
set_option linter.unusedVariables false
set_option linter.unusedSimpArgs false
set_option maxRecDepth 100000
namespace Ta
open Go Fw Go.Proofs Pl

theorem decV_cons (x : UInt8) (l : List UInt8) : decV (x :: l) = (x.toNat - 48) * 10 ^ l.length + decV l := by
  have e := decV_append [x] l
  rw [List.singleton_append, decV_one] at e
  exact e
theorem par_val {B P q limb d V : Nat} {S : Nat} (h : V = S + B * limb) : d * (B * P) + V = S + B * (limb + P * d) := by
  rw [h, Nat.mul_add, ← Nat.mul_assoc B P d, Nat.mul_comm d]
  omega
theorem pow9 (r : Nat) (h : r ≤ 9) : 10 ^ r ≤ 1000000000 := Nat.pow_le_pow_right (by decide) h (n := 10)
theorem pow_lt9 {r : Nat} (h : r < 9) : 10 ^ (r + 1) = 1000000000 ↔ r = 8 := by
  constructor
  · intro h1
    rcases Nat.lt_or_ge r 8 with h2 | h2
    · have h3 : 10 ^ (r + 1) ≤ 10 ^ 8 := Nat.pow_le_pow_right (by decide) h2
      rw [h1] at h3
      exact absurd h3 (by decide)
    · omega
  · rintro rfl; rfl
theorem par_loop {D : ByteArray} {sg : Bool} {p : Rv × Bool × Unit} (hD : D.size ≤ 140737488355328)
    (hbad : (bl D).all isDig = false → ((false, [], ()), false, ()) = p) (hfin : (bl D).all isDig = true → (rsg sg (rn (decV (bl D))), true, ()) = p) : ∃ n : Nat,
    itl
      (fun (G : (Bool × List Int × PUnit) × List Int × Int × Int × Int × PUnit → Prop)
          (x : (Bool × List Int × PUnit) × List Int × Int × Int × Int × PUnit) =>
        let v7 := [x.snd.snd.fst];
        let v8 := bt D x.snd.snd.snd.snd.fst;
        let v9 := v8 - (48 : Int);
        let v10 := x.snd.snd.snd.fst * IntKind.i64.wrap (IntKind.u8.wrap v9);
        let v11 := x.snd.snd.fst + IntKind.i64.wrap v10;
        Br (decide (x.snd.snd.snd.snd.fst ≥ (0 : Int)))
          ((0 : Int) ≤ x.snd.snd.snd.snd.fst ∧
            x.snd.snd.snd.snd.fst < (D.size : Int) ∧
              Br (decide (v8 < (48 : Int))) (((false, [], ()), false, ()) = p)
                ((0 : Int) ≤ x.snd.snd.snd.snd.fst ∧
                  x.snd.snd.snd.snd.fst < (D.size : Int) ∧
                    Br (decide (v8 > (57 : Int))) (((false, [], ()), false, ()) = p)
                      ((0 : Int) ≤ x.snd.snd.snd.snd.fst ∧
                        x.snd.snd.snd.snd.fst < (D.size : Int) ∧
                          Br
                            (IntKind.i64.wrap ((10 : Int) * x.snd.snd.snd.fst) ==
                              (1000000000 : Int))
                            ((((List.length x.snd.fst : Nat) : Int) +
                                    (([IntKind.i64.wrap v11].length : Nat) : Int)) *
                                  (8 : Int) ≤
                                (140737488355328 : Int) ∧
                              G
                                (x.fst, List.append x.snd.fst [IntKind.i64.wrap v11], (0 : Int),
                                  (1 : Int), IntKind.i64.wrap (x.snd.snd.snd.snd.fst - (1 : Int)),
                                  ()))
                            (G
                              (x.fst, x.snd.1, IntKind.i64.wrap v11,
                                IntKind.i64.wrap ((10 : Int) * x.snd.snd.snd.fst),
                                IntKind.i64.wrap (x.snd.snd.snd.snd.fst - (1 : Int)), ())))))
          (Br (decide (x.snd.snd.fst > (0 : Int)))
            ((((List.length x.snd.fst : Nat) : Int) + ((v7.length : Nat) : Int)) * (8 : Int) ≤
                (140737488355328 : Int) ∧
              Pl.rgL (List.append x.snd.fst v7) ∧
                True ∧
                  (Pl.rsg sg (Pl.rtr (List.append x.snd.fst v7)), true, ()) = p)
            (Pl.rgL x.snd.1 ∧ True ∧ (Pl.rsg sg (Pl.rtr x.snd.1), true, ()) = p)))
      n ((false, [], ()), [], (0 : Int), (1 : Int), IntKind.i64.wrap ((D.size : Int) - (1 : Int)), ()) := by
  rw [size_bl] at hD ⊢
  have hbt : ∀ i : Nat, bt D (i : Int) = ((((bl D).getD i 0).toNat : Nat) : Int) := bt_bl D
  generalize bl D = l at hD hbad hfin hbt ⊢
  rw [wrap_i64 (by omega) (by omega)]
  refine itl_rule (fun st => ∃ (j q r limb : Nat), st.2.2.2.2.1 = (j : Int) - 1 ∧ j ≤ l.length ∧ l.length - j = 9 * q + r ∧ r < 9 ∧ st.2.2.1 = (limb : Int) ∧ limb < 10 ^ r ∧ st.2.2.2.1 = ((10 ^ r : Nat) : Int) ∧ rng BB st.2.1 ∧ st.2.1.length = q ∧
      (l.drop j).all isDig = true ∧ decV (l.drop j) = vl BB st.2.1 + BB ^ q * limb) (fun st => (st.2.2.2.2.1 + 1).toNat) ⟨l.length, 0, 0, 0, rfl, Nat.le_refl _, by omega, by decide, rfl, by decide, rfl, rng_nil, rfl, by simp, by simp [vl, decV]⟩ ?_
  rintro ⟨bx, m, limb', u', i', ⟨⟩⟩ G ⟨j, q, r, limb, h1, h2, h3, h4, h5, h6, h7, h8, h9, h10, h11⟩ hG
  simp only at h1 h5 h7 h8 h9 h11
  subst h1 h5 h7
  simp -zeta only
  intro v7 v8 v9 v10 v11
  have hr9 := pow9 r (by omega)
  have hv7 : v7 = [(limb : Int)] := rfl
  refine Br_of (fun hb => ?_) (fun hb => ?_)
  · have hj : 0 < j := by have := of_decide_eq_true hb; omega
    obtain ⟨t, rfl⟩ : ∃ t, j = t + 1 := ⟨j - 1, by omega⟩
    have et : ((t + 1 : Nat) : Int) - 1 = (t : Int) := by omega
    have htl : t < l.length := by omega
    have hg : l.getD t 0 = l[t] := by rw [List.getD_eq_getElem?_getD, List.getElem?_eq_getElem htl]; rfl
    have hv8 : v8 = ((l[t].toNat : Nat) : Int) := by show bt D (((t + 1 : Nat) : Int) - 1) = _; rw [et, hbt, hg]
    have hv9 : v9 = v8 - 48 := rfl
    have hv10 : v10 = ((10 ^ r : Nat) : Int) * IntKind.i64.wrap (IntKind.u8.wrap v9) := rfl
    have hv11 : v11 = (limb : Int) + IntKind.i64.wrap v10 := rfl
    clear_value v11 v10 v9 v8 v7
    rw [et]
    have hdr : l.drop t = l[t] :: l.drop (t + 1) := List.drop_eq_getElem_cons htl
    have bad : isDig l[t] = false → ((false, [], ()), false, ()) = p := fun h => hbad (List.all_eq_false.2 ⟨l[t], List.getElem_mem htl, by rw [h]; decide⟩)
    rw [hv8]
    refine ⟨by omega, by omega, Br_of (fun hc => bad ?_) (fun hc => ⟨by omega, by omega, Br_of (fun hd => bad ?_) (fun hd => ⟨by omega, by omega, ?_⟩)⟩)⟩
    · have := of_decide_eq_true hc
      exact decide_eq_false (by omega)
    · have := of_decide_eq_true hd
      exact decide_eq_false (by omega)
    · have c1 := of_decide_eq_false hc
      have c2 := of_decide_eq_false hd
      obtain ⟨d, hd'⟩ : ∃ d, d = l[t].toNat - 48 := ⟨_, rfl⟩
      have hd9 : d ≤ 9 := by omega
      have w1 : IntKind.i64.wrap (IntKind.u8.wrap v9) = (d : Int) := by
        have : v9 = (d : Int) := by omega
        have e : IntKind.u8.wrap (d : Int) = (d : Int) := by
          unfold IntKind.wrap
          simp [IntKind.bits, IntKind.signed]
          omega
        rw [this, e, wrap_i64 (by omega) (by omega)]
      rw [w1, ← Int.natCast_mul] at hv10
      have hpd : 10 ^ r * d ≤ 10 ^ r * 9 := Nat.mul_le_mul_left _ hd9
      have w2 : IntKind.i64.wrap v11 = ((limb + 10 ^ r * d : Nat) : Int) := by
        rw [hv11, hv10, wrap_i64 (x := ((10 ^ r * d : Nat) : Int)) (by omega) (by omega), wrap_i64 (by omega) (by omega)]; omega
      have w3 : IntKind.i64.wrap ((10 : Int) * ((10 ^ r : Nat) : Int)) = ((10 ^ (r + 1) : Nat) : Int) := by
        rw [Nat.pow_succ, wrap_i64 (by omega) (by omega)]; omega
      have hisd : isDig l[t] = true := decide_eq_true (by omega)
      have hall : (l.drop t).all isDig = true := by rw [hdr, List.all_cons, hisd, h10]; rfl
      have hlen : (l.drop (t + 1)).length = 9 * q + r := by rw [List.length_drop]; omega
      have hval : decV (l.drop t) = vl BB m + BB ^ q * (limb + 10 ^ r * d) := by
        rw [hdr, decV_cons, hlen, ← hd', Nat.pow_add, ← BB_pow]
        exact par_val (q := q) h11
      have hlim : limb + 10 ^ r * d < 10 ^ (r + 1) := by rw [Nat.pow_succ]; omega
      rw [w2, w3, wrap_i64 (x := (t : Int) - 1) (by omega) (by omega)]
      refine Br_of (fun he => ?_) (fun he => ?_)
      · have h109' : ((10 ^ (r + 1) : Nat) : Int) = 1000000000 := by simpa using he
        have h109 : 10 ^ (r + 1) = 1000000000 := Int.ofNat_inj.1 h109'
        have hr8 := (pow_lt9 h4).1 h109
        subst hr8
        have hlB : limb + 10 ^ 8 * d < 1000000000 := by rw [h109] at hlim; exact hlim
        refine ⟨by simp only [List.length_singleton]; omega, hG _ ⟨t, q + 1, 0, 0, rfl, by omega, by omega, by decide, rfl, by decide, rfl, rng_snoc h8 ⟨by omega, by rw [show ((BB : Nat) : Int) = 1000000000 from rfl]; omega⟩, by simp only [List.append_eq, List.length_append, List.length_singleton]; omega, hall, ?_⟩ (by simp only; omega)⟩
        simp only [List.append_eq]
        rw [hval, vl_snoc, h9, Int.toNat_natCast, Nat.mul_zero, Nat.add_zero]
      · have hr8 : r ≠ 8 := fun h => by
          have := (pow_lt9 h4).2 h
          rw [this] at he; cases he
        exact hG _ ⟨t, q, r + 1, limb + 10 ^ r * d, rfl, by omega, by omega, by omega, rfl, hlim, rfl, h8, h9, hall, hval⟩ (by simp only; omega)
  · have hj : j = 0 := by have := of_decide_eq_false hb; omega
    subst hj
    rw [List.drop_zero] at h10 h11
    have hlB : (limb : Int) < (BB : Int) := by rw [show ((BB : Nat) : Int) = 1000000000 from rfl]; omega
    have hml : m.length ≤ 15637498706148 := by omega
    have key : vl BB (m ++ [(limb : Int)]) = decV l := by rw [vl_snoc, h9, Int.toNat_natCast, h11]
    rw [hv7]
    clear_value v11 v10 v9 v8 v7
    refine Br_of (fun hc => ⟨by simp only [List.length_singleton]; omega, ⟨rng_snoc h8 ⟨by omega, hlB⟩, by simp only [List.append_eq, List.length_append, List.length_singleton]; omega⟩, trivial, ?_⟩) (fun hc => ⟨⟨h8, by omega⟩, trivial, ?_⟩)
    · rw [← hfin h10]
      show (rsg sg (rn (vl BB (m ++ [(limb : Int)]))), true, ()) = _
      rw [key]
    · have hl0 : limb = 0 := by have := of_decide_eq_false hc; omega
      subst hl0
      rw [Nat.mul_zero, Nat.add_zero] at h11
      rw [← hfin h10, h11]; rfl

theorem isFl_eq {l : List UInt8} : isFl l = (decide (unsg l ≠ []) && (decide ((unsg l).head? ≠ some 48) || decide (l = [48])) && (unsg l).all isDig) := rfl
theorem pre45 (x : UInt8) (l : List UInt8) : Lib.hasPrefix (x :: l) [45] = (x == 45) := by
  unfold Lib.hasPrefix
  rw [Bool.eq_iff_iff]
  simp [List.isPrefixOf]
  try exact ⟨fun h => h.symm, fun h => h.symm⟩
theorem unsg_pos {l : List UInt8} (h : l.head? ≠ some 45) : unsg l = l := by
  unfold unsg Lib.trimPrefix
  cases l with
  | nil => rfl
  | cons x l =>
    rw [if_neg]
    intro h1
    apply h
    rw [pre45] at h1
    have : x = 45 := by simpa using h1
    rw [this]; rfl
theorem unsg_neg (l : List UInt8) : unsg (45 :: l) = l := by
  unfold unsg Lib.trimPrefix
  rw [if_pos (by rw [pre45]; rfl)]; rfl
theorem head_bt {s : ByteArray} {b : Nat} (hb : b < 256) (h : 0 < s.size) : (bt s (0 : Int) == (b : Int)) = decide ((bl s).head? = some (UInt8.ofNat b)) := by
  have h0 : bt s (0 : Int) = ((((bl s).getD 0 0).toNat : Nat) : Int) := bt_bl s 0
  rw [size_bl] at h
  have hh : (bl s).head? = some ((bl s).getD 0 0) := by
    generalize bl s = l at h
    cases l with
    | nil => simp at h
    | cons x l => rfl
  rw [h0, hh, Bool.eq_iff_iff]
  simp only [beq_iff_eq, decide_eq_true_eq, Option.some.injEq]
  rw [u8_eq hb]
  omega
theorem head_45 {s : ByteArray} (h : 0 < s.size) : (bt s (0 : Int) == (45 : Int)) = decide ((bl s).head? = some 45) := head_bt (b := 45) (by decide) h
theorem head_48 {s : ByteArray} (h : 0 < s.size) : (bt s (0 : Int) == (48 : Int)) = decide ((bl s).head? = some 48) := head_bt (b := 48) (by decide) h
theorem vc44 : ∀ x, C44.pre x → VC T44 H44 Tryz.f44 C44 x := by
  rintro ⟨(s : ByteArray), ⟨⟩⟩ (hs : s.size ≤ 140737488355328)
  refine cast (α := let v1 := s.extract (Int.toNat (1 : Int)) (↑s.size : Int).toNat; let v2 := (false, [], ()); let v3 := (↑s.size : Int) - (1 : Int); let v4 := bt s (0 : Int) == (45 : Int); let v5 := (v2, false, ()); let v6 := (false, [], ()); Br (decide ((↑s.size : Int) > (0 : Int))) ((0 : Int) ≤ (0 : Int) ∧ (0 : Int) < (↑s.size : Int) ∧ Br v4 ((0 : Int) ≤ (1 : Int) ∧ (1 : Int) ≤ (↑s.size : Int) ∧ Br (v1.toList == (ByteArray.mk #[]).toList) (v5 = C44.post (s, ())) ((0 : Int) ≤ (0 : Int) ∧ (0 : Int) < (↑v1.size : Int) ∧ Br (bt v1 (0 : Int) == (48 : Int)) (Br (decide ((↑v1.size : Int) > (1 : Int))) (v5 = C44.post (s, ())) (Br v4 (v5 = C44.post (s, ())) (∃ (n : Nat), itl (fun (G : (Bool × List Int × PUnit) × List Int × Int × Int × Int × PUnit → Prop) (x : (Bool × List Int × PUnit) × List Int × Int × Int × Int × PUnit) => let v7 := [x.snd.snd.fst]; let v8 := bt v1 x.snd.snd.snd.snd.fst; let v9 := v8 - (48 : Int); let v10 := x.snd.snd.snd.fst * IntKind.i64.wrap (IntKind.u8.wrap v9); let v11 := x.snd.snd.fst + IntKind.i64.wrap v10; Br (decide (x.snd.snd.snd.snd.fst ≥ (0 : Int))) ((0 : Int) ≤ x.snd.snd.snd.snd.fst ∧ x.snd.snd.snd.snd.fst < (↑v1.size : Int) ∧ Br (decide (v8 < (48 : Int))) (v5 = C44.post (s, ())) ((0 : Int) ≤ x.snd.snd.snd.snd.fst ∧ x.snd.snd.snd.snd.fst < (↑v1.size : Int) ∧ Br (decide (v8 > (57 : Int))) (v5 = C44.post (s, ())) ((0 : Int) ≤ x.snd.snd.snd.snd.fst ∧ x.snd.snd.snd.snd.fst < (↑v1.size : Int) ∧ Br (IntKind.i64.wrap ((10 : Int) * x.snd.snd.snd.fst) == (1000000000 : Int)) (((↑(List.length x.snd.fst) : Int) + (↑[IntKind.i64.wrap v11].length : Int)) * (8 : Int) ≤ (140737488355328 : Int) ∧ G (x.fst, List.append x.snd.fst [IntKind.i64.wrap v11], (0 : Int), (1 : Int), IntKind.i64.wrap (x.snd.snd.snd.snd.fst - (1 : Int)), ())) (G (x.fst, x.snd.1, IntKind.i64.wrap v11, IntKind.i64.wrap ((10 : Int) * x.snd.snd.snd.fst), IntKind.i64.wrap (x.snd.snd.snd.snd.fst - (1 : Int)), ()))))) (Br (decide (x.snd.snd.fst > (0 : Int))) (((↑(List.length x.snd.fst) : Int) + (↑v7.length : Int)) * (8 : Int) ≤ (140737488355328 : Int) ∧ Pl.rgL (List.append x.snd.fst v7) ∧ True ∧ (Pl.rsg v4 (Pl.rtr (List.append x.snd.fst v7)), true, ()) = C44.post (s, ())) (Pl.rgL x.snd.1 ∧ True ∧ (Pl.rsg v4 (Pl.rtr x.snd.1), true, ()) = C44.post (s, ())))) n (v6, [], (0 : Int), (1 : Int), IntKind.i64.wrap ((↑v1.size : Int) - (1 : Int)), ())))) (∃ (n : Nat), itl (fun (G : (Bool × List Int × PUnit) × List Int × Int × Int × Int × PUnit → Prop) (x : (Bool × List Int × PUnit) × List Int × Int × Int × Int × PUnit) => let v7 := [x.snd.snd.fst]; let v8 := bt v1 x.snd.snd.snd.snd.fst; let v9 := v8 - (48 : Int); let v10 := x.snd.snd.snd.fst * IntKind.i64.wrap (IntKind.u8.wrap v9); let v11 := x.snd.snd.fst + IntKind.i64.wrap v10; Br (decide (x.snd.snd.snd.snd.fst ≥ (0 : Int))) ((0 : Int) ≤ x.snd.snd.snd.snd.fst ∧ x.snd.snd.snd.snd.fst < (↑v1.size : Int) ∧ Br (decide (v8 < (48 : Int))) (v5 = C44.post (s, ())) ((0 : Int) ≤ x.snd.snd.snd.snd.fst ∧ x.snd.snd.snd.snd.fst < (↑v1.size : Int) ∧ Br (decide (v8 > (57 : Int))) (v5 = C44.post (s, ())) ((0 : Int) ≤ x.snd.snd.snd.snd.fst ∧ x.snd.snd.snd.snd.fst < (↑v1.size : Int) ∧ Br (IntKind.i64.wrap ((10 : Int) * x.snd.snd.snd.fst) == (1000000000 : Int)) (((↑(List.length x.snd.fst) : Int) + (↑[IntKind.i64.wrap v11].length : Int)) * (8 : Int) ≤ (140737488355328 : Int) ∧ G (x.fst, List.append x.snd.fst [IntKind.i64.wrap v11], (0 : Int), (1 : Int), IntKind.i64.wrap (x.snd.snd.snd.snd.fst - (1 : Int)), ())) (G (x.fst, x.snd.1, IntKind.i64.wrap v11, IntKind.i64.wrap ((10 : Int) * x.snd.snd.snd.fst), IntKind.i64.wrap (x.snd.snd.snd.snd.fst - (1 : Int)), ()))))) (Br (decide (x.snd.snd.fst > (0 : Int))) (((↑(List.length x.snd.fst) : Int) + (↑v7.length : Int)) * (8 : Int) ≤ (140737488355328 : Int) ∧ Pl.rgL (List.append x.snd.fst v7) ∧ True ∧ (Pl.rsg v4 (Pl.rtr (List.append x.snd.fst v7)), true, ()) = C44.post (s, ())) (Pl.rgL x.snd.1 ∧ True ∧ (Pl.rsg v4 (Pl.rtr x.snd.1), true, ()) = C44.post (s, ())))) n (v6, [], (0 : Int), (1 : Int), IntKind.i64.wrap ((↑v1.size : Int) - (1 : Int)), ())))) (Br (s.toList == (ByteArray.mk #[]).toList) (v5 = C44.post (s, ())) ((0 : Int) ≤ (0 : Int) ∧ (0 : Int) < (↑s.size : Int) ∧ Br (bt s (0 : Int) == (48 : Int)) (Br (decide ((↑s.size : Int) > (1 : Int))) (v5 = C44.post (s, ())) (Br v4 (v5 = C44.post (s, ())) (∃ (n : Nat), itl (fun (G : (Bool × List Int × PUnit) × List Int × Int × Int × Int × PUnit → Prop) (x : (Bool × List Int × PUnit) × List Int × Int × Int × Int × PUnit) => let v7 := [x.snd.snd.fst]; let v8 := bt s x.snd.snd.snd.snd.fst; let v9 := v8 - (48 : Int); let v10 := x.snd.snd.snd.fst * IntKind.i64.wrap (IntKind.u8.wrap v9); let v11 := x.snd.snd.fst + IntKind.i64.wrap v10; Br (decide (x.snd.snd.snd.snd.fst ≥ (0 : Int))) ((0 : Int) ≤ x.snd.snd.snd.snd.fst ∧ x.snd.snd.snd.snd.fst < (↑s.size : Int) ∧ Br (decide (v8 < (48 : Int))) (v5 = C44.post (s, ())) ((0 : Int) ≤ x.snd.snd.snd.snd.fst ∧ x.snd.snd.snd.snd.fst < (↑s.size : Int) ∧ Br (decide (v8 > (57 : Int))) (v5 = C44.post (s, ())) ((0 : Int) ≤ x.snd.snd.snd.snd.fst ∧ x.snd.snd.snd.snd.fst < (↑s.size : Int) ∧ Br (IntKind.i64.wrap ((10 : Int) * x.snd.snd.snd.fst) == (1000000000 : Int)) (((↑(List.length x.snd.fst) : Int) + (↑[IntKind.i64.wrap v11].length : Int)) * (8 : Int) ≤ (140737488355328 : Int) ∧ G (x.fst, List.append x.snd.fst [IntKind.i64.wrap v11], (0 : Int), (1 : Int), IntKind.i64.wrap (x.snd.snd.snd.snd.fst - (1 : Int)), ())) (G (x.fst, x.snd.1, IntKind.i64.wrap v11, IntKind.i64.wrap ((10 : Int) * x.snd.snd.snd.fst), IntKind.i64.wrap (x.snd.snd.snd.snd.fst - (1 : Int)), ()))))) (Br (decide (x.snd.snd.fst > (0 : Int))) (((↑(List.length x.snd.fst) : Int) + (↑v7.length : Int)) * (8 : Int) ≤ (140737488355328 : Int) ∧ Pl.rgL (List.append x.snd.fst v7) ∧ True ∧ (Pl.rsg v4 (Pl.rtr (List.append x.snd.fst v7)), true, ()) = C44.post (s, ())) (Pl.rgL x.snd.1 ∧ True ∧ (Pl.rsg v4 (Pl.rtr x.snd.1), true, ()) = C44.post (s, ())))) n (v6, [], (0 : Int), (1 : Int), IntKind.i64.wrap v3, ())))) (∃ (n : Nat), itl (fun (G : (Bool × List Int × PUnit) × List Int × Int × Int × Int × PUnit → Prop) (x : (Bool × List Int × PUnit) × List Int × Int × Int × Int × PUnit) => let v7 := [x.snd.snd.fst]; let v8 := bt s x.snd.snd.snd.snd.fst; let v9 := v8 - (48 : Int); let v10 := x.snd.snd.snd.fst * IntKind.i64.wrap (IntKind.u8.wrap v9); let v11 := x.snd.snd.fst + IntKind.i64.wrap v10; Br (decide (x.snd.snd.snd.snd.fst ≥ (0 : Int))) ((0 : Int) ≤ x.snd.snd.snd.snd.fst ∧ x.snd.snd.snd.snd.fst < (↑s.size : Int) ∧ Br (decide (v8 < (48 : Int))) (v5 = C44.post (s, ())) ((0 : Int) ≤ x.snd.snd.snd.snd.fst ∧ x.snd.snd.snd.snd.fst < (↑s.size : Int) ∧ Br (decide (v8 > (57 : Int))) (v5 = C44.post (s, ())) ((0 : Int) ≤ x.snd.snd.snd.snd.fst ∧ x.snd.snd.snd.snd.fst < (↑s.size : Int) ∧ Br (IntKind.i64.wrap ((10 : Int) * x.snd.snd.snd.fst) == (1000000000 : Int)) (((↑(List.length x.snd.fst) : Int) + (↑[IntKind.i64.wrap v11].length : Int)) * (8 : Int) ≤ (140737488355328 : Int) ∧ G (x.fst, List.append x.snd.fst [IntKind.i64.wrap v11], (0 : Int), (1 : Int), IntKind.i64.wrap (x.snd.snd.snd.snd.fst - (1 : Int)), ())) (G (x.fst, x.snd.1, IntKind.i64.wrap v11, IntKind.i64.wrap ((10 : Int) * x.snd.snd.snd.fst), IntKind.i64.wrap (x.snd.snd.snd.snd.fst - (1 : Int)), ()))))) (Br (decide (x.snd.snd.fst > (0 : Int))) (((↑(List.length x.snd.fst) : Int) + (↑v7.length : Int)) * (8 : Int) ≤ (140737488355328 : Int) ∧ Pl.rgL (List.append x.snd.fst v7) ∧ True ∧ (Pl.rsg v4 (Pl.rtr (List.append x.snd.fst v7)), true, ()) = C44.post (s, ())) (Pl.rgL x.snd.1 ∧ True ∧ (Pl.rsg v4 (Pl.rtr x.snd.1), true, ()) = C44.post (s, ())))) n (v6, [], (0 : Int), (1 : Int), IntKind.i64.wrap v3, ()))))) (Br (s.toList == (ByteArray.mk #[]).toList) (v5 = C44.post (s, ())) ((0 : Int) ≤ (0 : Int) ∧ (0 : Int) < (↑s.size : Int) ∧ Br (bt s (0 : Int) == (48 : Int)) (Br (decide ((↑s.size : Int) > (1 : Int))) (v5 = C44.post (s, ())) (∃ (n : Nat), itl (fun (G : (Bool × List Int × PUnit) × List Int × Int × Int × Int × PUnit → Prop) (x : (Bool × List Int × PUnit) × List Int × Int × Int × Int × PUnit) => let v7 := [x.snd.snd.fst]; let v8 := bt s x.snd.snd.snd.snd.fst; let v9 := v8 - (48 : Int); let v10 := x.snd.snd.snd.fst * IntKind.i64.wrap (IntKind.u8.wrap v9); let v11 := x.snd.snd.fst + IntKind.i64.wrap v10; Br (decide (x.snd.snd.snd.snd.fst ≥ (0 : Int))) ((0 : Int) ≤ x.snd.snd.snd.snd.fst ∧ x.snd.snd.snd.snd.fst < (↑s.size : Int) ∧ Br (decide (v8 < (48 : Int))) (v5 = C44.post (s, ())) ((0 : Int) ≤ x.snd.snd.snd.snd.fst ∧ x.snd.snd.snd.snd.fst < (↑s.size : Int) ∧ Br (decide (v8 > (57 : Int))) (v5 = C44.post (s, ())) ((0 : Int) ≤ x.snd.snd.snd.snd.fst ∧ x.snd.snd.snd.snd.fst < (↑s.size : Int) ∧ Br (IntKind.i64.wrap ((10 : Int) * x.snd.snd.snd.fst) == (1000000000 : Int)) (((↑(List.length x.snd.fst) : Int) + (↑[IntKind.i64.wrap v11].length : Int)) * (8 : Int) ≤ (140737488355328 : Int) ∧ G (x.fst, List.append x.snd.fst [IntKind.i64.wrap v11], (0 : Int), (1 : Int), IntKind.i64.wrap (x.snd.snd.snd.snd.fst - (1 : Int)), ())) (G (x.fst, x.snd.1, IntKind.i64.wrap v11, IntKind.i64.wrap ((10 : Int) * x.snd.snd.snd.fst), IntKind.i64.wrap (x.snd.snd.snd.snd.fst - (1 : Int)), ()))))) (Br (decide (x.snd.snd.fst > (0 : Int))) (((↑(List.length x.snd.fst) : Int) + (↑v7.length : Int)) * (8 : Int) ≤ (140737488355328 : Int) ∧ Pl.rgL (List.append x.snd.fst v7) ∧ True ∧ (Pl.rsg false (Pl.rtr (List.append x.snd.fst v7)), true, ()) = C44.post (s, ())) (Pl.rgL x.snd.1 ∧ True ∧ (Pl.rsg false (Pl.rtr x.snd.1), true, ()) = C44.post (s, ())))) n (v6, [], (0 : Int), (1 : Int), IntKind.i64.wrap v3, ()))) (∃ (n : Nat), itl (fun (G : (Bool × List Int × PUnit) × List Int × Int × Int × Int × PUnit → Prop) (x : (Bool × List Int × PUnit) × List Int × Int × Int × Int × PUnit) => let v7 := [x.snd.snd.fst]; let v8 := bt s x.snd.snd.snd.snd.fst; let v9 := v8 - (48 : Int); let v10 := x.snd.snd.snd.fst * IntKind.i64.wrap (IntKind.u8.wrap v9); let v11 := x.snd.snd.fst + IntKind.i64.wrap v10; Br (decide (x.snd.snd.snd.snd.fst ≥ (0 : Int))) ((0 : Int) ≤ x.snd.snd.snd.snd.fst ∧ x.snd.snd.snd.snd.fst < (↑s.size : Int) ∧ Br (decide (v8 < (48 : Int))) (v5 = C44.post (s, ())) ((0 : Int) ≤ x.snd.snd.snd.snd.fst ∧ x.snd.snd.snd.snd.fst < (↑s.size : Int) ∧ Br (decide (v8 > (57 : Int))) (v5 = C44.post (s, ())) ((0 : Int) ≤ x.snd.snd.snd.snd.fst ∧ x.snd.snd.snd.snd.fst < (↑s.size : Int) ∧ Br (IntKind.i64.wrap ((10 : Int) * x.snd.snd.snd.fst) == (1000000000 : Int)) (((↑(List.length x.snd.fst) : Int) + (↑[IntKind.i64.wrap v11].length : Int)) * (8 : Int) ≤ (140737488355328 : Int) ∧ G (x.fst, List.append x.snd.fst [IntKind.i64.wrap v11], (0 : Int), (1 : Int), IntKind.i64.wrap (x.snd.snd.snd.snd.fst - (1 : Int)), ())) (G (x.fst, x.snd.1, IntKind.i64.wrap v11, IntKind.i64.wrap ((10 : Int) * x.snd.snd.snd.fst), IntKind.i64.wrap (x.snd.snd.snd.snd.fst - (1 : Int)), ()))))) (Br (decide (x.snd.snd.fst > (0 : Int))) (((↑(List.length x.snd.fst) : Int) + (↑v7.length : Int)) * (8 : Int) ≤ (140737488355328 : Int) ∧ Pl.rgL (List.append x.snd.fst v7) ∧ True ∧ (Pl.rsg false (Pl.rtr (List.append x.snd.fst v7)), true, ()) = C44.post (s, ())) (Pl.rgL x.snd.1 ∧ True ∧ (Pl.rsg false (Pl.rtr x.snd.1), true, ()) = C44.post (s, ())))) n (v6, [], (0 : Int), (1 : Int), IntKind.i64.wrap v3, ()))))) (by kernel_rfl) ?_
  intro v1 v2 v3 v4 v5 v6
  have e : C44.post (s, ()) = (if isFl (bl s) then mkR (parV (bl s)) else (false, [], ()), isFl (bl s), ()) := rfl
  have hv5 : v5 = ((false, [], ()), false, ()) := rfl
  have hv6 : v6 = (false, [], ()) := rfl
  have hv3 : v3 = (s.size : Int) - 1 := rfl
  have hv4 : v4 = (bt s (0 : Int) == (45 : Int)) := rfl
  have hv1 : v1 = s.extract 1 s.size := rfl
  obtain ⟨p, hp⟩ : ∃ p, p = C44.post (s, ()) := ⟨_, rfl⟩
  rw [e] at hp
  have e' : C44.post (s, ()) = p := by rw [hp, e]
  rw [e']
  clear_value v6 v5 v4 v3 v1
  subst hv5 hv6 hv3
  have no : isFl (bl s) = false → ((false, [], ()), false, ()) = p := fun h => by rw [hp, h]; rfl
  have emp : ∀ D : ByteArray, (D.toList == (ByteArray.mk #[] : ByteArray).toList) = decide (bl D = []) := fun D => by rw [ba_toList]; rfl
  have hsz := size_bl s
  have fin : isFl (bl s) = true → ∀ sg D, unsg (bl s) = bl D → sg = decide ((bl s).head? = some 45) → (rsg sg (rn (decV (bl D))), true, ()) = p := fun h sg D hu hsg => by
    rw [hp, h, rsg_rn, hsg, ← hu]
    unfold parV
    by_cases h5 : (bl s).head? = some 45
    · rw [decide_eq_true h5]; simp only [if_true]; rw [if_pos h5]
    · rw [decide_eq_false h5]; simp only [Bool.false_eq_true, if_false]; rw [if_neg h5]; rfl
  refine Br_of (fun hb => ?_) (fun hb => ?_)
  · have h0 : 0 < s.size := by have := of_decide_eq_true hb; omega
    rw [head_45 h0] at hv4
    refine ⟨by omega, by omega, Br_of (fun hn => ?_) (fun hn => ?_)⟩
    · rw [hn] at hv4
      have hh : (bl s).head? = some 45 := of_decide_eq_true hv4.symm
      have hbl1 : bl v1 = (bl s).drop 1 := by
        rw [hv1, show s.extract 1 s.size = ba (((bl s).drop 1).take (s.size - 1)) from Lib.extract_eq s 1 s.size, bl_ba, hsz]
        exact List.take_of_length_le (by rw [List.length_drop]; omega)
      have hcons : bl s = 45 :: bl v1 := by
        rw [hbl1]
        generalize bl s = l at hh
        cases l with
        | nil => simp at hh
        | cons x l =>
          have : x = 45 := by simpa using hh
          rw [this]; rfl
      have hu : unsg (bl s) = bl v1 := by rw [hcons]; exact unsg_neg _
      have hs1 : v1.size ≤ 140737488355328 := by rw [size_bl, hbl1, List.length_drop]; omega
      have hne48 : bl s ≠ [48] := fun h => by rw [h] at hh; simp at hh
      have hF : isFl (bl s) = (decide (bl v1 ≠ []) && decide ((bl v1).head? ≠ some 48) && (bl v1).all isDig) := by
        rw [isFl_eq, hu, decide_eq_false hne48, Bool.or_false]
      have hv1s := size_bl v1
      rw [emp]
      refine ⟨by decide, by omega, Br_of (fun hc => no ?_) (fun hc => ?_)⟩
      · rw [hF, of_decide_eq_true hc]; rfl
      · have hne := of_decide_eq_false hc
        have hp1 := List.length_pos_iff.2 hne
        rw [head_48 (by omega), hn]
        have hbad48 : (bl v1).head? = some 48 → ((false, [], ()), false, ()) = p := fun h => no (by rw [hF, h]; simp)
        refine ⟨by omega, by omega, Br_of (fun hd => Br_of (fun _ => hbad48 (of_decide_eq_true hd)) (fun _ => hbad48 (of_decide_eq_true hd))) (fun hd => ?_)⟩
        have hh48 : (bl v1).head? ≠ some 48 := of_decide_eq_false hd
        rw [decide_eq_true hne, decide_eq_true hh48, Bool.true_and, Bool.true_and] at hF
        exact par_loop (D := v1) (sg := true) hs1 (fun h => no (by rw [hF, h])) (fun h => fin (by rw [hF, h]) true v1 hu (by rw [decide_eq_true hh]))
    · rw [hn] at hv4
      have hh : (bl s).head? ≠ some 45 := of_decide_eq_false hv4.symm
      have hu := unsg_pos hh
      have hF : isFl (bl s) = (decide (bl s ≠ []) && (decide ((bl s).head? ≠ some 48) || decide (bl s = [48])) && (bl s).all isDig) := by rw [isFl_eq, hu]
      rw [emp]
      refine Br_of (fun hc => no (by rw [hF, of_decide_eq_true hc]; rfl)) (fun hc => ?_)
      have hne := of_decide_eq_false hc
      have hp1 := List.length_pos_iff.2 hne
      rw [head_48 (by omega), hn]
      refine ⟨by omega, by omega, Br_of (fun hd => ?_) (fun hd => ?_)⟩
      · have hh48 : (bl s).head? = some 48 := of_decide_eq_true hd
        refine Br_of (fun hg => no ?_) (fun hg => ?_)
        · have : bl s ≠ [48] := fun h => by
            have := of_decide_eq_true hg
            rw [hsz, h] at this
            simp at this
          rw [hF, decide_eq_false this, hh48]; simp
        · have h48 : bl s = [48] := by
            have hl1 : (bl s).length ≤ 1 := by have := of_decide_eq_false hg; omega
            generalize bl s = l at hh48 hl1 hp1
            match l, hh48, hl1 with
            | [x], h, _ => have : x = 48 := by simpa using h
                           rw [this]
          rw [decide_eq_true hne, decide_eq_true h48, Bool.or_true, Bool.true_and, Bool.true_and] at hF
          exact par_loop (D := s) (sg := false) hs (fun h => no (by rw [hF, h])) (fun h => fin (by rw [hF, h]) false s hu (by rw [decide_eq_false hh]))
      · have hh48 : (bl s).head? ≠ some 48 := of_decide_eq_false hd
        rw [decide_eq_true hne, decide_eq_true hh48, Bool.true_or, Bool.true_and, Bool.true_and] at hF
        exact par_loop (D := s) (sg := false) hs (fun h => no (by rw [hF, h])) (fun h => fin (by rw [hF, h]) false s hu (by rw [decide_eq_false hh]))
  · have h0 : bl s = [] := List.eq_nil_of_length_eq_zero (by have := of_decide_eq_false hb; omega)
    rw [emp, decide_eq_true h0]
    exact no (by rw [h0]; rfl)

end Ta
end
section
/- The reference's fractions from texts. -/
set_option linter.unusedVariables false
set_option linter.unusedSimpArgs false
set_option maxRecDepth 100000
namespace Ta
open Go Fw Go.Proofs Pl

theorem decV_snoc (m : List UInt8) (x : UInt8) : decV (m ++ [x]) = 10 * decV m + (x.toNat - 48) := by
  rw [decV_append, decV_one]; simp only [List.length_singleton, Nat.pow_one]; omega
theorem dec_lt {u : Nat} (h : u < 10) : Lib.decDigits u = [UInt8.ofNat (48 + u)] := by rw [Lib.decDigits, dif_pos h]
theorem dec_ge {u : Nat} (h : ¬ u < 10) : Lib.decDigits u = Lib.decDigits (u / 10) ++ [UInt8.ofNat (48 + u % 10)] := by rw [Lib.decDigits, dif_neg h]
theorem dec_decV : ∀ (n : Nat) (l : List UInt8), l.length = n + 1 → l.all isDig = true → (l.head? ≠ some 48 ∨ l = [48]) → Lib.decDigits (decV l) = l := by
  intro n
  induction n with
  | zero =>
    intro l hl hd _
    match l, hl with
    | [x], _ =>
      have hx := isDig_iff.1 (by simpa using hd : isDig x = true)
      rw [decV_one, dec_lt (by omega)]
      have : x = UInt8.ofNat (48 + (x.toNat - 48)) := (u8_eq (by omega)).2 (by omega)
      rw [← this]
  | succ n ih =>
    intro l hl hd hh
    have h0 : l ≠ [] := fun h => by rw [h] at hl; cases hl
    obtain ⟨m, x, rfl⟩ : ∃ m x, l = m ++ [x] := ⟨l.dropLast, l.getLast h0, (List.dropLast_concat_getLast h0).symm⟩
    have hm : m.length = n + 1 := by simpa using hl
    have m0 : m ≠ [] := fun h => by rw [h] at hm; cases hm
    rw [List.all_append, Bool.and_eq_true] at hd
    have hx := isDig_iff.1 (by simpa using hd.2 : isDig x = true)
    have h48 : m.head? ≠ some 48 := by
      rcases hh with h | h
      · intro h1; apply h; cases m with
        | nil => exact absurd rfl m0
        | cons a m => simpa using h1
      · have := congrArg List.length h; rw [List.length_append, hm] at this; simp only [List.length_singleton] at this; omega
    have hp := decV_pos hd.1 m0 h48
    have e := ih m hm hd.1 (Or.inl h48)
    rw [decV_snoc, dec_ge (by omega)]
    have e1 : (10 * decV m + (x.toNat - 48)) / 10 = decV m := by omega
    have e2 : (10 * decV m + (x.toNat - 48)) % 10 = x.toNat - 48 := by omega
    rw [e1, e2, e]
    have : x = UInt8.ofNat (48 + (x.toNat - 48)) := (u8_eq (by omega)).2 (by omega)
    rw [← this]
theorem canon {l : List UInt8} (h : isFl l = true) : Lib.itoa (parV l) = l := by
  obtain ⟨h1, h2⟩ := isFl_parts h
  have hlen := List.length_pos_iff.2 h1
  by_cases hh : l.head? = some 45
  · have hcons : l = 45 :: unsg l := by
      match l, hh with
      | x :: m, hh =>
        have : x = 45 := by simpa using hh
        rw [this, unsg_neg]
    have h48 : l ≠ [48] := fun h0 => by rw [h0] at hh; simp at hh
    have hu : (unsg l).head? ≠ some 48 := by
      rw [isFl_eq, decide_eq_false h48, Bool.or_false] at h
      simp only [Bool.and_eq_true, decide_eq_true_eq] at h
      exact h.1.2
    have hp := decV_pos h2 h1 hu
    unfold parV Lib.itoa
    rw [if_pos hh, if_pos (by omega)]
    rw [show (-((decV (unsg l) : Nat) : Int)).natAbs = decV (unsg l) by omega, dec_decV ((unsg l).length - 1) _ (by omega) h2 (Or.inl hu)]
    exact hcons.symm
  · have hu := unsg_pos hh
    have hu2 : l.head? ≠ some 48 ∨ l = [48] := by
      rw [isFl_eq, hu] at h
      simp only [Bool.and_eq_true, Bool.or_eq_true, decide_eq_true_eq] at h
      exact h.1.2
    unfold parV Lib.itoa
    rw [if_neg hh, if_neg (by omega), hu]
    rw [hu] at h2 hlen
    rw [Int.toNat_natCast, dec_decV (l.length - 1) _ (by omega) h2 hu2]
theorem dec_parts : ∀ (n : Nat), (Lib.decDigits n).all isDig = true ∧ decV (Lib.decDigits n) = n ∧ Lib.decDigits n ≠ [] ∧ (0 < n → (Lib.decDigits n).head? ≠ some 48) := by
  intro n
  induction n using Nat.strongRecOn with
  | _ n ih =>
    have dg : ∀ u, u < 10 → isDig (UInt8.ofNat (48 + u)) = true ∧ (UInt8.ofNat (48 + u)).toNat - 48 = u ∧ (0 < u → UInt8.ofNat (48 + u) ≠ 48) := fun u hu => by
      have e : (UInt8.ofNat (48 + u)).toNat = 48 + u := (u8_eq (by omega)).1 rfl
      refine ⟨isDig_iff.2 (by omega), by omega, fun h0 h1 => ?_⟩
      have : (UInt8.ofNat (48 + u)).toNat = 48 := by rw [h1]; rfl
      omega
    by_cases h : n < 10
    · obtain ⟨d1, d2, d3⟩ := dg n h
      rw [dec_lt h]
      refine ⟨by rw [List.all_cons, d1]; rfl, by rw [decV_one, d2], by simp, fun h0 h1 => d3 h0 (by simpa using h1)⟩
    · obtain ⟨i1, i2, i3, i4⟩ := ih (n / 10) (by omega)
      obtain ⟨d1, d2, d3⟩ := dg (n % 10) (by omega)
      rw [dec_ge h]
      refine ⟨by rw [List.all_append, i1, List.all_cons, d1]; rfl, by rw [decV_snoc, i2, d2]; omega, by simp, fun _ => ?_⟩
      have := i4 (by omega)
      generalize Lib.decDigits (n / 10) = m at this i3
      cases m with
      | nil => exact absurd rfl i3
      | cons a m => simpa using this
theorem dec_inj {n m : Nat} (h : Lib.decDigits n = Lib.decDigits m) : n = m := by
  have := congrArg decV h
  rwa [(dec_parts n).2.1, (dec_parts m).2.1] at this
theorem dec_no {n b : Nat} (hb : b < 48) (h : UInt8.ofNat b ∈ Lib.decDigits n) : False := by
  have := List.all_eq_true.1 (dec_parts n).1 _ h
  have := isDig_iff.1 this
  have e : (UInt8.ofNat b).toNat = b := (u8_eq (by omega)).1 rfl
  omega
theorem itoa_no (n : Int) : (47 : UInt8) ∉ Lib.itoa n := by
  unfold Lib.itoa
  split
  · intro h
    rcases List.mem_cons.1 h with h | h
    · exact absurd h (by decide)
    · exact dec_no (b := 47) (by decide) h
  · exact fun h => dec_no (b := 47) (by decide) h
theorem itoa_inj {n m : Int} (h : Lib.itoa n = Lib.itoa m) : n = m := by
  have bad : ∀ {a b : Nat}, 45 :: Lib.decDigits a ≠ Lib.decDigits b := fun {a b} h => dec_no (n := b) (b := 45) (by decide) (by rw [← h]; exact List.mem_cons_self)
  unfold Lib.itoa at h
  split at h <;> split at h
  · have := dec_inj (List.cons.inj h).2; omega
  · exact absurd h bad
  · exact absurd h.symm bad
  · have := dec_inj h; omega
/-- Two texts around the first slash. -/
theorem split_eq {a b c d : List UInt8} (ha : (47 : UInt8) ∉ a) (hc : (47 : UInt8) ∉ c) (h : a ++ 47 :: b = c ++ 47 :: d) : a = c ∧ b = d := by
  induction a generalizing c with
  | nil =>
    cases c with
    | nil => exact ⟨rfl, (List.cons.inj h).2⟩
    | cons x c => exact absurd ((List.cons.inj h).1 ▸ List.mem_cons_self) hc
  | cons y a ih =>
    cases c with
    | nil => exact absurd ((List.cons.inj h).1 ▸ List.mem_cons_self) ha
    | cons x c =>
      obtain ⟨h1, h2⟩ := List.cons.inj h
      obtain ⟨h3, h4⟩ := ih (fun h => ha (List.mem_cons_of_mem _ h)) (fun h => hc (List.mem_cons_of_mem _ h)) h2
      exact ⟨by rw [h1, h3], h4⟩
theorem itoa_pos {n : Nat} : Lib.itoa ((n : Nat) : Int) = Lib.decDigits n := itoa_nat n
/-- The text of a/b is the texts of a and b around a slash just where they are in lowest terms. -/
theorem txt_frac {a : Int} {b : Nat} (hb : 1 < b) : txtR (Rat.divInt a b) = Lib.itoa a ++ (47 :: Lib.decDigits b) ↔ Nat.gcd a.natAbs b = 1 := by
  obtain ⟨d, rfl⟩ : ∃ d, b = d + 1 := ⟨b - 1, by omega⟩
  have e : Rat.divInt a ((d + 1 : Nat) : Int) = mkRat a (d + 1) := Rat.divInt_ofNat ..
  rw [e]
  constructor
  · intro h
    unfold txtR at h
    split at h
    · exact absurd (h ▸ List.mem_append_right _ List.mem_cons_self) (itoa_no (mkRat a (d + 1)).num)
    · obtain ⟨h1, h2⟩ := split_eq (itoa_no _) (itoa_no _) h
      have h3 := itoa_inj h1
      have h4 := dec_inj h2
      have := (mkRat a (d + 1)).reduced
      rw [h3, h4] at this
      exact this
  · intro h
    obtain ⟨h1, h2⟩ := num_mk h
    unfold txtR
    rw [if_neg (by omega), h1, h2]
theorem divInt_1 (a : Int) : Rat.divInt a 1 = (a : Rat) := Rat.num_divInt_den (a : Rat)
theorem occ1 {l : List UInt8} {j : Nat} : Lib.occAt l [47] j = decide (l[j]? = some 47) := by
  unfold Lib.occAt
  induction l generalizing j with
  | nil => simp [List.isPrefixOf]
  | cons x l ih =>
    cases j with
    | zero =>
      simp only [List.drop_zero, List.isPrefixOf, Bool.and_true, List.getElem?_cons_zero]
      rw [Bool.eq_iff_iff]
      simp only [beq_iff_eq, decide_eq_true_eq, Option.some.injEq]
      exact eq_comm
    | succ j => simpa using ih
theorem cut_at {l : List UInt8} {i : Nat} (hi : l[i]? = some 47) (hn : ∀ j, j < i → l[j]? ≠ some 47) : Lib.cut l [47] = (l.take i, l.drop (i + 1), true) := by
  have hl : i < l.length := by
    rcases Nat.lt_or_ge i l.length with h | h
    · exact h
    · rw [List.getElem?_eq_none h] at hi; cases hi
  have := Lib.index_first (s := l) (sub := [47]) (i := i) (by omega) (by rw [occ1, decide_eq_true hi]) (fun j hj => by rw [occ1, decide_eq_false (hn j hj)])
  unfold Lib.cut
  rw [this, if_pos (by omega), Int.toNat_natCast]; rfl
theorem cut_no {l : List UInt8} (hn : ∀ j, j < l.length → l[j]? ≠ some 47) : Lib.cut l [47] = (l, [], false) := by
  have := Lib.index_none (s := l) (sub := [47]) (fun j hj => by
    rw [occ1, decide_eq_false_iff_not]
    intro h
    rcases Nat.lt_or_ge j l.length with h1 | h1
    · exact hn j h1 h
    · rw [List.getElem?_eq_none h1] at h; cases h)
  unfold Lib.cut
  rw [this, if_neg (by decide)]

theorem ext0 {s : ByteArray} {i : Nat} : bl (s.extract 0 i) = (bl s).take i := by
  rw [show s.extract 0 i = ba (((bl s).drop 0).take (i - 0)) from Lib.extract_eq s 0 i, bl_ba]; rfl
theorem ext1 {s : ByteArray} {i : Nat} : bl (s.extract i s.size) = (bl s).drop i := by
  rw [show s.extract i s.size = ba (((bl s).drop i).take (s.size - i)) from Lib.extract_eq s i s.size, bl_ba, size_bl]
  exact List.take_of_length_le (by rw [List.length_drop]; omega)
theorem parV_B {l : List UInt8} (h : isFl l = true) : (parV l).natAbs < BB ^ l.length := by
  obtain ⟨h1, h2⟩ := isFl_parts h
  rw [parV_abs]
  exact Nat.lt_of_lt_of_le (decV_lt h2) (Nat.le_trans (Nat.pow_le_pow_left (by decide) _) (Nat.pow_le_pow_right (by decide) (unsg_len l)))
theorem paR_f {s : ByteArray} (h : isF s = true) : paR s = mkR (parS s) := by unfold paR; rw [if_pos h]
theorem okZ_pa {s : ByteArray} (h : isF s = true) (hs : s.size ≤ 1100000) : okZ (paR s) := by
  rw [paR_f h]
  exact okZ_mk (bl s).length (parV_B h) (by rw [← size_bl]; omega)
theorem parS_sign {l : List UInt8} (h : isFl l = true) : (parV l ≤ 0 ↔ l.head? = some 45 ∨ l = [48]) := by
  obtain ⟨h1, h2⟩ := isFl_parts h
  constructor
  · intro hp
    by_cases h45 : l.head? = some 45
    · exact Or.inl h45
    · right
      by_cases h48 : l = [48]
      · exact h48
      · have := parV_ne h h48
        unfold parV at this hp
        rw [if_neg h45] at this hp
        omega
  · rintro (h45 | rfl)
    · unfold parV; rw [if_pos h45]; omega
    · decide
theorem vc36 : ∀ x, C36.pre x → VC T36 H36 Tryz.f36 C36 x := by
  rintro ⟨(s : ByteArray), ⟨⟩⟩ (hs : s.size ≤ 1100000)
  refine cast (α := let v1 := (false, [], ()); let v2 := (v1, v1, ()); ∃ (n : Nat), itl (fun (G : (Bool × List Int × Bool × List Int × PUnit) × Int × PUnit → Prop) (x : (Bool × List Int × Bool × List Int × PUnit) × Int × PUnit) => let v3 := Int.toNat x.snd.fst; let v4 := x.snd.fst + (1 : Int); Br (decide (x.snd.fst < (↑s.size : Int))) ((0 : Int) ≤ x.snd.fst ∧ x.snd.fst < (↑s.size : Int) ∧ Br (bt s x.snd.fst != (47 : Int)) (G (x.fst, IntKind.i64.wrap v4, ())) ((0 : Int) ≤ x.snd.fst ∧ x.snd.fst ≤ (↑s.size : Int) ∧ (s.extract (Int.toNat (0 : Int)) v3).size ≤ (140737488355328 : Nat) ∧ (0 : Int) ≤ IntKind.i64.wrap v4 ∧ IntKind.i64.wrap v4 ≤ (↑s.size : Int) ∧ (s.extract (IntKind.i64.wrap v4).toNat (↑s.size : Int).toNat).size ≤ (140737488355328 : Nat) ∧ Br (!Pl.isF (s.extract (Int.toNat (0 : Int)) v3)) ((v2, false, ()) = C36.post (s, ())) (Br (!Pl.isF (s.extract (IntKind.i64.wrap v4).toNat (↑s.size : Int).toNat)) ((v2, false, ()) = C36.post (s, ())) (Pl.okY (Pl.paR (s.extract (IntKind.i64.wrap v4).toNat (↑s.size : Int).toNat)) ∧ Br (decide (Pl.sgR (Pl.paR (s.extract (IntKind.i64.wrap v4).toNat (↑s.size : Int).toNat)) ≤ (0 : Int))) ((v2, false, ()) = C36.post (s, ())) (Pl.rg64 (1 : Int) ∧ (Pl.okZ (Pl.paR (s.extract (IntKind.i64.wrap v4).toNat (↑s.size : Int).toNat)) ∧ Pl.okZ (Pl.mkR (1 : Int))) ∧ Br (Pl.cpR (Pl.paR (s.extract (IntKind.i64.wrap v4).toNat (↑s.size : Int).toNat)) (Pl.mkR (1 : Int)) == (0 : Int)) ((v2, false, ()) = C36.post (s, ())) ((Pl.okZ (Pl.paR (s.extract (Int.toNat (0 : Int)) v3)) ∧ Pl.okZ (Pl.paR (s.extract (IntKind.i64.wrap v4).toNat (↑s.size : Int).toNat))) ∧ Pl.rg64 (1 : Int) ∧ (Pl.okZ (Pl.gcR (Pl.paR (s.extract (Int.toNat (0 : Int)) v3)) (Pl.paR (s.extract (IntKind.i64.wrap v4).toNat (↑s.size : Int).toNat))) ∧ Pl.okZ (Pl.mkR (1 : Int))) ∧ Br (Pl.cpR (Pl.gcR (Pl.paR (s.extract (Int.toNat (0 : Int)) v3)) (Pl.paR (s.extract (IntKind.i64.wrap v4).toNat (↑s.size : Int).toNat))) (Pl.mkR (1 : Int)) != (0 : Int)) ((v2, false, ()) = C36.post (s, ())) (((Pl.paR (s.extract (Int.toNat (0 : Int)) v3), Pl.paR (s.extract (IntKind.i64.wrap v4).toNat (↑s.size : Int).toNat), ()), true, ()) = C36.post (s, ())))))))) (s.size ≤ (140737488355328 : Nat) ∧ Br (!Pl.isF s) ((v2, false, ()) = C36.post (s, ())) (True ∧ (Pl.whR (Pl.paR s), true, ()) = C36.post (s, ())))) n ((false, [], false, [], ()), (0 : Int), ())) (by kernel_rfl) ?_
  intro v1 v2
  have hv2 : v2 = ((false, [], ()), (false, [], ()), ()) := rfl
  clear_value v2
  subst hv2
  have e : C36.post (s, ()) = (if rdV (bl s) then mkRQ (rdR (bl s)) else ((false, [], ()), (false, [], ()), ()), rdV (bl s), ()) := rfl
  obtain ⟨p, hp⟩ : ∃ p, p = C36.post (s, ()) := ⟨_, rfl⟩
  rw [e] at hp
  have e' : C36.post (s, ()) = p := by rw [hp, e]
  rw [e']
  have no : rdV (bl s) = false → (((false, [], ()), (false, [], ()), ()), false, ()) = p := fun h => by rw [hp, h]; rfl
  have hsz := size_bl s
  have hbt : ∀ i : Nat, bt s (i : Int) = ((((bl s).getD i 0).toNat : Nat) : Int) := bt_bl s
  refine itl_rule (fun st => ∃ i : Nat, st.2.1 = (i : Int) ∧ i ≤ s.size ∧ ∀ j, j < i → (bl s)[j]? ≠ some 47) (fun st => ((s.size : Int) - st.2.1).toNat) ⟨0, rfl, by omega, fun j hj => absurd hj (Nat.not_lt_zero _)⟩ ?_
  rintro ⟨bx, i', ⟨⟩⟩ G ⟨i, h1, h2, h3⟩ hG
  simp only at h1
  subst h1
  simp -zeta only
  intro v3 v4
  have hv3 : v3 = i := Int.toNat_natCast i
  have hv4 : IntKind.i64.wrap v4 = ((i + 1 : Nat) : Int) := by
    show IntKind.i64.wrap ((i : Int) + 1) = _
    rw [wrap_i64 (by omega) (by omega)]; omega
  rw [hv4]
  clear_value v3
  subst hv3
  rw [Int.toNat_natCast, Int.toNat_natCast, show Int.toNat 0 = 0 from rfl, hbt v3]
  refine Br_of (fun hc => ?_) (fun hc => ?_)
  · have hi : v3 < (bl s).length := by have := of_decide_eq_true hc; omega
    have hg : (bl s)[v3]? = some ((bl s).getD v3 0) := by
      rw [List.getD_eq_getElem?_getD, List.getElem?_eq_getElem hi]; rfl
    refine ⟨by omega, by omega, Br_of (fun hd => ?_) (fun hd => ?_)⟩
    · have hne : (bl s)[v3]? ≠ some 47 := fun h => by
        rw [hg] at h
        rw [Option.some.inj h] at hd
        exact absurd hd (by decide)
      refine hG _ ⟨v3 + 1, rfl, by omega, fun j hj => ?_⟩ (by simp only; omega)
      rcases Nat.lt_or_ge j v3 with h | h
      · exact h3 j h
      · rw [show j = v3 by omega]; exact hne
    · have h47 : (bl s)[v3]? = some 47 := by
        rw [hg]
        have : (bl s).getD v3 0 = 47 := (u8_eq (n := 47) (by decide)).2 (by
          have : ((((bl s).getD v3 0).toNat : Nat) : Int) = 47 := by simpa using hd
          omega)
        rw [this]
      have hcut := cut_at h47 h3
      have hl := List.take_append_drop v3 (bl s)
      have hdc : (bl s).drop v3 = 47 :: (bl s).drop (v3 + 1) := by
        rw [List.drop_eq_getElem_cons hi]
        rw [List.getElem?_eq_getElem hi] at h47
        rw [Option.some.inj h47]
      rw [hdc] at hl
      have eA : bl (s.extract 0 v3) = (bl s).take v3 := ext0
      have eB : bl (s.extract (v3 + 1) s.size) = (bl s).drop (v3 + 1) := ext1
      have htop : topL (bl s) = bl (s.extract 0 v3) := by unfold topL; rw [hcut, eA]
      have hbot : botL (bl s) = bl (s.extract (v3 + 1) s.size) := by unfold botL; rw [hcut, eB]; rfl
      rw [← eA, ← eB] at hl
      have sA : (s.extract 0 v3).size ≤ 1100000 := by rw [size_bl, eA, List.length_take]; omega
      have sB : (s.extract (v3 + 1) s.size).size ≤ 1100000 := by rw [size_bl, eB, List.length_drop]; omega
      generalize s.extract 0 v3 = A at hl htop sA
      generalize s.extract (v3 + 1) s.size = B at hl hbot sB
      have hrB : rdB (bl s) = (isF A && isF B && !decide ((bl B).head? = some 45) && !decide (bl B = [48])) := by
        unfold rdB; rw [htop, hbot]; rfl
      have hrR : rdR (bl s) = Rat.divInt (parS A) (parS B) := by unfold rdR; rw [htop, hbot]; rfl
      have noB : rdB (bl s) = false → (((false, [], ()), (false, [], ()), ()), false, ()) = p := fun h => no (by unfold rdV; rw [h]; rfl)
      refine ⟨by omega, by omega, by omega, by omega, by omega, by omega, Br_of (fun h => noB ?_) (fun h => Br_of (fun k => noB ?_) (fun k => ?_))⟩
      · have : isF A = false := by simpa using h
        rw [hrB, this]; rfl
      · have : isF B = false := by simpa using k
        rw [hrB, this, Bool.and_false]; rfl
      have fA : isF A = true := by simpa using h
      have fB : isF B = true := by simpa using k
      have oA := okZ_pa fA sA
      have oB := okZ_pa fB sB
      have pA : zv (paR A) = parS A := by rw [paR_f fA, zv_mk]
      have pB : zv (paR B) = parS B := by rw [paR_f fB, zv_mk]
      have cA : Lib.itoa (parS A) = bl A := canon fA
      have cB : Lib.itoa (parS B) = bl B := canon fB
      have sg : parS B ≤ 0 ↔ (bl B).head? = some 45 ∨ bl B = [48] := parS_sign fB
      rw [fA, fB, Bool.true_and, Bool.true_and] at hrB
      rw [cpR_mk, cpR_mk, zv_gc, pB, ← natAbs_zv, ← natAbs_zv, pA, pB]
      refine ⟨okZ_Y oB, Br_of (fun hz => noB ?_) (fun hz => ?_)⟩
      · have hz1 : ordI (zv (paR B)) 0 ≤ 0 := of_decide_eq_true hz
        rw [pB] at hz1
        have hz2 : parS B ≤ 0 := by
          rcases Int.lt_or_le 0 (parS B) with h | h
          · have := ordI_gt'.2 h; omega
          · exact h
        rcases sg.1 hz2 with h | h
        · rw [hrB, h]; rfl
        · rw [hrB, decide_eq_true h, Bool.not_true, Bool.and_false]
      have hpos : 0 < parS B := by
        have hz1 := of_decide_eq_false hz
        rcases Int.lt_or_le 0 (parS B) with h | h
        · exact h
        · exfalso
          apply hz1
          show ordI (zv (paR B)) 0 ≤ 0
          rw [pB]
          rcases Int.lt_or_le 0 (ordI (parS B) 0) with h1 | h1
          · have := ordI_gt'.1 h1; omega
          · exact h1
      have rB : rdB (bl s) = true := by
        have hn := fun h => (Int.not_le.2 hpos) (sg.2 h)
        rw [hrB, decide_eq_false (fun h => hn (Or.inl h)), decide_eq_false (fun h => hn (Or.inr h))]; rfl
      obtain ⟨b, hb⟩ : ∃ b : Nat, parS B = (b : Int) := ⟨(parS B).toNat, by omega⟩
      rw [hb] at hpos hrR pB cB ⊢
      rw [itoa_pos] at cB
      rw [← cA, ← cB] at hl
      have hV : rdV (bl s) = decide (txtR (rdR (bl s)) = bl s) := by unfold rdV; rw [rB]; rfl
      refine ⟨rg64_1, ⟨oB, okZ_64 rg64_1⟩, Br_of (fun h1 => no ?_) (fun h1 => ?_)⟩
      · have h2 : (b : Int) = 1 := ordI_eq.1 (by simpa using h1)
        have : b = 1 := by omega
        subst this
        rw [hV, decide_eq_false]
        intro ht
        have h5 : (rdR (bl s)).den = 1 := by rw [hrR, show ((1 : Nat) : Int) = 1 from rfl, divInt_1]; rfl
        unfold txtR at ht
        rw [if_pos h5] at ht
        exact itoa_no _ (ht ▸ hl ▸ List.mem_append_right _ List.mem_cons_self)
      have b1 : 1 < b := by
        have h2 : ¬ (b : Int) = 1 := fun h2 => by rw [ordI_eq.2 h2] at h1; cases h1
        omega
      have tf := txt_frac (a := parS A) b1
      rw [hl, ← hrR] at tf
      rw [Int.natAbs_natCast]
      refine ⟨⟨oA, oB⟩, rg64_1, ⟨okZ_gc oB (ne_zv (by rw [pB]; omega)), okZ_64 rg64_1⟩, Br_of (fun h2 => no ?_) (fun h2 => ?_)⟩
      · rw [hV, decide_eq_false]
        intro ht
        rw [tf.1 ht] at h2
        cases h2
      · have hg : Nat.gcd (parS A).natAbs b = 1 := by
          have : ordI ((Nat.gcd (parS A).natAbs b : Nat) : Int) 1 = 0 := by simpa using h2
          have := ordI_eq.1 this
          omega
        rw [hp, hV, decide_eq_true (tf.2 hg)]
        have hnd : (rdR (bl s)).num = parS A ∧ (rdR (bl s)).den = b := by
          obtain ⟨d, rfl⟩ : ∃ d, b = d + 1 := ⟨b - 1, by omega⟩
          rw [hrR, Rat.divInt_ofNat]
          exact num_mk hg
        show _ = (mkRQ (rdR (bl s)), true, ())
        unfold mkRQ
        rw [hnd.1, hnd.2, paR_f fA, paR_f fB, hb]
  · have hi : v3 = (bl s).length := by have := of_decide_eq_false hc; omega
    have hcut := cut_no (hi ▸ h3)
    have htop : topL (bl s) = bl s := by unfold topL; rw [hcut]
    have hbot : botL (bl s) = [49] := by unfold botL; rw [hcut]; rfl
    have hrB : rdB (bl s) = isF s := by
      unfold rdB; rw [htop, hbot]
      show (isFl (bl s) && true && true && true) = _
      rw [Bool.and_true, Bool.and_true, Bool.and_true]; rfl
    refine ⟨by omega, Br_of (fun h => no ?_) (fun h => ⟨trivial, ?_⟩)⟩
    · have : isF s = false := by simpa using h
      unfold rdV; rw [hrB, this]; rfl
    · have fs : isF s = true := by simpa using h
      have cs : Lib.itoa (parS s) = bl s := canon fs
      have hrR : rdR (bl s) = (parS s : Rat) := by
        unfold rdR; rw [htop, hbot]
        show Rat.divInt (parS s) 1 = _
        rw [divInt_1]
      have hV : rdV (bl s) = true := by
        unfold rdV; rw [hrB, fs, Bool.true_and, hrR]
        unfold txtR
        rw [if_pos (by rfl)]
        exact decide_eq_true cs
      rw [hp, hV, hrR, paR_f fs]
      rfl


end Ta
end
section
/- The reference's functions are sound. -/
set_option maxRecDepth 100000
namespace Ta
open Go Fw Go.Proofs Go.RowKit Pl

theorem snd101 : Sound Tryz.prog 101 C101 := fn_sound (T := T0) (fn := Tryz.f101) (tokg (T := T0) trivial trivial trivial) Tryz.func101 (by kernel_rfl) H101 vc101 (by kernel_rfl)
theorem snd93 : Sound Tryz.prog 93 C93 := fn_sound (T := T0) (fn := Tryz.f93) (tokg (T := T0) trivial trivial trivial) Tryz.func93 (by kernel_rfl) H93 vc93 (by kernel_rfl)
theorem snd80 : Sound Tryz.prog 80 C80 := fn_sound (T := T0) (fn := Tryz.f80) (tokg (T := T0) trivial trivial trivial) Tryz.func80 (by kernel_rfl) H80 vc80 (by kernel_rfl)
theorem snd81 : Sound Tryz.prog 81 C81 := fn_sound (T := T81) (fn := Tryz.f81) (tokg (T := T81) ⟨snd101, trivial⟩ trivial trivial) Tryz.func81 (by kernel_rfl) H81 vc81 (by kernel_rfl)
theorem snd123 : Sound Tryz.prog 123 C123 := fn_sound (T := T81) (fn := Tryz.f123) (tokg (T := T81) ⟨snd101, trivial⟩ trivial trivial) Tryz.func123 (by kernel_rfl) H123 vc123 (by kernel_rfl)
theorem snd124 : Sound Tryz.prog 124 C124 := fn_sound (T := T81) (fn := Tryz.f124) (tokg (T := T81) ⟨snd101, trivial⟩ trivial trivial) Tryz.func124 (by kernel_rfl) H124 vc124 (by kernel_rfl)
theorem snd94 : Sound Tryz.prog 94 C94 := fn_sound (T := T81) (fn := Tryz.f94) (tokg (T := T81) ⟨snd101, trivial⟩ trivial trivial) Tryz.func94 (by kernel_rfl) H94 vc94 (by kernel_rfl)
theorem snd78 : Sound Tryz.prog 78 C78 := fn_sound (T := T78) (fn := Tryz.f78) (tokg (T := T78) ⟨snd123, snd101, snd93, snd81, snd124, trivial⟩ trivial trivial) Tryz.func78 (by kernel_rfl) H78 vc78 (by kernel_rfl)
theorem snd109 : Sound Tryz.prog 109 C109 := fn_sound (T := T109) (fn := Tryz.f109) (tokg (T := T109) ⟨snd78, trivial⟩ trivial trivial) Tryz.func109 (by kernel_rfl) H109 vc109 (by kernel_rfl)
theorem snd57 : Sound Tryz.prog 57 C57 := fn_sound (T := T0) (fn := Tryz.f57) (tokg (T := T0) trivial trivial trivial) Tryz.func57 (by kernel_rfl) H57 vc57 (by kernel_rfl)
theorem snd79 : Sound Tryz.prog 79 C79 := fn_sound (T := T0) (fn := Tryz.f79) (tokg (T := T0) trivial trivial trivial) Tryz.func79 (by kernel_rfl) H0 vc79 (by kernel_rfl)
theorem snd69 : Sound Tryz.prog 69 C69 := fn_sound (T := T69) (fn := Tryz.f69) (tokg (T := T69) ⟨snd79, trivial⟩ trivial trivial) Tryz.func69 (by kernel_rfl) H69 vc69 (by kernel_rfl)
theorem snd51 : Sound Tryz.prog 51 C51 := fn_sound (T := T69) (fn := Tryz.f51) (tokg (T := T69) ⟨snd79, trivial⟩ trivial trivial) Tryz.func51 (by kernel_rfl) H0 vc51 (by kernel_rfl)
theorem snd20 : Sound Tryz.prog 20 C20 := fn_sound (T := T0) (fn := Tryz.f20) (tokg (T := T0) trivial trivial trivial) Tryz.func20 (by kernel_rfl) H0 vc20 (by kernel_rfl)
theorem snd33 : Sound Tryz.prog 33 C33 := fn_sound (T := T33) (fn := Tryz.f33) (tokg (T := T33) ⟨snd79, snd80, snd93, snd81, trivial⟩ trivial trivial) Tryz.func33 (by kernel_rfl) H0 vc33 (by kernel_rfl)
theorem snd34 : Sound Tryz.prog 34 C34 := fn_sound (T := T34) (fn := Tryz.f34) (tokg (T := T34) ⟨snd33, snd51, trivial⟩ trivial trivial) Tryz.func34 (by kernel_rfl) H0 vc34 (by kernel_rfl)
theorem snd35 : Sound Tryz.prog 35 C35 := fn_sound (T := T35) (fn := Tryz.f35) (tokg (T := T35) ⟨snd79, snd94, trivial⟩ trivial trivial) Tryz.func35 (by kernel_rfl) H0 vc35 (by kernel_rfl)
theorem snd53 : Sound Tryz.prog 53 C53 := fn_sound (T := T53) (fn := Tryz.f53) (tokg (T := T53) ⟨snd20, snd34, trivial⟩ trivial trivial) Tryz.func53 (by kernel_rfl) H0 vc53 (by kernel_rfl)
theorem snd86 : Sound Tryz.prog 86 C86 := fn_sound (T := T86) (fn := Tryz.f86) (tokg (T := T86) ⟨snd78, snd79, trivial⟩ trivial trivial) Tryz.func86 (by kernel_rfl) H0 vc86 (by kernel_rfl)
theorem snd55 : Sound Tryz.prog 55 C55 := fn_sound (T := T55) (fn := Tryz.f55) (tokg (T := T55) ⟨snd79, snd109, trivial⟩ trivial trivial) Tryz.func55 (by kernel_rfl) H0 vc55 (by kernel_rfl)
theorem snd22 : Sound Tryz.prog 22 C22 := fn_sound (T := T22) (fn := Tryz.f22) (tokg (T := T22) ⟨snd78, snd79, snd80, snd81, trivial⟩ trivial trivial) Tryz.func22 (by kernel_rfl) H0 vc22 (by kernel_rfl)
theorem snd29 : Sound Tryz.prog 29 C29 := fn_sound (T := T29) (fn := Tryz.f29) (tokg (T := T29) ⟨snd51, snd55, snd86, trivial⟩ trivial trivial) Tryz.func29 (by kernel_rfl) H0 vc29 (by kernel_rfl)
theorem snd27 : Sound Tryz.prog 27 C27 := fn_sound (T := T27) (fn := Tryz.f27) (tokg (T := T27) ⟨snd29, snd69, trivial⟩ trivial trivial) Tryz.func27 (by kernel_rfl) H0 vc27 (by kernel_rfl)
theorem snd95 : Sound Tryz.prog 95 C95 := fn_sound (T := T95) (fn := Tryz.f95) (tokg (T := T95) ⟨snd69, trivial⟩ trivial trivial) Tryz.func95 (by kernel_rfl) H0 vc95 (by kernel_rfl)
theorem snd71 : Sound Tryz.prog 71 C71 := fn_sound (T := T71) (fn := Tryz.f71) (tokg (T := T71) ⟨snd29, snd33, snd34, snd35, trivial⟩ trivial trivial) Tryz.func71 (by kernel_rfl) H0 vc71 (by kernel_rfl)
theorem snd43 : Sound Tryz.prog 43 C43 := fn_sound (T := T71) (fn := Tryz.f43) (tokg (T := T71) ⟨snd29, snd33, snd34, snd35, trivial⟩ trivial trivial) Tryz.func43 (by kernel_rfl) H0 vc43 (by kernel_rfl)
theorem snd72 : Sound Tryz.prog 72 C72 := fn_sound (T := T71) (fn := Tryz.f72) (tokg (T := T71) ⟨snd29, snd33, snd34, snd35, trivial⟩ trivial trivial) Tryz.func72 (by kernel_rfl) H0 vc72 (by kernel_rfl)
theorem snd74 : Sound Tryz.prog 74 C74 := fn_sound (T := T71) (fn := Tryz.f74) (tokg (T := T71) ⟨snd29, snd33, snd34, snd35, trivial⟩ trivial trivial) Tryz.func74 (by kernel_rfl) H0 vc74 (by kernel_rfl)
theorem snd73 : Sound Tryz.prog 73 C73 := fn_sound (T := T73) (fn := Tryz.f73) (tokg (T := T73) ⟨snd35, snd53, trivial⟩ trivial trivial) Tryz.func73 (by kernel_rfl) H0 vc73 (by kernel_rfl)
theorem snd41 : Sound Tryz.prog 41 C41 := fn_sound (T := T41) (fn := Tryz.f41) (tokg (T := T41) ⟨snd20, trivial⟩ trivial trivial) Tryz.func41 (by kernel_rfl) H0 vc41 (by kernel_rfl)
theorem snd104 : Sound Tryz.prog 104 C104 := fn_sound (T := T104) (fn := Tryz.f104) (tokg (T := T104) ⟨snd33, snd69, trivial⟩ trivial trivial) Tryz.func104 (by kernel_rfl) H104 vc104 (by kernel_rfl)
theorem snd47 : Sound Tryz.prog 47 C47 := fn_sound (T := T47) (fn := Tryz.f47) (tokg (T := T47) ⟨snd93, snd104, trivial⟩ trivial trivial) Tryz.func47 (by kernel_rfl) H0 vc47 (by kernel_rfl)
theorem snd58 : Sound Tryz.prog 58 C58 := fn_sound (T := T58) (fn := Tryz.f58) (tokg (T := T58) ⟨snd35, snd69, trivial⟩ trivial trivial) Tryz.func58 (by kernel_rfl) H58 vc58 (by kernel_rfl)
theorem snd62 : Sound Tryz.prog 62 C62 := fn_sound (T := T58) (fn := Tryz.f62) (tokg (T := T58) ⟨snd35, snd69, trivial⟩ trivial trivial) Tryz.func62 (by kernel_rfl) H62 vc62 (by kernel_rfl)
theorem snd61 : Sound Tryz.prog 61 C61 := fn_sound (T := T61) (fn := Tryz.f61) (tokg (T := T61) ⟨snd35, snd69, snd86, trivial⟩ trivial trivial) Tryz.func61 (by kernel_rfl) H61 vc61 (by kernel_rfl)
theorem snd49 : Sound Tryz.prog 49 C49 := fn_sound (T := T49) (fn := Tryz.f49) (tokg (T := T49) ⟨snd53, snd69, trivial⟩ trivial trivial) Tryz.func49 (by kernel_rfl) H49 vc49 (by kernel_rfl)
theorem snd82 : Sound Tryz.prog 82 C82 := fn_sound (T := T0) (fn := Tryz.f82) (tokg (T := T0) trivial trivial trivial) Tryz.func82 (by kernel_rfl) H82 vc82 (by kernel_rfl)
theorem snd84 : Sound Tryz.prog 84 C84 := fn_sound (T := T84) (fn := Tryz.f84) (tokg (T := T84) ⟨snd53, snd69, snd82, trivial⟩ trivial trivial) Tryz.func84 (by kernel_rfl) H0 vc84 (by kernel_rfl)
theorem snd44 : Sound Tryz.prog 44 C44 := fn_sound (T := T44) (fn := Tryz.f44) (tokg (T := T44) ⟨snd101, snd79, trivial⟩ trivial trivial) Tryz.func44 (by kernel_rfl) H44 vc44 (by kernel_rfl)
theorem snd36 : Sound Tryz.prog 36 C36 := fn_sound (T := T36) (fn := Tryz.f36) (tokg (T := T36) ⟨snd20, snd44, snd53, snd55, snd69, snd95, trivial⟩ trivial trivial) Tryz.func36 (by kernel_rfl) H36 vc36 (by kernel_rfl)

end Ta
end
section
/- The laws: contracts. -/
set_option linter.unusedVariables false
set_option linter.unusedSimpArgs false
set_option maxRecDepth 100000
namespace Ta
open Go Fw Go.Proofs

def Pl.whB (s : ByteArray) : Bool := Pl.isF s && (decide (s.size ≤ 700) && Pl.pa2 s == 0)
def Pl.fcB (s : ByteArray) : Bool := Pl.rvS s && (decide (s.size ≤ 400) && Pl.pq2 s == 0)
def Pl.isB (a : Zv) (z : Rv) : Bool := decide (Pl.iv a = Pl.zv z)
def Pl.eqB (a : Qv) (q : RQv) : Bool := decide (Pl.qv a = Pl.rqv q)
def Pl.sz (s : ByteArray) : Prop := s.size ≤ 140737488355328
def Pl.szQ (s : ByteArray) : Prop := s.size ≤ 1100000
def Pl.arr2 (d : D) : Prop := ∃ a b, d = .agg [.int .i64 a, .int .i64 b] ∧ Pl.rg64 a ∧ Pl.rg64 b

def C17 : Con := ⟨[S], [ZI, RZ, B], fun (x : ByteArray × Unit) => Pl.sz x.1, fun (x : ByteArray × Unit) => (Pl.pa1 x.1, Pl.paR x.1, Pl.whB x.1, ()), none⟩
def C63 : Con := ⟨[S], [QI, RQ, B], fun (x : ByteArray × Unit) => Pl.szQ x.1, fun (x : ByteArray × Unit) => (Pl.pq1 x.1, Pl.reR x.1, Pl.fcB x.1, ()), none⟩
def C23 : Con := ⟨[ZI, RZ], [B], fun (x : Zv × Rv × Unit) => Pl.okI x.1 ∧ Pl.okZ x.2.1, fun (x : Zv × Rv × Unit) => (Pl.isB x.1 x.2.1, ()), none⟩
def C26 : Con := ⟨[QI, RQ], [B], fun (x : Qv × RQv × Unit) => Pl.okQ2 x.1 ∧ Pl.okRQ x.2.1, fun (x : Qv × RQv × Unit) => (Pl.eqB x.1 x.2.1, ()), none⟩
def C18 : Con := ⟨[], [B], fun _ => True, fun _ => (true, ()), none⟩
def law1 : Con := ⟨[S], [B], fun (x : ByteArray × Unit) => Pl.sz x.1, fun _ => (true, ()), none⟩
def law2 : Con := ⟨[S, S], [B], fun (x : ByteArray × ByteArray × Unit) => Pl.sz x.1 ∧ Pl.sz x.2.1, fun _ => (true, ()), none⟩
def law3 : Con := ⟨[S, S, S], [B], fun (x : ByteArray × ByteArray × ByteArray × Unit) => Pl.sz x.1 ∧ Pl.sz x.2.1 ∧ Pl.sz x.2.2.1, fun _ => (true, ()), none⟩
def lawQ2 : Con := ⟨[S, S], [B], fun (x : ByteArray × ByteArray × Unit) => Pl.szQ x.1 ∧ Pl.szQ x.2.1, fun _ => (true, ()), none⟩
def lawQ3 : Con := ⟨[S, S, S], [B], fun (x : ByteArray × ByteArray × ByteArray × Unit) => Pl.szQ x.1 ∧ Pl.szQ x.2.1 ∧ Pl.szQ x.2.2.1, fun _ => (true, ()), none⟩
def law4 : Con := ⟨[.raw, S, S], [B], fun (x : D × ByteArray × ByteArray × Unit) => Pl.arr2 x.1 ∧ Pl.sz x.2.1 ∧ Pl.sz x.2.2.1, fun _ => (true, ()), none⟩
def lawI : Con := ⟨[I, I], [B], fun (x : Int × Int × Unit) => Pl.rg64 x.1 ∧ Pl.rg64 x.2.1, fun _ => (true, ()), none⟩
def lawSI : Con := ⟨[S, I], [B], fun (x : ByteArray × Int × Unit) => Pl.sz x.1 ∧ Pl.rg64 x.2.1, fun _ => (true, ()), none⟩
def C3 : Con := law2
def C4 : Con := law4
def C5 : Con := law2
def C6 : Con := law1
def C7 : Con := law1
def C8 : Con := law2
def C9 : Con := law3
def C10 : Con := lawSI
def C11 : Con := lawI
def C12 : Con := lawQ3
def C13 : Con := law1
def C14 : Con := lawQ2
def C15 : Con := lawI
def C16 : Con := lawI
def TH : Ctx := cT [(19, C19), (24, C24), (25, C25), (36, C36), (37, C37), (44, C44), (45, C45), (46, C46), (64, C64), (75, C75), (82, C82), (84, C84)]
def TL : Ctx := cT [(17, C17), (18, C18), (19, C19), (20, C20), (21, C21), (22, C22), (23, C23), (24, C24), (25, C25), (26, C26), (27, C27), (28, C28), (29, C29), (30, C30), (31, C31), (32, C32), (33, C33), (34, C34), (35, C35), (36, C36), (37, C37), (38, C38), (39, C39), (40, C40), (41, C41), (42, C42), (43, C43), (44, C44), (45, C45), (46, C46), (47, C47), (48, C48), (49, C49), (50, C50), (51, C51), (52, C52), (53, C53), (54, C54), (55, C55), (56, C56), (57, C57), (58, C58), (59, C59), (60, C60), (61, C61), (62, C62), (63, C63), (64, C64), (65, C65), (66, C66), (67, C67), (68, C68), (69, C69), (70, C70), (71, C71), (72, C72), (73, C73), (74, C74), (75, C75), (82, C82)]
def H11 : Hints := ⟨[], [], [(0, ⟨[], [(0, si), (1, si), (5, si)]⟩)], []⟩
def H16 : Hints := ⟨[], [], [(0, ⟨[5, 22, 24], [(15, .box [N, B]), (23, .box [N, B]), (25, .box [N, B]), (26, si)]⟩)], []⟩

end Ta
end
section
/- The laws' helpers. -/
set_option linter.unusedVariables false
set_option linter.unusedSimpArgs false
set_option maxRecDepth 100000
set_option exponentiation.threshold 6000000
namespace Ta
open Go Fw Go.Proofs Go.RowKit Pl

theorem Br_t {b : Bool} {X Y : Prop} (h : b = true) (x : X) : Br b X Y := by rw [h]; exact x
theorem Br_f {b : Bool} {X Y : Prop} (h : b = false) (y : Y) : Br b X Y := by rw [h]; exact y

/-! ### Bounds -/
def tb (m : Nat) (n : Int) : Prop := n.natAbs < 10 ^ m
instance (m : Nat) (n : Int) : Decidable (tb m n) := inferInstanceAs (Decidable (n.natAbs < 10 ^ m))
theorem p10 {a b : Nat} (h : a ≤ b) : 10 ^ a ≤ 10 ^ b := Nat.pow_le_pow_right (by decide) h
theorem tb_mono {m k : Nat} {n : Int} (h : tb m n) (hk : m ≤ k) : tb k n := Nat.lt_of_lt_of_le h (p10 hk)
theorem tb_okI {m : Nat} {n : Int} (h : tb m n) (hm : m ≤ 1000000) : okI (mkI n) := okI_mk' m (Nat.lt_of_lt_of_le h (Nat.pow_le_pow_left (by decide) m)) (by omega)
theorem tb_okZ {m : Nat} {n : Int} (h : tb m n) (hm : m ≤ 1000000) : okZ (mkR n) := okZ_mk m (Nat.lt_of_lt_of_le h (Nat.pow_le_pow_left (by decide) m)) (by omega)
theorem tb_okY {m : Nat} {n : Int} (h : tb m n) (hm : m ≤ 1000000) : okY (mkR n) := okZ_Y (tb_okZ h hm)
theorem big_lt {n : Int} (h : n.natAbs < 2 ^ 40000) : bigI n = false := decide_eq_false (Nat.not_lt.2 (bsz_le.2 h))
theorem big_ge {n : Int} (h : 2 ^ 40000 ≤ n.natAbs) : bigI n = true := decide_eq_true (Nat.lt_of_not_le fun h1 => Nat.not_lt.2 h (bsz_le.1 h1))
theorem tb_2 {m : Nat} {n : Int} (h : tb m n) : n.natAbs < 2 ^ (4 * m) := Nat.lt_of_lt_of_le h (by
  rw [Nat.pow_mul]; exact Nat.pow_le_pow_left (by decide) m)
theorem tb_big {m : Nat} {n : Int} (h : tb m n) (hm : m ≤ 10000) : bigI n = false :=
  big_lt (Nat.lt_of_lt_of_le (tb_2 h) (Nat.pow_le_pow_right (by decide) (by omega)))
theorem tb_add {m : Nat} {a b : Int} (ha : tb m a) (hb : tb m b) : tb (m + 1) (a + b) := by
  unfold tb at *
  have : 10 ^ (m + 1) = 10 ^ m * 10 := rfl
  have := Int.natAbs_add_le a b
  omega
theorem tb_neg {m : Nat} {a : Int} (ha : tb m a) : tb m (-a) := by unfold tb at *; rw [Int.natAbs_neg]; exact ha
theorem tb_sub {m : Nat} {a b : Int} (ha : tb m a) (hb : tb m b) : tb (m + 1) (a - b) := by
  rw [Int.sub_eq_add_neg]; exact tb_add ha (tb_neg hb)
theorem tb_mul {m k : Nat} {a b : Int} (ha : tb m a) (hb : tb k b) : tb (m + k) (a * b) := by
  unfold tb at *
  rw [Int.natAbs_mul, Nat.pow_add]
  exact Nat.mul_lt_mul_of_lt_of_le ha (Nat.le_of_lt hb) (by have := Nat.pow_pos (n := k) (show 0 < 10 by decide); omega)
theorem tb_div {m : Nat} {a b : Int} (ha : tb m a) : tb m (a / b) := Nat.lt_of_le_of_lt (Int.natAbs_ediv_le_natAbs a b) ha
theorem tb_mod {m : Nat} {a b : Int} (hb : tb m b) (h0 : b ≠ 0) : tb m (a % b) := by
  unfold tb at *
  have h1 := Int.emod_nonneg a h0
  have h2 := Int.emod_lt a h0
  omega
theorem tb_small {m : Nat} {n : Int} (h : n.natAbs < 10) (hm : 1 ≤ m) : tb m n := Nat.lt_of_lt_of_le h (p10 hm)
theorem tb_64 {n : Int} (h : rg64 n) : tb 20 n := by
  unfold tb rg64 at *
  have : 10 ^ 20 = 100000000000000000000 := rfl
  omega

/-! ### What calls return -/
theorem att1_tb {m : Nat} {n : Int} (h : tb m n) (hm : m ≤ 10000) : att1 n = mkI n := by unfold att1; rw [tb_big h hm]; rfl
theorem att2_tb {m : Nat} {n : Int} (h : tb m n) (hm : m ≤ 10000) : att2 n = 0 := by unfold att2; rw [tb_big h hm]; rfl
theorem isB_mk (n m : Int) : isB (mkI n) (mkR m) = decide (n = m) := by unfold isB; rw [iv_mk, zv_mk]
theorem eqB_mk (r q : Rat) (h : rqv (mkRQ q) = q) : eqB (mkQ r) (mkRQ q) = decide (r = q) := by unfold eqB; rw [qv_mkQ, h]
theorem rqv_mk (q : Rat) : rqv (mkRQ q) = q := by
  unfold rqv mkRQ
  simp only
  rw [zv_mk, zv_mk, Rat.num_divInt_den]
theorem sgI_mk (n : Int) : sgI (mkI n) = ordI n 0 := by unfold sgI; rw [iv_mk]
theorem sgR_mk (n : Int) : sgR (mkR n) = ordI n 0 := by unfold sgR; rw [zv_mk]
theorem cpI_mk (n m : Int) : cpI (mkI n) (mkI m) = ordI n m := by unfold cpI; rw [iv_mk, iv_mk]
theorem cpR_mk2 (n m : Int) : cpR (mkR n) (mkR m) = ordI n m := by unfold cpR; rw [zv_mk, zv_mk]
theorem ad1_mk (n m : Int) : ad1 (mkI n) (mkI m) = att1 (n + m) := by unfold ad1; rw [iv_mk, iv_mk]
theorem ad2_mk (n m : Int) : ad2 (mkI n) (mkI m) = att2 (n + m) := by unfold ad2; rw [iv_mk, iv_mk]
theorem su1_mk (n m : Int) : su1 (mkI n) (mkI m) = att1 (n - m) := by unfold su1; rw [iv_mk, iv_mk]
theorem su2_mk (n m : Int) : su2 (mkI n) (mkI m) = att2 (n - m) := by unfold su2; rw [iv_mk, iv_mk]
theorem mu1_mk (n m : Int) : mu1 (mkI n) (mkI m) = att1 (n * m) := by unfold mu1; rw [iv_mk, iv_mk]
theorem mu2_mk (n m : Int) : mu2 (mkI n) (mkI m) = att2 (n * m) := by unfold mu2; rw [iv_mk, iv_mk]
theorem adR_mk (n m : Int) : adR (mkR n) (mkR m) = mkR (n + m) := by unfold adR; rw [zv_mk, zv_mk]
theorem suR_mk (n m : Int) : suR (mkR n) (mkR m) = mkR (n - m) := by unfold suR; rw [zv_mk, zv_mk]
theorem muR_mk (n m : Int) : muR (mkR n) (mkR m) = mkR (n * m) := by unfold muR; rw [zv_mk, zv_mk]
theorem dqR_mk (n m : Int) : dqR (mkR n) (mkR m) = mkR (n / m) := by unfold dqR; rw [zv_mk, zv_mk]
theorem drR_mk (n m : Int) : drR (mkR n) (mkR m) = mkR (n % m) := by unfold drR; rw [zv_mk, zv_mk]
theorem gcI_mk (n m : Int) : gcI (mkI n) (mkI m) = mkI ((Nat.gcd n.natAbs m.natAbs : Nat) : Int) := by
  unfold gcI; rw [← natAbs_iv, ← natAbs_iv, iv_mk, iv_mk]
theorem gcR_mk (n m : Int) : gcR (mkR n) (mkR m) = mkR ((Nat.gcd n.natAbs m.natAbs : Nat) : Int) := by
  unfold gcR; rw [nr_mkR, nr_mkR]
theorem mkR_ne {n : Int} (h : n ≠ 0) : (mkR n).2.1 ≠ [] := ne_zv (by rw [zv_mk]; exact h)
theorem txtI_mk (n : Int) : txtI (mkI n) = ba (Lib.itoa n) := by unfold txtI; rw [iv_mk]

theorem parS_tb {s : ByteArray} (h : isF s = true) : tb s.size (parS s) := by
  obtain ⟨h1, h2⟩ := isFl_parts h
  unfold tb parS
  rw [parV_abs, size_bl]
  exact Nat.lt_of_lt_of_le (decV_lt h2) (p10 (unsg_len _))
theorem whole_ok {s : ByteArray} (h : whB s = true) : ∃ n : Int, pa1 s = mkI n ∧ paR s = mkR n ∧ tb 700 n := by
  unfold whB at h
  simp only [Bool.and_eq_true, decide_eq_true_eq] at h
  obtain ⟨h1, h2, h3⟩ := h
  have hb : tb 700 (parS s) := tb_mono (parS_tb h1) h2
  refine ⟨parS s, ?_, paR_f h1, hb⟩
  unfold pa1
  rw [if_pos ⟨h1, by omega⟩, att1_tb hb (by decide)]

theorem vc17 : ∀ x, C17.pre x → VC TH H0 Tryz.f17 C17 x := by
  rintro ⟨(s : ByteArray), ⟨⟩⟩ (h : s.size ≤ 140737488355328)
  refine cast (α := s.size ≤ (140737488355328 : Nat) ∧ s.size ≤ (9000000000000000000 : Nat) ∧ Br (Pl.isF s) (Br (decide ((↑s.size : Int) ≤ (700 : Int))) ((Pl.pa1 s, Pl.paR s, Pl.pa2 s == (0 : Int), ()) = C17.post (s, ())) ((Pl.pa1 s, Pl.paR s, false, ()) = C17.post (s, ()))) ((Pl.pa1 s, Pl.paR s, false, ()) = C17.post (s, ()))) (by kernel_rfl) ?_
  have e : C17.post (s, ()) = (pa1 s, paR s, isF s && (decide (s.size ≤ 700) && pa2 s == 0), ()) := rfl
  rw [e]
  refine ⟨by omega, by omega, Br_of (fun h1 => ?_) (fun h1 => ?_)⟩
  · rw [h1]
    refine Br_of (fun h2 => ?_) (fun h2 => ?_)
    · have : s.size ≤ 700 := by have := of_decide_eq_true h2; omega
      rw [decide_eq_true this]; rfl
    · have : ¬ s.size ≤ 700 := by have := of_decide_eq_false h2; omega
      rw [decide_eq_false this]; rfl
  · rw [h1]; rfl
theorem vc63 : ∀ x, C63.pre x → VC TH H0 Tryz.f63 C63 x := by
  rintro ⟨(s : ByteArray), ⟨⟩⟩ (h : s.size ≤ 1100000)
  refine cast (α := s.size ≤ (1100000 : Nat) ∧ s.size ≤ (1100000 : Nat) ∧ Br (Pl.rvS s) (Br (decide ((↑s.size : Int) ≤ (400 : Int))) ((Pl.pq1 s, Pl.reR s, Pl.pq2 s == (0 : Int), ()) = C63.post (s, ())) ((Pl.pq1 s, Pl.reR s, false, ()) = C63.post (s, ()))) ((Pl.pq1 s, Pl.reR s, false, ()) = C63.post (s, ()))) (by kernel_rfl) ?_
  have e : C63.post (s, ()) = (pq1 s, reR s, rvS s && (decide (s.size ≤ 400) && pq2 s == 0), ()) := rfl
  rw [e]
  refine ⟨by omega, by omega, Br_of (fun h1 => ?_) (fun h1 => ?_)⟩
  · rw [h1]
    refine Br_of (fun h2 => ?_) (fun h2 => ?_)
    · have : s.size ≤ 400 := by have := of_decide_eq_true h2; omega
      rw [decide_eq_true this]; rfl
    · have : ¬ s.size ≤ 400 := by have := of_decide_eq_false h2; omega
      rw [decide_eq_false this]; rfl
  · rw [h1]; rfl
theorem ba_eq (a b : List UInt8) : ((ba a).toList == (ba b).toList) = decide (a = b) := by rw [ba_toList, bl_ba, bl_ba]
theorem vc23 : ∀ x, C23.pre x → VC TH H0 Tryz.f23 C23 x := by
  rintro ⟨⟨(a : List Int), (s : Bool), ⟨⟩⟩, ⟨(t : Bool), (b : List Int), ⟨⟩⟩, ⟨⟩⟩ ⟨(h : okI (a, s, ())), (k : okZ (t, b, ()))⟩
  refine cast (α := let v1 := (a, s, ()); let v2 := (t, b, ()); Pl.okI v1 ∧ Pl.okZ v2 ∧ ((Pl.txtI v1).toList == (Pl.txR v2).toList, ()) = C23.post (v1, v2, ())) (by kernel_rfl) ?_
  refine ⟨h, k, ?_⟩
  have e : C23.post ((a, s, ()), (t, b, ()), ()) = (decide (iv (a, s, ()) = zv (t, b, ())), ()) := rfl
  rw [e]
  show ((ba (Lib.itoa (iv (a, s, ())))).toList == (ba (Lib.itoa (zv (t, b, ())))).toList, ()) = _
  rw [ba_eq]
  congr 1
  rw [Bool.eq_iff_iff]
  simp only [decide_eq_true_eq]
  exact ⟨itoa_inj, fun h => by rw [h]⟩
theorem txtR_inj {r q : Rat} (h : txtR r = txtR q) : r = q := by
  unfold txtR at h
  have nd : ∀ {x : Rat} {n : Int}, Lib.itoa x.num ++ (47 :: Lib.decDigits x.den) ≠ Lib.itoa n := fun {x n} h => itoa_no n (h ▸ List.mem_append_right _ List.mem_cons_self)
  split at h <;> split at h
  · rename_i h1 h2
    exact Rat.ext (itoa_inj h) (by rw [h1, h2])
  · exact absurd h.symm nd
  · exact absurd h nd
  · obtain ⟨h1, h2⟩ := split_eq (itoa_no _) (itoa_no _) h
    exact Rat.ext (itoa_inj h1) (dec_inj h2)
theorem vc26 : ∀ x, C26.pre x → VC TH H0 Tryz.f26 C26 x := by
  rintro ⟨⟨⟨(a : List Int), (s : Bool), ⟨⟩⟩, (b : List Int), ⟨⟩⟩, ⟨⟨(t : Bool), (c : List Int), ⟨⟩⟩, ⟨(u : Bool), (d : List Int), ⟨⟩⟩, ⟨⟩⟩, ⟨⟩⟩ ⟨(h : okQ2 ((a, s, ()), b, ())), (k : okRQ ((t, c, ()), (u, d, ()), ()))⟩
  refine cast (α := let v1 := (a, s, ()); let v2 := (t, c, ()); let v3 := (u, d, ()); let v4 := (v1, b, ()); let v5 := (v2, v3, ()); Pl.okQ2 v4 ∧ Pl.okRQ v5 ∧ ((Pl.txtQ v4).toList == (Pl.foR v5).toList, ()) = C26.post (v4, v5, ())) (by kernel_rfl) ?_
  intro v1 v2 v3 v4 v5
  refine ⟨h, k, ?_⟩
  have e : C26.post (v4, v5, ()) = (decide (qv v4 = rqv v5), ()) := rfl
  rw [e]
  show ((ba (txtR (qv v4))).toList == (ba (txtR (rqv v5))).toList, ()) = _
  rw [ba_eq]
  congr 1
  rw [Bool.eq_iff_iff]
  simp only [decide_eq_true_eq]
  exact ⟨txtR_inj, fun h => by rw [h]⟩

/-! ### What must hold whatever the input is -/
theorem dI_num {a : Int} {d : Nat} (h : Nat.gcd a.natAbs (d + 1) = 1) : (Rat.divInt a ((d + 1 : Nat) : Int)).num = a ∧ (Rat.divInt a ((d + 1 : Nat) : Int)).den = d + 1 := by
  rw [Rat.divInt_ofNat]; exact num_mk h
theorem txt_16 : txtR (Rat.divInt 1 6) = [49, 47, 54] := by
  have := (txt_frac (a := 1) (b := 6) (by decide)).2 (by decide)
  rw [show ((6 : Nat) : Int) = 6 from rfl] at this
  rw [this, show Lib.itoa 1 = Lib.decDigits 1 from rfl, dec_lt (by decide), dec_lt (by decide)]; rfl
theorem txt_12 : txtR (Rat.divInt 1 2) = [49, 47, 50] := by
  have := (txt_frac (a := 1) (b := 2) (by decide)).2 (by decide)
  rw [show ((2 : Nat) : Int) = 2 from rfl] at this
  rw [this, show Lib.itoa 1 = Lib.decDigits 1 from rfl, dec_lt (by decide), dec_lt (by decide)]; rfl
theorem cut_16 : Lib.cut [49, 47, 54] [47] = ([49], [54], true) := cut_at (i := 1) rfl (by
  intro j hj
  have : j = 0 := by omega
  subst this; decide)
theorem rd_16 : rdV [49, 47, 54] = true ∧ rdR [49, 47, 54] = Rat.divInt 1 6 := by
  have ht : topL [49, 47, 54] = [49] := by unfold topL; rw [cut_16]
  have hb : botL [49, 47, 54] = [54] := by unfold botL; rw [cut_16]; rfl
  have hr : rdR [49, 47, 54] = Rat.divInt 1 6 := by unfold rdR; rw [ht, hb]; rfl
  refine ⟨?_, hr⟩
  unfold rdV rdB
  rw [ht, hb, hr, txt_16]; decide
theorem bigQ_of {a : Int} {d : Nat} (h : Nat.gcd a.natAbs (d + 1) = 1) {m : Nat} (ha : tb m a) (hd : tb m ((d + 1 : Nat) : Int)) (hm : m ≤ 10000) : bigQ (Rat.divInt a ((d + 1 : Nat) : Int)) = false := by
  unfold bigQ
  rw [(dI_num h).1, (dI_num h).2, tb_big ha hm, tb_big hd hm]; rfl
theorem okQ2_of {a : Int} {d : Nat} {m : Nat} (ha : tb m a) (hd : tb m ((d + 1 : Nat) : Int)) (hm : m ≤ 100000) : okQ (mkQ (Rat.divInt a ((d + 1 : Nat) : Int))) := by
  refine okQ_div (k := m) (by omega) (Nat.lt_of_lt_of_le ha (Nat.pow_le_pow_left (by decide) m)) (Nat.le_of_lt (Nat.lt_of_lt_of_le hd (Nat.pow_le_pow_left (by decide) m))) (by omega) (by decide)
theorem sum_12 : Rat.divInt 1 3 + Rat.divInt 1 6 = Rat.divInt 1 2 := by
  rw [Rat.divInt_add_divInt _ _ (by decide) (by decide)]
  exact (Rat.divInt_eq_divInt_iff (by decide) (by decide)).2 (by decide)
theorem vc18 : ∀ x, C18.pre x → VC TH H0 Tryz.f18 C18 x := by
  rintro ⟨⟩ -
  refine cast (α := let v1 := [(45 : UInt8), (55 : UInt8)]; let v2 := [(47 : UInt8), (54 : UInt8)]; (ByteArray.mk (v1.toArray)).size ≤ (9000000000000000000 : Nat) ∧ ((-9223372036854775808 : Int) ≤ (3 : Int) ∧ (3 : Int) < (9223372036854775808 : Int)) ∧ (Pl.okI (Pl.pa1 (ByteArray.mk (v1.toArray))) ∧ Pl.okI (Pl.mkI (3 : Int))) ∧ (((-9223372036854775808 : Int) ≤ (1 : Int) ∧ (1 : Int) < (9223372036854775808 : Int)) ∧ (-9223372036854775808 : Int) ≤ (3 : Int) ∧ (3 : Int) < (9223372036854775808 : Int)) ∧ (ByteArray.mk (((49 : UInt8) :: v2).toArray)).size ≤ (1100000 : Nat) ∧ (Pl.okQ (Pl.mk1 (1 : Int) (3 : Int)) ∧ Pl.okQ (Pl.pq1 (ByteArray.mk (((49 : UInt8) :: v2).toArray)))) ∧ Br (Pl.pa2 (ByteArray.mk (v1.toArray)) == (0 : Int)) (Br (Pl.dv3 (Pl.pa1 (ByteArray.mk (v1.toArray))) (Pl.mkI (3 : Int)) == (0 : Int)) (Br (Pl.mk2 (3 : Int) == (0 : Int)) (Br (Pl.pq2 (ByteArray.mk (((49 : UInt8) :: v2).toArray)) == (0 : Int)) (Br (Pl.aad2 (Pl.mk1 (1 : Int) (3 : Int)) (Pl.pq1 (ByteArray.mk (((49 : UInt8) :: v2).toArray))) == (0 : Int)) (Pl.okI (Pl.dv1 (Pl.pa1 (ByteArray.mk (v1.toArray))) (Pl.mkI (3 : Int))) ∧ Br ((Pl.txtI (Pl.dv1 (Pl.pa1 (ByteArray.mk (v1.toArray))) (Pl.mkI (3 : Int)))).toList == (ByteArray.mk #[(45 : UInt8), (51 : UInt8)]).toList) (Pl.okI (Pl.dv2 (Pl.pa1 (ByteArray.mk (v1.toArray))) (Pl.mkI (3 : Int))) ∧ Br ((Pl.txtI (Pl.dv2 (Pl.pa1 (ByteArray.mk (v1.toArray))) (Pl.mkI (3 : Int)))).toList == (ByteArray.mk #[(50 : UInt8)]).toList) (Pl.okQ2 (Pl.aad1 (Pl.mk1 (1 : Int) (3 : Int)) (Pl.pq1 (ByteArray.mk (((49 : UInt8) :: v2).toArray)))) ∧ ((Pl.txtQ (Pl.aad1 (Pl.mk1 (1 : Int) (3 : Int)) (Pl.pq1 (ByteArray.mk (((49 : UInt8) :: v2).toArray))))).toList == (ByteArray.mk #[(49 : UInt8), (47 : UInt8), (50 : UInt8)]).toList, ()) = C18.post ()) ((false, ()) = C18.post ())) ((false, ()) = C18.post ())) ((false, ()) = C18.post ())) ((false, ()) = C18.post ())) ((false, ()) = C18.post ())) ((false, ()) = C18.post ())) ((false, ()) = C18.post ())) (by kernel_rfl) ?_
  intro v1 v2
  have e1 : ({ data := v1.toArray } : ByteArray) = ba [45, 55] := rfl
  have e2 : ({ data := ((49 : UInt8) :: v2).toArray } : ByteArray) = ba [49, 47, 54] := rfl
  rw [e1, e2]
  have hF : isF (ba [45, 55]) = true := by decide
  have hP : parS (ba [45, 55]) = -7 := by decide
  have hs : (ba [45, 55]).size = 2 := rfl
  have b7 : tb 1 (-7) := by decide
  have p1 : pa1 (ba [45, 55]) = mkI (-7) := by unfold pa1; rw [if_pos ⟨hF, by decide⟩, hP, att1_tb b7 (by decide)]
  have p2 : pa2 (ba [45, 55]) = 0 := by unfold pa2; rw [if_pos hF, if_pos (by decide), hP, att2_tb b7 (by decide)]
  have b3 : bigI (-7 / 3) = false := tb_big (m := 1) (by decide) (by decide)
  have d1 : dv1 (mkI (-7)) (mkI 3) = mkI (-3) := by unfold dv1; rw [iv_mk, iv_mk, if_neg (by decide), b3]; rfl
  have d2 : dv2 (mkI (-7)) (mkI 3) = mkI 2 := by unfold dv2; rw [iv_mk, iv_mk, if_neg (by decide), b3]; rfl
  have d3 : dv3 (mkI (-7)) (mkI 3) = 0 := by unfold dv3; rw [iv_mk, iv_mk, if_neg (by decide), b3]; rfl
  have b16 : bigQ (Rat.divInt 1 6) = false := bigQ_of (a := 1) (d := 5) (m := 1) (by decide) (by decide) (by decide) (by decide)
  have q1 : pq1 (ba [49, 47, 54]) = mkQ (Rat.divInt 1 6) := by
    unfold pq1; rw [bl_ba, if_pos rd_16.1, rd_16.2]; unfold atq1
    rw [b16]; rfl
  have q2 : pq2 (ba [49, 47, 54]) = 0 := by
    unfold pq2; rw [bl_ba, if_pos rd_16.1, rd_16.2]; unfold atq2
    rw [b16]; rfl
  have m1 : mk1 1 3 = mkQ (Rat.divInt 1 3) := rfl
  have o1 : okQ (mkQ (Rat.divInt 1 3)) := okQ2_of (a := 1) (d := 2) (m := 1) (by decide) (by decide) (by decide)
  have o2 : okQ (mkQ (Rat.divInt 1 6)) := okQ2_of (a := 1) (d := 5) (m := 1) (by decide) (by decide) (by decide)
  have o3 : okQ (mkQ (Rat.divInt 1 2)) := okQ2_of (a := 1) (d := 1) (m := 1) (by decide) (by decide) (by decide)
  have bq : bigQ (Rat.divInt 1 2) = false := bigQ_of (a := 1) (d := 1) (m := 1) (by decide) (by decide) (by decide) (by decide)
  have a1 : aad1 (mkQ (Rat.divInt 1 3)) (mkQ (Rat.divInt 1 6)) = mkQ (Rat.divInt 1 2) := by
    unfold aad1 adQ; rw [qv_mkQ, qv_mkQ, sum_12]; unfold atq1; rw [bq]; rfl
  have a2 : aad2 (mkQ (Rat.divInt 1 3)) (mkQ (Rat.divInt 1 6)) = 0 := by
    unfold aad2 adQ; rw [qv_mkQ, qv_mkQ, sum_12]; unfold atq2; rw [bq]; rfl
  have t1 : (txtI (mkI (-3))).toList == { data := #[(45 : UInt8), (51 : UInt8)] : ByteArray }.toList := by
    rw [txtI_mk]
    show ((ba _).toList == (ba [45, 51]).toList) = true
    rw [ba_eq, show Lib.itoa (-3) = 45 :: Lib.decDigits 3 from rfl, dec_lt (by decide)]; decide
  have t2 : (txtI (mkI 2)).toList == { data := #[(50 : UInt8)] : ByteArray }.toList := by
    rw [txtI_mk]
    show ((ba _).toList == (ba [50]).toList) = true
    rw [ba_eq, show Lib.itoa 2 = Lib.decDigits 2 from rfl, dec_lt (by decide)]; decide
  have t3 : ((txtQ (mkQ (Rat.divInt 1 2))).toList == { data := #[(49 : UInt8), (47 : UInt8), (50 : UInt8)] : ByteArray }.toList) = true := by
    rw [txtQ_mk, txt_12]
    show ((ba _).toList == (ba [49, 47, 50]).toList) = true
    rw [ba_eq]; decide
  rw [p1, p2, q1, q2, m1, d1, d2, d3, a1, a2]
  have k7 := tb_okI b7 (by decide)
  have k3 : okI (mkI 3) := tb_okI (m := 1) (by decide) (by decide)
  refine ⟨by decide, by decide, ⟨k7, k3⟩, by decide, by decide, ⟨o1, o2⟩, Br_t rfl (Br_t rfl (Br_t rfl (Br_t rfl (Br_t rfl ⟨tb_okI (m := 1) (by decide) (by decide), Br_t t1 ⟨tb_okI (m := 1) (by decide) (by decide), Br_t t2 ⟨okQ_1 o3, ?_⟩⟩⟩))))⟩
  rw [t3]; rfl

theorem snd17 : Sound Tryz.prog 17 C17 := fn_sound (T := TH) (fn := Tryz.f17) (tokg (T := TH) ⟨snd19, snd24, snd25, snd36, snd37, snd44, snd45, snd46, snd64, snd75, snd82, snd84, trivial⟩ trivial trivial) Tryz.func17 (by kernel_rfl) H0 vc17 (by kernel_rfl)
theorem snd63 : Sound Tryz.prog 63 C63 := fn_sound (T := TH) (fn := Tryz.f63) (tokg (T := TH) ⟨snd19, snd24, snd25, snd36, snd37, snd44, snd45, snd46, snd64, snd75, snd82, snd84, trivial⟩ trivial trivial) Tryz.func63 (by kernel_rfl) H0 vc63 (by kernel_rfl)
theorem snd23 : Sound Tryz.prog 23 C23 := fn_sound (T := TH) (fn := Tryz.f23) (tokg (T := TH) ⟨snd19, snd24, snd25, snd36, snd37, snd44, snd45, snd46, snd64, snd75, snd82, snd84, trivial⟩ trivial trivial) Tryz.func23 (by kernel_rfl) H0 vc23 (by kernel_rfl)
theorem snd26 : Sound Tryz.prog 26 C26 := fn_sound (T := TH) (fn := Tryz.f26) (tokg (T := TH) ⟨snd19, snd24, snd25, snd36, snd37, snd44, snd45, snd46, snd64, snd75, snd82, snd84, trivial⟩ trivial trivial) Tryz.func26 (by kernel_rfl) H0 vc26 (by kernel_rfl)
theorem snd18 : Sound Tryz.prog 18 C18 := fn_sound (T := TH) (fn := Tryz.f18) (tokg (T := TH) ⟨snd19, snd24, snd25, snd36, snd37, snd44, snd45, snd46, snd64, snd75, snd82, snd84, trivial⟩ trivial trivial) Tryz.func18 (by kernel_rfl) H0 vc18 (by kernel_rfl)
theorem tokL : Tok Tryz.prog TL := tokg (T := TL) ⟨snd17, snd18, snd19, snd20, snd21, snd22, snd23, snd24, snd25, snd26, snd27, snd28, snd29, snd30, snd31, snd32, snd33, snd34, snd35, snd36, snd37, snd38, snd39, snd40, snd41, snd42, snd43, snd44, snd45, snd46, snd47, snd48, snd49, snd50, snd51, snd52, snd53, snd54, snd55, snd56, snd57, snd58, snd59, snd60, snd61, snd62, snd63, snd64, snd65, snd66, snd67, snd68, snd69, snd70, snd71, snd72, snd73, snd74, snd75, snd82, trivial⟩ trivial trivial

end Ta
end
section
/- The laws: sums, quotients, order. -/
set_option linter.unusedVariables false
set_option linter.unusedSimpArgs false
set_option maxRecDepth 100000
namespace Ta
open Go Fw Go.Proofs Go.RowKit Pl

theorem not_t {b : Bool} (h : (!b) = false) : b = true := by simpa using h
theorem vc5 : ∀ x, C5.pre x → VC TL H0 Tryz.f5 C5 x := by
  rintro ⟨(s : ByteArray), (t : ByteArray), ⟨⟩⟩ ⟨(hs : sz s), (ht : sz t)⟩
  refine cast (α := Pl.sz s ∧ Pl.sz t ∧ Br (!Pl.whB s) (True ∧ (true, ()) = C5.post (s, t, ())) (Br (!Pl.whB t) (True ∧ (true, ()) = C5.post (s, t, ())) ((Pl.okI (Pl.pa1 s) ∧ Pl.okI (Pl.pa1 t)) ∧ (Pl.okI (Pl.pa1 s) ∧ Pl.okI (Pl.pa1 t)) ∧ (Pl.okI (Pl.pa1 s) ∧ Pl.okI (Pl.pa1 t)) ∧ Br (Pl.ad2 (Pl.pa1 s) (Pl.pa1 t) == (0 : Int)) (Br (Pl.su2 (Pl.pa1 s) (Pl.pa1 t) == (0 : Int)) (Br (Pl.mu2 (Pl.pa1 s) (Pl.pa1 t) == (0 : Int)) ((Pl.okZ (Pl.paR s) ∧ Pl.okZ (Pl.paR t)) ∧ (Pl.okI (Pl.ad1 (Pl.pa1 s) (Pl.pa1 t)) ∧ Pl.okZ (Pl.adR (Pl.paR s) (Pl.paR t))) ∧ Br (Pl.isB (Pl.ad1 (Pl.pa1 s) (Pl.pa1 t)) (Pl.adR (Pl.paR s) (Pl.paR t))) ((Pl.okZ (Pl.paR s) ∧ Pl.okZ (Pl.paR t)) ∧ (Pl.okI (Pl.su1 (Pl.pa1 s) (Pl.pa1 t)) ∧ Pl.okZ (Pl.suR (Pl.paR s) (Pl.paR t))) ∧ Br (Pl.isB (Pl.su1 (Pl.pa1 s) (Pl.pa1 t)) (Pl.suR (Pl.paR s) (Pl.paR t))) ((Pl.okZ (Pl.paR s) ∧ Pl.okZ (Pl.paR t)) ∧ (Pl.okI (Pl.mu1 (Pl.pa1 s) (Pl.pa1 t)) ∧ Pl.okZ (Pl.muR (Pl.paR s) (Pl.paR t))) ∧ Br (Pl.isB (Pl.mu1 (Pl.pa1 s) (Pl.pa1 t)) (Pl.muR (Pl.paR s) (Pl.paR t))) (True ∧ (true, ()) = C5.post (s, t, ())) ((false, ()) = C5.post (s, t, ()))) ((false, ()) = C5.post (s, t, ()))) ((false, ()) = C5.post (s, t, ()))) ((false, ()) = C5.post (s, t, ()))) ((false, ()) = C5.post (s, t, ()))) ((false, ()) = C5.post (s, t, ()))))) (by kernel_rfl) ?_
  refine ⟨hs, ht, Br_of (fun h => ⟨trivial, rfl⟩) (fun h => Br_of (fun k => ⟨trivial, rfl⟩) (fun k => ?_))⟩
  obtain ⟨n, e1, e2, bn⟩ := whole_ok (not_t h)
  obtain ⟨m, f1, f2, bm⟩ := whole_ok (not_t k)
  have ba := tb_add bn bm
  have bs := tb_sub bn bm
  have bp := tb_mul bn bm
  rw [e1, e2, f1, f2, ad1_mk, ad2_mk, su1_mk, su2_mk, mu1_mk, mu2_mk, adR_mk, suR_mk, muR_mk, att1_tb ba (by decide), att2_tb ba (by decide), att1_tb bs (by decide), att2_tb bs (by decide), att1_tb bp (by decide), att2_tb bp (by decide), isB_mk, isB_mk, isB_mk]
  have i1 := tb_okI bn (by decide)
  have i2 := tb_okI bm (by decide)
  have z1 := tb_okZ bn (by decide)
  have z2 := tb_okZ bm (by decide)
  exact ⟨⟨i1, i2⟩, ⟨i1, i2⟩, ⟨i1, i2⟩, Br_t rfl (Br_t rfl (Br_t rfl ⟨⟨z1, z2⟩, ⟨tb_okI ba (by decide), tb_okZ ba (by decide)⟩, Br_t (decide_eq_true rfl) ⟨⟨z1, z2⟩, ⟨tb_okI bs (by decide), tb_okZ bs (by decide)⟩,
    Br_t (decide_eq_true rfl) ⟨⟨z1, z2⟩, ⟨tb_okI bp (by decide), tb_okZ bp (by decide)⟩, Br_t (decide_eq_true rfl) ⟨trivial, rfl⟩⟩⟩⟩))⟩
theorem dv1_mk {n m : Int} {k : Nat} (hm : m ≠ 0) (hn : tb k n) (hk : k ≤ 10000) : dv1 (mkI n) (mkI m) = mkI (n / m) := by
  unfold dv1; rw [iv_mk, iv_mk, if_neg hm, tb_big (tb_div hn) hk]; rfl
theorem dv2_mk {n m : Int} {k : Nat} (hm : m ≠ 0) (hn : tb k n) (hk : k ≤ 10000) : dv2 (mkI n) (mkI m) = mkI (n % m) := by
  unfold dv2; rw [iv_mk, iv_mk, if_neg hm, tb_big (tb_div hn) hk]; rfl
theorem dv3_mk {n m : Int} {k : Nat} (hm : m ≠ 0) (hn : tb k n) (hk : k ≤ 10000) : dv3 (mkI n) (mkI m) = 0 := by
  unfold dv3; rw [iv_mk, iv_mk, if_neg hm, tb_big (tb_div hn) hk]; rfl
theorem dv_0 (n : Int) : dv1 (mkI n) (mkI 0) = mkI 0 ∧ dv2 (mkI n) (mkI 0) = mkI 0 ∧ dv3 (mkI n) (mkI 0) = 6 := by
  unfold dv1 dv2 dv3; rw [iv_mk, if_pos rfl, if_pos rfl, if_pos rfl]; exact ⟨rfl, rfl, rfl⟩
theorem tb_0 {k : Nat} (hk : 1 ≤ k) : tb k 0 := tb_small (by decide) hk
theorem beq0 {x : Int} (h : (ordI x 0 == 0) = true) : x = 0 := ordI_eq.1 (by simpa using h)
theorem bne0 {x : Int} (h : (ordI x 0 == 0) = false) : x ≠ 0 := fun h1 => by rw [ordI_eq.2 h1] at h; cases h
theorem vc3 : ∀ x, C3.pre x → VC TL H0 Tryz.f3 C3 x := by
  rintro ⟨(s : ByteArray), (t : ByteArray), ⟨⟩⟩ ⟨(hs : sz s), (ht : sz t)⟩
  refine cast (α := Pl.sz s ∧ Pl.sz t ∧ Br (!Pl.whB s) (True ∧ (true, ()) = C3.post (s, t, ())) (Br (!Pl.whB t) (True ∧ (true, ()) = C3.post (s, t, ())) ((Pl.okI (Pl.pa1 s) ∧ Pl.okI (Pl.pa1 t)) ∧ Pl.okY (Pl.paR t) ∧ Br (Pl.sgR (Pl.paR t) == (0 : Int)) (Br (Pl.dv3 (Pl.pa1 s) (Pl.pa1 t) == (6 : Int)) (Pl.okI (Pl.dv1 (Pl.pa1 s) (Pl.pa1 t)) ∧ Br (Pl.sgI (Pl.dv1 (Pl.pa1 s) (Pl.pa1 t)) == (0 : Int)) (Pl.okI (Pl.dv2 (Pl.pa1 s) (Pl.pa1 t)) ∧ Br (Pl.sgI (Pl.dv2 (Pl.pa1 s) (Pl.pa1 t)) == (0 : Int)) (True ∧ (true, ()) = C3.post (s, t, ())) ((false, ()) = C3.post (s, t, ()))) ((false, ()) = C3.post (s, t, ()))) ((false, ()) = C3.post (s, t, ()))) ((Pl.okZ (Pl.paR s) ∧ Pl.okZ (Pl.paR t) ∧ (Pl.paR t).snd.1 ≠ []) ∧ Br (Pl.dv3 (Pl.pa1 s) (Pl.pa1 t) == (0 : Int)) ((Pl.okI (Pl.dv1 (Pl.pa1 s) (Pl.pa1 t)) ∧ Pl.okZ (Pl.dqR (Pl.paR s) (Pl.paR t))) ∧ Br (Pl.isB (Pl.dv1 (Pl.pa1 s) (Pl.pa1 t)) (Pl.dqR (Pl.paR s) (Pl.paR t))) ((Pl.okI (Pl.dv2 (Pl.pa1 s) (Pl.pa1 t)) ∧ Pl.okZ (Pl.drR (Pl.paR s) (Pl.paR t))) ∧ Br (Pl.isB (Pl.dv2 (Pl.pa1 s) (Pl.pa1 t)) (Pl.drR (Pl.paR s) (Pl.paR t))) (True ∧ (true, ()) = C3.post (s, t, ())) ((false, ()) = C3.post (s, t, ()))) ((false, ()) = C3.post (s, t, ()))) ((false, ()) = C3.post (s, t, ())))))) (by kernel_rfl) ?_
  refine ⟨hs, ht, Br_of (fun h => ⟨trivial, rfl⟩) (fun h => Br_of (fun k => ⟨trivial, rfl⟩) (fun k => ?_))⟩
  obtain ⟨n, e1, e2, bn⟩ := whole_ok (not_t h)
  obtain ⟨m, f1, f2, bm⟩ := whole_ok (not_t k)
  have i1 := tb_okI bn (by decide)
  have i2 := tb_okI bm (by decide)
  have z1 := tb_okZ bn (by decide)
  have z2 := tb_okZ bm (by decide)
  rw [e1, e2, f1, f2, sgR_mk, dqR_mk, drR_mk]
  refine ⟨⟨i1, i2⟩, okZ_Y z2, Br_of (fun h0 => ?_) (fun h0 => ?_)⟩
  · have := beq0 h0
    subst this
    obtain ⟨d1, d2, d3⟩ := dv_0 n
    rw [d1, d2, d3, sgI_mk]
    exact Br_t rfl ⟨tb_okI (tb_0 (k := 1) (by decide)) (by decide), Br_t rfl ⟨tb_okI (tb_0 (k := 1) (by decide)) (by decide), Br_t rfl ⟨trivial, rfl⟩⟩⟩
  · have hm := bne0 h0
    rw [dv1_mk hm bn (by decide), dv2_mk hm bn (by decide), dv3_mk hm bn (by decide), isB_mk, isB_mk]
    have q1 := tb_div (b := m) bn
    have q2 := tb_mod (a := n) bm hm
    exact ⟨⟨z1, z2, mkR_ne hm⟩, Br_t rfl ⟨⟨tb_okI q1 (by decide), tb_okZ q1 (by decide)⟩, Br_t (decide_eq_true rfl) ⟨⟨tb_okI q2 (by decide), tb_okZ q2 (by decide)⟩, Br_t (decide_eq_true rfl) ⟨trivial, rfl⟩⟩⟩⟩
theorem ordI_swap (x y : Int) : ordI y x = -(ordI x y) := by unfold ordI; split <;> split <;> omega
theorem ordI_rg (x y : Int) : -1 ≤ ordI x y ∧ ordI x y ≤ 1 := by
  unfold ordI
  split
  · omega
  · split <;> omega
theorem tb_gcd {k : Nat} {n m : Int} (hn : tb k n) (hm : tb k m) : tb k ((Nat.gcd n.natAbs m.natAbs : Nat) : Int) := by
  unfold tb at *
  rw [Int.natAbs_natCast]
  rcases Nat.eq_zero_or_pos n.natAbs with h | h
  · rw [h, Nat.gcd_zero_left]; exact hm
  · exact Nat.lt_of_le_of_lt (Nat.gcd_le_left _ h) hn
theorem vc8 : ∀ x, C8.pre x → VC TL H0 Tryz.f8 C8 x := by
  rintro ⟨(s : ByteArray), (t : ByteArray), ⟨⟩⟩ ⟨(hs : sz s), (ht : sz t)⟩
  refine cast (α := Pl.sz s ∧ Pl.sz t ∧ Br (!Pl.whB s) (True ∧ (true, ()) = C8.post (s, t, ())) (Br (!Pl.whB t) (True ∧ (true, ()) = C8.post (s, t, ())) ((Pl.okI (Pl.pa1 s) ∧ Pl.okI (Pl.pa1 t)) ∧ (Pl.okZ (Pl.paR s) ∧ Pl.okZ (Pl.paR t)) ∧ Br (Pl.cpI (Pl.pa1 s) (Pl.pa1 t) == Pl.cpR (Pl.paR s) (Pl.paR t)) ((Pl.okI (Pl.pa1 t) ∧ Pl.okI (Pl.pa1 s)) ∧ (Pl.okZ (Pl.paR s) ∧ Pl.okZ (Pl.paR t)) ∧ Br (Pl.cpI (Pl.pa1 t) (Pl.pa1 s) == IntKind.i64.wrap ((0 : Int) - Pl.cpR (Pl.paR s) (Pl.paR t))) ((Pl.okI (Pl.pa1 s) ∧ Pl.okI (Pl.pa1 t)) ∧ (Pl.okZ (Pl.paR s) ∧ Pl.okZ (Pl.paR t)) ∧ (Pl.okI (Pl.gcI (Pl.pa1 s) (Pl.pa1 t)) ∧ Pl.okZ (Pl.gcR (Pl.paR s) (Pl.paR t))) ∧ Br (Pl.isB (Pl.gcI (Pl.pa1 s) (Pl.pa1 t)) (Pl.gcR (Pl.paR s) (Pl.paR t))) (True ∧ (true, ()) = C8.post (s, t, ())) ((false, ()) = C8.post (s, t, ()))) ((false, ()) = C8.post (s, t, ()))) ((false, ()) = C8.post (s, t, ()))))) (by kernel_rfl) ?_
  refine ⟨hs, ht, Br_of (fun h => ⟨trivial, rfl⟩) (fun h => Br_of (fun k => ⟨trivial, rfl⟩) (fun k => ?_))⟩
  obtain ⟨n, e1, e2, bn⟩ := whole_ok (not_t h)
  obtain ⟨m, f1, f2, bm⟩ := whole_ok (not_t k)
  have i1 := tb_okI bn (by decide)
  have i2 := tb_okI bm (by decide)
  have z1 := tb_okZ bn (by decide)
  have z2 := tb_okZ bm (by decide)
  rw [e1, e2, f1, f2, cpI_mk, cpI_mk, cpR_mk2, gcI_mk, gcR_mk, isB_mk]
  have hw : IntKind.i64.wrap (0 - ordI n m) = ordI m n := by
    have := ordI_rg n m
    rw [wrap_i64 (by omega) (by omega), ordI_swap]; omega
  rw [hw]
  have g := tb_gcd bn bm
  exact ⟨⟨i1, i2⟩, ⟨z1, z2⟩, Br_t (by simp) ⟨⟨i2, i1⟩, ⟨z1, z2⟩, Br_t (by simp) ⟨⟨i1, i2⟩, ⟨z1, z2⟩, ⟨tb_okI g (by decide), tb_okZ g (by decide)⟩, Br_t (decide_eq_true rfl) ⟨trivial, rfl⟩⟩⟩⟩

/-! ### Roots -/
theorem itoa_fl (n : Int) : isFl (Lib.itoa n) = true ∧ parV (Lib.itoa n) = n := by
  unfold Lib.itoa
  split
  · rename_i h
    obtain ⟨h1, h2, h3, h4⟩ := dec_parts n.natAbs
    have hh := h4 (by omega)
    refine ⟨?_, ?_⟩
    · rw [isFl_eq, unsg_neg, h1, decide_eq_true h3, decide_eq_true hh]; rfl
    · unfold parV
      rw [if_pos (by rfl), unsg_neg, h2]; omega
  · rename_i h
    obtain ⟨h1, h2, h3, h4⟩ := dec_parts n.toNat
    have h45 : (Lib.decDigits n.toNat).head? ≠ some 45 := fun h0 => dec_no (n := n.toNat) (b := 45) (by decide) (List.mem_of_head? h0)
    have h48 : (Lib.decDigits n.toNat).head? ≠ some 48 ∨ Lib.decDigits n.toNat = [48] := by
      rcases Nat.eq_zero_or_pos n.toNat with h0 | h0
      · right; rw [h0, dec_lt (by decide)]; rfl
      · exact .inl (h4 h0)
    refine ⟨?_, ?_⟩
    · rw [isFl_eq, unsg_pos h45, h1, decide_eq_true h3]
      rcases h48 with h0 | h0
      · rw [decide_eq_true h0]; rfl
      · rw [decide_eq_true h0, Bool.or_true]; rfl
    · unfold parV
      rw [if_neg h45, unsg_pos h45, h2]; omega
theorem isF_txt (n : Int) : isF (ba (Lib.itoa n)) = true := by unfold isF; rw [bl_ba]; exact (itoa_fl n).1
theorem parS_txt (n : Int) : parS (ba (Lib.itoa n)) = n := by unfold parS; rw [bl_ba]; exact (itoa_fl n).2
theorem paR_txt (n : Int) : paR (ba (Lib.itoa n)) = mkR n := by rw [paR_f (isF_txt n), parS_txt]
theorem dec_len_mono : ∀ (n m : Nat), m ≤ n → (Lib.decDigits m).length ≤ (Lib.decDigits n).length := by
  intro n
  induction n using Nat.strongRecOn with
  | _ n ih =>
    intro m h
    by_cases hm : m < 10
    · rw [dec_lt hm]
      have := List.length_pos_iff.2 (dec_parts n).2.2.1
      simp only [List.length_singleton]; omega
    · rw [dec_ge hm, dec_ge (by omega : ¬ n < 10), List.length_append, List.length_append]
      have := ih (n / 10) (by omega) (m / 10) (by omega)
      simp only [List.length_singleton]; omega
theorem dec_len_tb {k : Nat} {n : Int} (h : tb k n) (hk : 1 ≤ k) : (Lib.itoa n).length ≤ k + 1 := by
  have key : ∀ (k m : Nat), m < 10 ^ (k + 1) → (Lib.decDigits m).length ≤ k + 1 := by
    intro k
    induction k with
    | zero => intro m h; rw [dec_lt (by simpa using h)]; simp
    | succ k ih =>
      intro m h
      by_cases hm : m < 10
      · rw [dec_lt hm]; simp
      · rw [dec_ge hm, List.length_append]
        have := ih (m / 10) (by have : 10 ^ (k + 1 + 1) = 10 ^ (k + 1) * 10 := rfl; omega)
        simp only [List.length_singleton]; omega
  obtain ⟨j, rfl⟩ : ∃ j, k = j + 1 := ⟨k - 1, by omega⟩
  unfold Lib.itoa tb at *
  split
  · have := key j n.natAbs h
    rw [List.length_cons]; omega
  · have := key j n.toNat (by omega)
    omega
theorem lenR_mk (n : Int) : lenR (mkR n).2.1 = (((Lib.decDigits n.natAbs).length : Nat) : Int) := by unfold lenR; rw [nr_mkR]
theorem vc13 : ∀ x, C13.pre x → VC TL H0 Tryz.f13 C13 x := by
  rintro ⟨(s : ByteArray), ⟨⟩⟩ (hs : sz s)
  refine cast (α := Pl.sz s ∧ Br (!Pl.whB s) (True ∧ (true, ()) = C13.post (s, ())) (Pl.okI (Pl.pa1 s) ∧ Pl.okY (Pl.paR s) ∧ Br (decide (Pl.sgR (Pl.paR s) < (0 : Int))) (Br (Pl.ro2 (Pl.pa1 s) == (1 : Int)) (Pl.okI (Pl.roI (Pl.pa1 s)) ∧ Br (Pl.sgI (Pl.roI (Pl.pa1 s)) == (0 : Int)) (True ∧ (true, ()) = C13.post (s, ())) ((false, ()) = C13.post (s, ()))) ((false, ()) = C13.post (s, ()))) (Pl.okI (Pl.roI (Pl.pa1 s)) ∧ (Pl.txtI (Pl.roI (Pl.pa1 s))).size ≤ (140737488355328 : Nat) ∧ Br (!Pl.isF (Pl.txtI (Pl.roI (Pl.pa1 s)))) ((false, ()) = C13.post (s, ())) (Br (Pl.ro2 (Pl.pa1 s) != (0 : Int)) ((false, ()) = C13.post (s, ())) (Pl.okY (Pl.paR (Pl.txtI (Pl.roI (Pl.pa1 s)))) ∧ Br (decide (Pl.sgR (Pl.paR (Pl.txtI (Pl.roI (Pl.pa1 s)))) < (0 : Int))) ((false, ()) = C13.post (s, ())) (Pl.okL (Pl.paR (Pl.txtI (Pl.roI (Pl.pa1 s)))).snd.1 ∧ Pl.okL (Pl.paR s).snd.1 ∧ Br (decide (Pl.lenR (Pl.paR (Pl.txtI (Pl.roI (Pl.pa1 s)))).snd.1 > Pl.lenR (Pl.paR s).snd.1)) ((false, ()) = C13.post (s, ())) (Pl.rg64 (1 : Int) ∧ (Pl.okZ (Pl.paR (Pl.txtI (Pl.roI (Pl.pa1 s)))) ∧ Pl.okZ (Pl.mkR (1 : Int))) ∧ (Pl.okZ (Pl.paR (Pl.txtI (Pl.roI (Pl.pa1 s)))) ∧ Pl.okZ (Pl.paR (Pl.txtI (Pl.roI (Pl.pa1 s))))) ∧ (Pl.okZ (Pl.muR (Pl.paR (Pl.txtI (Pl.roI (Pl.pa1 s)))) (Pl.paR (Pl.txtI (Pl.roI (Pl.pa1 s))))) ∧ Pl.okZ (Pl.paR s)) ∧ Br (decide (Pl.cpR (Pl.muR (Pl.paR (Pl.txtI (Pl.roI (Pl.pa1 s)))) (Pl.paR (Pl.txtI (Pl.roI (Pl.pa1 s))))) (Pl.paR s) ≤ (0 : Int))) ((Pl.okZ (Pl.adR (Pl.paR (Pl.txtI (Pl.roI (Pl.pa1 s)))) (Pl.mkR (1 : Int))) ∧ Pl.okZ (Pl.adR (Pl.paR (Pl.txtI (Pl.roI (Pl.pa1 s)))) (Pl.mkR (1 : Int)))) ∧ (Pl.okZ (Pl.muR (Pl.adR (Pl.paR (Pl.txtI (Pl.roI (Pl.pa1 s)))) (Pl.mkR (1 : Int))) (Pl.adR (Pl.paR (Pl.txtI (Pl.roI (Pl.pa1 s)))) (Pl.mkR (1 : Int)))) ∧ Pl.okZ (Pl.paR s)) ∧ Br (decide (Pl.cpR (Pl.muR (Pl.adR (Pl.paR (Pl.txtI (Pl.roI (Pl.pa1 s)))) (Pl.mkR (1 : Int))) (Pl.adR (Pl.paR (Pl.txtI (Pl.roI (Pl.pa1 s)))) (Pl.mkR (1 : Int)))) (Pl.paR s) > (0 : Int))) (True ∧ (true, ()) = C13.post (s, ())) ((false, ()) = C13.post (s, ()))) ((false, ()) = C13.post (s, ()))))))))) (by kernel_rfl) ?_
  refine ⟨hs, Br_of (fun h => ⟨trivial, rfl⟩) (fun h => ?_)⟩
  obtain ⟨n, e1, e2, bn⟩ := whole_ok (not_t h)
  have i1 := tb_okI bn (by decide)
  have z1 := tb_okZ bn (by decide)
  rw [e1, e2, sgR_mk]
  refine ⟨i1, okZ_Y z1, Br_of (fun h0 => ?_) (fun h0 => ?_)⟩
  · have hn : n < 0 := ordI_lt'.1 (of_decide_eq_true h0)
    have r1 : roI (mkI n) = mkI 0 := by unfold roI; rw [iv_mk, if_pos hn]
    have r2 : ro2 (mkI n) = 1 := by unfold ro2; rw [iv_mk, if_pos hn]
    rw [r1, r2, sgI_mk]
    exact Br_t rfl ⟨tb_okI (tb_0 (k := 1) (by decide)) (by decide), Br_t rfl ⟨trivial, rfl⟩⟩
  · have hn : ¬ n < 0 := fun h1 => of_decide_eq_false h0 (ordI_lt'.2 h1)
    obtain ⟨a, rfl⟩ : ∃ a : Nat, n = (a : Int) := ⟨n.toNat, by omega⟩
    have na : Pl.nt (mkI (a : Int)).1 = a := by rw [← natAbs_iv, iv_mk]; rfl
    have r1 : roI (mkI (a : Int)) = mkI ((sq a : Nat) : Int) := by
      unfold roI; rw [iv_mk, if_neg hn, na]; rfl
    have r2 : ro2 (mkI (a : Int)) = 0 := by unfold ro2; rw [iv_mk, if_neg hn]
    have s1 := sq_le a
    have s2 : a < (sq a + 1) * (sq a + 1) := Nat.lt_of_not_le fun h1 => by have := le_sq h1; omega
    have s3 : sq a ≤ a := Nat.le_trans (Nat.le_mul_self _) s1
    have br : tb 700 ((sq a : Nat) : Int) := by unfold tb at *; omega
    rw [r1, r2, txtI_mk, paR_txt, isF_txt, sgR_mk, lenR_mk, lenR_mk, muR_mk, adR_mk, muR_mk, cpR_mk2, cpR_mk2]
    have zr := tb_okZ br (by decide)
    have b1 : tb 1 (1 : Int) := by decide
    have ba := tb_add br (tb_mono b1 (by decide))
    have hlen := dec_len_tb br (by decide)
    have hmono := dec_len_mono a (sq a) s3
    refine ⟨tb_okI br (by decide), by rw [size_ba]; omega, Br_f rfl (Br_f rfl ⟨okZ_Y zr, Br_f (decide_eq_false fun h1 => ?_) ⟨okZ_L zr, okZ_L z1, Br_f (decide_eq_false ?_) ⟨rg64_1, ⟨zr, okZ_64 rg64_1⟩, ⟨zr, zr⟩, ⟨tb_okZ (tb_mul br br) (by decide), z1⟩,
      Br_t (decide_eq_true ?_) ⟨⟨tb_okZ ba (by decide), tb_okZ ba (by decide)⟩, ⟨tb_okZ (tb_mul ba ba) (by decide), z1⟩, Br_t (decide_eq_true ?_) ⟨trivial, rfl⟩⟩⟩⟩⟩)⟩
    · have := ordI_lt'.1 h1; omega
    · rw [Int.natAbs_natCast, Int.natAbs_natCast]; omega
    · have : ((sq a : Nat) : Int) * ((sq a : Nat) : Int) ≤ (a : Int) := by exact_mod_cast s1
      have : ¬ ordI (((sq a : Nat) : Int) * ((sq a : Nat) : Int)) (a : Int) > 0 := fun h1 => by have := ordI_gt'.1 h1; omega
      omega
    · refine ordI_gt'.2 ?_
      have : (a : Int) < (((sq a + 1) * (sq a + 1) : Nat) : Int) := by exact_mod_cast s2
      rw [Int.natCast_mul] at this
      exact this

end Ta
end
section
/- The laws: texts, powers, rings, counts. -/
set_option linter.unusedVariables false
set_option linter.unusedSimpArgs false
set_option maxRecDepth 100000
set_option exponentiation.threshold 6000000
namespace Ta
open Go Fw Go.Proofs Go.RowKit Pl

theorem itoa0 : Lib.itoa 0 = [48] := by rw [show Lib.itoa 0 = Lib.decDigits 0 from rfl, dec_lt (by decide)]; rfl
theorem zero_txt : ((txtI (mkI 0)).toList == (ByteArray.mk #[(48 : UInt8)]).toList) = true := by
  rw [txtI_mk, itoa0]
  show ((ba [48]).toList == (ba [48]).toList) = true
  rw [ba_eq]; exact decide_eq_true rfl
theorem okI_0 : okI (mkI 0) := tb_okI (tb_0 (k := 1) (by decide)) (by decide)
theorem isF_0 {s : ByteArray} (h : isF s = false) : pa1 s = mkI 0 ∧ pa2 s = 10 := by
  unfold pa1 pa2
  rw [h]
  exact ⟨if_neg (fun h => by cases h.1), if_neg (by decide)⟩
theorem pow_13 : 10 ^ 12000 ≤ 2 ^ 40000 := by
  have h1 : 10 ^ 12000 = (10 ^ 3) ^ 4000 := by rw [← Nat.pow_mul]
  have h2 : 2 ^ 40000 = (2 ^ 10) ^ 4000 := by rw [← Nat.pow_mul]
  rw [h1, h2]
  exact Nat.pow_le_pow_left (by decide) 4000
theorem tail7 {s D : ByteArray} (hD : D.size ≤ 13000) :
    D.size ≤ (140737488355328 : Nat) ∧
    D.size ≤ (9000000000000000000 : Nat) ∧
      Br (!Pl.isF D)
        (Br (Pl.pa2 D == (10 : Int))
          (Pl.okI (Pl.pa1 D) ∧
            Br ((Pl.txtI (Pl.pa1 D)).toList == (ByteArray.mk #[(48 : UInt8)]).toList) (True ∧ (true, ()) = C7.post (s, ()))
              ((false, ()) = C7.post (s, ())))
          ((false, ()) = C7.post (s, ())))
        (Br (decide ((D.size : Int) > (12000 : Int)))
          (Pl.okZ (Pl.paR D) ∧
            Br (!Pl.smR (Pl.paR D))
              (Br (Pl.pa2 D == (11 : Int))
                (Pl.okI (Pl.pa1 D) ∧
                  Br ((Pl.txtI (Pl.pa1 D)).toList == (ByteArray.mk #[(48 : UInt8)]).toList) (True ∧ (true, ()) = C7.post (s, ()))
                    ((false, ()) = C7.post (s, ())))
                ((false, ()) = C7.post (s, ())))
              (Pl.okI (Pl.pa1 D) ∧
                Pl.okZ (Pl.paR D) ∧
                  Br (Pl.pa2 D == (0 : Int))
                    (Pl.okI (Pl.pa1 D) ∧
                      Br ((Pl.txtI (Pl.pa1 D)).toList == D.toList)
                        (Br (Pl.i64v (Pl.pa1 D) == Pl.i6v (Pl.paR D))
                          (Br (Pl.i64b (Pl.pa1 D) == Pl.i6b (Pl.paR D))
                            (Pl.okI (Pl.pa1 D) ∧
                              Pl.okY (Pl.paR D) ∧
                                Br (Pl.sgI (Pl.pa1 D) == Pl.sgR (Pl.paR D))
                                  (Pl.okI (Pl.pa1 D) ∧
                                    Pl.okZ (Pl.paR D) ∧
                                      (Pl.okI (Pl.ngI (Pl.pa1 D)) ∧ Pl.okZ (Pl.ngR (Pl.paR D))) ∧
                                        Br (Pl.isB (Pl.ngI (Pl.pa1 D)) (Pl.ngR (Pl.paR D)))
                                          (True ∧ (true, ()) = C7.post (s, ())) ((false, ()) = C7.post (s, ())))
                                  ((false, ()) = C7.post (s, ())))
                            ((false, ()) = C7.post (s, ())))
                          ((false, ()) = C7.post (s, ())))
                        ((false, ()) = C7.post (s, ())))
                    ((false, ()) = C7.post (s, ()))))
          (Pl.okI (Pl.pa1 D) ∧
            Pl.okZ (Pl.paR D) ∧
              Br (Pl.pa2 D == (0 : Int))
                (Pl.okI (Pl.pa1 D) ∧
                  Br ((Pl.txtI (Pl.pa1 D)).toList == D.toList)
                    (Br (Pl.i64v (Pl.pa1 D) == Pl.i6v (Pl.paR D))
                      (Br (Pl.i64b (Pl.pa1 D) == Pl.i6b (Pl.paR D))
                        (Pl.okI (Pl.pa1 D) ∧
                          Pl.okY (Pl.paR D) ∧
                            Br (Pl.sgI (Pl.pa1 D) == Pl.sgR (Pl.paR D))
                              (Pl.okI (Pl.pa1 D) ∧
                                Pl.okZ (Pl.paR D) ∧
                                  (Pl.okI (Pl.ngI (Pl.pa1 D)) ∧ Pl.okZ (Pl.ngR (Pl.paR D))) ∧
                                    Br (Pl.isB (Pl.ngI (Pl.pa1 D)) (Pl.ngR (Pl.paR D)))
                                      (True ∧ (true, ()) = C7.post (s, ())) ((false, ()) = C7.post (s, ())))
                              ((false, ()) = C7.post (s, ())))
                        ((false, ()) = C7.post (s, ())))
                      ((false, ()) = C7.post (s, ())))
                    ((false, ()) = C7.post (s, ())))
                ((false, ()) = C7.post (s, ())))) := by
  refine ⟨by omega, by omega, Br_of (fun h => ?_) (fun h => ?_)⟩
  · have hF : isF D = false := by simpa using h
    obtain ⟨p1, p2⟩ := isF_0 hF
    rw [p1, p2]
    exact Br_t rfl ⟨okI_0, Br_t zero_txt ⟨trivial, rfl⟩⟩
  · have hF : isF D = true := not_t h
    have ht := tb_mono (parS_tb hF) hD
    have hR := paR_f hF
    have cn : Lib.itoa (parS D) = bl D := canon hF
    obtain ⟨n, hn⟩ : ∃ n, n = parS D := ⟨_, rfl⟩
    have p1 : pa1 D = att1 n := by unfold pa1; rw [if_pos ⟨hF, by omega⟩, hn]
    have p2 : pa2 D = att2 n := by unfold pa2; rw [if_pos hF, if_pos (by omega), hn]
    rw [← hn] at ht hR cn
    have zn := tb_okZ ht (by decide)
    have ok : bigI n = false → pa1 D = mkI n ∧ pa2 D = 0 := fun hb => by
      rw [p1, p2]; unfold att1 att2; rw [hb]; exact ⟨rfl, rfl⟩
    have tx : ((txtI (mkI n)).toList == D.toList) = true := by
      rw [txtI_mk, ba_toList, bl_ba, cn]; exact decide_eq_true rfl
    have i6 : (i64v (mkI n) == i6v (mkR n)) = true := by unfold i64v i6v; rw [iv_mk, zv_mk]; simp
    have i6' : (i64b (mkI n) == i6b (mkR n)) = true := by unfold i64b i6b; rw [iv_mk, zv_mk]; simp
    have sg : (sgI (mkI n) == sgR (mkR n)) = true := by rw [sgI_mk, sgR_mk]; simp
    have ng1 : ngI (mkI n) = mkI (-n) := by unfold ngI; rw [iv_mk]
    have ng2 : ngR (mkR n) = mkR (-n) := by unfold ngR; rw [zv_mk]
    have tn := tb_neg ht
    have fin : bigI n = false → okI (pa1 D) ∧ okZ (paR D) ∧ Br (pa2 D == (0 : Int)) (okI (pa1 D) ∧ Br ((txtI (pa1 D)).toList == D.toList) (Br (i64v (pa1 D) == i6v (paR D)) (Br (i64b (pa1 D) == i6b (paR D)) (okI (pa1 D) ∧ okY (paR D) ∧ Br (sgI (pa1 D) == sgR (paR D))
        (okI (pa1 D) ∧ okZ (paR D) ∧ (okI (ngI (pa1 D)) ∧ okZ (ngR (paR D))) ∧ Br (isB (ngI (pa1 D)) (ngR (paR D))) (True ∧ (true, ()) = C7.post (s, ())) ((false, ()) = C7.post (s, ()))) ((false, ()) = C7.post (s, ()))) ((false, ()) = C7.post (s, ()))) ((false, ()) = C7.post (s, ()))) ((false, ()) = C7.post (s, ()))) ((false, ()) = C7.post (s, ())) := fun hb => by
      obtain ⟨q1, q2⟩ := ok hb
      rw [q1, q2, hR, ng1, ng2, isB_mk]
      have oi := tb_okI ht (by decide)
      exact ⟨oi, zn, Br_t rfl ⟨oi, Br_t tx (Br_t i6 (Br_t i6' ⟨oi, okZ_Y zn, Br_t sg ⟨oi, zn, ⟨tb_okI tn (by decide), tb_okZ tn (by decide)⟩, Br_t (decide_eq_true rfl) ⟨trivial, rfl⟩⟩⟩))⟩⟩
    refine Br_of (fun h1 => ⟨by rw [hR]; exact zn, Br_of (fun h2 => ?_) (fun h2 => ?_)⟩) (fun h1 => fin ?_)
    · have hb : bigI n = true := big_ge (by
        have h3 : smR (mkR n) = false := by rw [← hR]; simpa using h2
        unfold smR at h3
        rw [zv_mk] at h3
        exact Nat.le_of_not_lt (of_decide_eq_false h3))
      have q1 : pa1 D = mkI 0 := by rw [p1]; unfold att1; rw [hb]; rfl
      have q2 : pa2 D = 11 := by rw [p2]; unfold att2; rw [hb]; rfl
      rw [q1, q2]
      exact Br_t rfl ⟨okI_0, Br_t zero_txt ⟨trivial, rfl⟩⟩
    · refine fin (big_lt ?_)
      have h3 : smR (mkR n) = true := by rw [← hR]; exact not_t h2
      unfold smR at h3
      rw [zv_mk] at h3
      exact of_decide_eq_true h3
    · have h3 : D.size ≤ 12000 := by have := of_decide_eq_false h1; omega
      have h4 := tb_mono (parS_tb hF) h3
      rw [← hn] at h4
      exact big_lt (Nat.lt_of_lt_of_le h4 pow_13)
theorem vc7 : ∀ x, C7.pre x → VC TL H0 Tryz.f7 C7 x := by
  rintro ⟨(s : ByteArray), ⟨⟩⟩ (hs : sz s)
  refine cast (α := let v1 := (ByteArray.mk #[(48 : UInt8)]).toList; let v2 := s.extract (Int.toNat (0 : Int)) (Int.toNat (13000 : Int)); Br (decide ((↑s.size : Int) > (13000 : Int))) ((0 : Int) ≤ (13000 : Int) ∧ (13000 : Int) ≤ (↑s.size : Int) ∧ v2.size ≤ (140737488355328 : Nat) ∧ v2.size ≤ (9000000000000000000 : Nat) ∧ Br (!Pl.isF v2) (Br (Pl.pa2 v2 == (10 : Int)) (Pl.okI (Pl.pa1 v2) ∧ Br ((Pl.txtI (Pl.pa1 v2)).toList == v1) (True ∧ (true, ()) = C7.post (s, ())) ((false, ()) = C7.post (s, ()))) ((false, ()) = C7.post (s, ()))) (Br (decide ((↑v2.size : Int) > (12000 : Int))) (Pl.okZ (Pl.paR v2) ∧ Br (!Pl.smR (Pl.paR v2)) (Br (Pl.pa2 v2 == (11 : Int)) (Pl.okI (Pl.pa1 v2) ∧ Br ((Pl.txtI (Pl.pa1 v2)).toList == v1) (True ∧ (true, ()) = C7.post (s, ())) ((false, ()) = C7.post (s, ()))) ((false, ()) = C7.post (s, ()))) (Pl.okI (Pl.pa1 v2) ∧ Pl.okZ (Pl.paR v2) ∧ Br (Pl.pa2 v2 == (0 : Int)) (Pl.okI (Pl.pa1 v2) ∧ Br ((Pl.txtI (Pl.pa1 v2)).toList == v2.toList) (Br (Pl.i64v (Pl.pa1 v2) == Pl.i6v (Pl.paR v2)) (Br (Pl.i64b (Pl.pa1 v2) == Pl.i6b (Pl.paR v2)) (Pl.okI (Pl.pa1 v2) ∧ Pl.okY (Pl.paR v2) ∧ Br (Pl.sgI (Pl.pa1 v2) == Pl.sgR (Pl.paR v2)) (Pl.okI (Pl.pa1 v2) ∧ Pl.okZ (Pl.paR v2) ∧ (Pl.okI (Pl.ngI (Pl.pa1 v2)) ∧ Pl.okZ (Pl.ngR (Pl.paR v2))) ∧ Br (Pl.isB (Pl.ngI (Pl.pa1 v2)) (Pl.ngR (Pl.paR v2))) (True ∧ (true, ()) = C7.post (s, ())) ((false, ()) = C7.post (s, ()))) ((false, ()) = C7.post (s, ()))) ((false, ()) = C7.post (s, ()))) ((false, ()) = C7.post (s, ()))) ((false, ()) = C7.post (s, ()))) ((false, ()) = C7.post (s, ())))) (Pl.okI (Pl.pa1 v2) ∧ Pl.okZ (Pl.paR v2) ∧ Br (Pl.pa2 v2 == (0 : Int)) (Pl.okI (Pl.pa1 v2) ∧ Br ((Pl.txtI (Pl.pa1 v2)).toList == v2.toList) (Br (Pl.i64v (Pl.pa1 v2) == Pl.i6v (Pl.paR v2)) (Br (Pl.i64b (Pl.pa1 v2) == Pl.i6b (Pl.paR v2)) (Pl.okI (Pl.pa1 v2) ∧ Pl.okY (Pl.paR v2) ∧ Br (Pl.sgI (Pl.pa1 v2) == Pl.sgR (Pl.paR v2)) (Pl.okI (Pl.pa1 v2) ∧ Pl.okZ (Pl.paR v2) ∧ (Pl.okI (Pl.ngI (Pl.pa1 v2)) ∧ Pl.okZ (Pl.ngR (Pl.paR v2))) ∧ Br (Pl.isB (Pl.ngI (Pl.pa1 v2)) (Pl.ngR (Pl.paR v2))) (True ∧ (true, ()) = C7.post (s, ())) ((false, ()) = C7.post (s, ()))) ((false, ()) = C7.post (s, ()))) ((false, ()) = C7.post (s, ()))) ((false, ()) = C7.post (s, ()))) ((false, ()) = C7.post (s, ()))) ((false, ()) = C7.post (s, ()))))) (s.size ≤ (140737488355328 : Nat) ∧ s.size ≤ (9000000000000000000 : Nat) ∧ Br (!Pl.isF s) (Br (Pl.pa2 s == (10 : Int)) (Pl.okI (Pl.pa1 s) ∧ Br ((Pl.txtI (Pl.pa1 s)).toList == v1) (True ∧ (true, ()) = C7.post (s, ())) ((false, ()) = C7.post (s, ()))) ((false, ()) = C7.post (s, ()))) (Br (decide ((↑s.size : Int) > (12000 : Int))) (Pl.okZ (Pl.paR s) ∧ Br (!Pl.smR (Pl.paR s)) (Br (Pl.pa2 s == (11 : Int)) (Pl.okI (Pl.pa1 s) ∧ Br ((Pl.txtI (Pl.pa1 s)).toList == v1) (True ∧ (true, ()) = C7.post (s, ())) ((false, ()) = C7.post (s, ()))) ((false, ()) = C7.post (s, ()))) (Pl.okI (Pl.pa1 s) ∧ Pl.okZ (Pl.paR s) ∧ Br (Pl.pa2 s == (0 : Int)) (Pl.okI (Pl.pa1 s) ∧ Br ((Pl.txtI (Pl.pa1 s)).toList == s.toList) (Br (Pl.i64v (Pl.pa1 s) == Pl.i6v (Pl.paR s)) (Br (Pl.i64b (Pl.pa1 s) == Pl.i6b (Pl.paR s)) (Pl.okI (Pl.pa1 s) ∧ Pl.okY (Pl.paR s) ∧ Br (Pl.sgI (Pl.pa1 s) == Pl.sgR (Pl.paR s)) (Pl.okI (Pl.pa1 s) ∧ Pl.okZ (Pl.paR s) ∧ (Pl.okI (Pl.ngI (Pl.pa1 s)) ∧ Pl.okZ (Pl.ngR (Pl.paR s))) ∧ Br (Pl.isB (Pl.ngI (Pl.pa1 s)) (Pl.ngR (Pl.paR s))) (True ∧ (true, ()) = C7.post (s, ())) ((false, ()) = C7.post (s, ()))) ((false, ()) = C7.post (s, ()))) ((false, ()) = C7.post (s, ()))) ((false, ()) = C7.post (s, ()))) ((false, ()) = C7.post (s, ()))) ((false, ()) = C7.post (s, ())))) (Pl.okI (Pl.pa1 s) ∧ Pl.okZ (Pl.paR s) ∧ Br (Pl.pa2 s == (0 : Int)) (Pl.okI (Pl.pa1 s) ∧ Br ((Pl.txtI (Pl.pa1 s)).toList == s.toList) (Br (Pl.i64v (Pl.pa1 s) == Pl.i6v (Pl.paR s)) (Br (Pl.i64b (Pl.pa1 s) == Pl.i6b (Pl.paR s)) (Pl.okI (Pl.pa1 s) ∧ Pl.okY (Pl.paR s) ∧ Br (Pl.sgI (Pl.pa1 s) == Pl.sgR (Pl.paR s)) (Pl.okI (Pl.pa1 s) ∧ Pl.okZ (Pl.paR s) ∧ (Pl.okI (Pl.ngI (Pl.pa1 s)) ∧ Pl.okZ (Pl.ngR (Pl.paR s))) ∧ Br (Pl.isB (Pl.ngI (Pl.pa1 s)) (Pl.ngR (Pl.paR s))) (True ∧ (true, ()) = C7.post (s, ())) ((false, ()) = C7.post (s, ()))) ((false, ()) = C7.post (s, ()))) ((false, ()) = C7.post (s, ()))) ((false, ()) = C7.post (s, ()))) ((false, ()) = C7.post (s, ()))) ((false, ()) = C7.post (s, ())))))) (by kernel_rfl) ?_
  intro v1 v2
  have hv : bl v2 = (bl s).take 13000 := ext0
  have hl : v2.size ≤ 13000 := by rw [size_bl, hv, List.length_take]; omega
  exact Br_of (fun h => ⟨by decide, by have := of_decide_eq_true h; omega, tail7 hl⟩) (fun h => tail7 (by have := of_decide_eq_false h; omega))

/-! ### The laws of a ring -/
theorem vc9 : ∀ x, C9.pre x → VC TL H0 Tryz.f9 C9 x := by
  rintro ⟨(s : ByteArray), (t : ByteArray), (u : ByteArray), ⟨⟩⟩ ⟨(hs : sz s), (ht : sz t), (hu : sz u)⟩
  refine cast (α := Pl.sz s ∧ Pl.sz t ∧ Pl.sz u ∧ Br (!Pl.whB s) (True ∧ (true, ()) = C9.post (s, t, u, ())) (Br (!Pl.whB t) (True ∧ (true, ()) = C9.post (s, t, u, ())) (Br (!Pl.whB u) (True ∧ (true, ()) = C9.post (s, t, u, ())) (Br (decide (IntKind.i64.wrap (IntKind.i64.wrap ((↑s.size : Int) + (↑t.size : Int)) + (↑u.size : Int)) > (900 : Int))) (True ∧ (true, ()) = C9.post (s, t, u, ())) ((Pl.okI (Pl.pa1 s) ∧ Pl.okI (Pl.pa1 t)) ∧ (Pl.okI (Pl.pa1 t) ∧ Pl.okI (Pl.pa1 s)) ∧ (Pl.okI (Pl.ad1 (Pl.pa1 s) (Pl.pa1 t)) ∧ Pl.okI (Pl.pa1 u)) ∧ (Pl.okI (Pl.pa1 t) ∧ Pl.okI (Pl.pa1 u)) ∧ (Pl.okI (Pl.pa1 s) ∧ Pl.okI (Pl.ad1 (Pl.pa1 t) (Pl.pa1 u))) ∧ (Pl.okI (Pl.pa1 s) ∧ Pl.okI (Pl.ad1 (Pl.pa1 t) (Pl.pa1 u))) ∧ (Pl.okI (Pl.pa1 s) ∧ Pl.okI (Pl.pa1 t)) ∧ (Pl.okI (Pl.pa1 s) ∧ Pl.okI (Pl.pa1 u)) ∧ (Pl.okI (Pl.mu1 (Pl.pa1 s) (Pl.pa1 t)) ∧ Pl.okI (Pl.mu1 (Pl.pa1 s) (Pl.pa1 u))) ∧ (Pl.okI (Pl.mu1 (Pl.pa1 s) (Pl.pa1 t)) ∧ Pl.okI (Pl.pa1 u)) ∧ (Pl.okI (Pl.pa1 t) ∧ Pl.okI (Pl.mu1 (Pl.pa1 s) (Pl.pa1 u))) ∧ Br (Pl.ad2 (Pl.pa1 s) (Pl.pa1 t) != (0 : Int)) ((false, ()) = C9.post (s, t, u, ())) (Br (Pl.ad2 (Pl.pa1 t) (Pl.pa1 s) != (0 : Int)) ((false, ()) = C9.post (s, t, u, ())) (Br (Pl.ad2 (Pl.ad1 (Pl.pa1 s) (Pl.pa1 t)) (Pl.pa1 u) != (0 : Int)) ((false, ()) = C9.post (s, t, u, ())) (Br (Pl.ad2 (Pl.pa1 t) (Pl.pa1 u) != (0 : Int)) ((false, ()) = C9.post (s, t, u, ())) (Br (Pl.ad2 (Pl.pa1 s) (Pl.ad1 (Pl.pa1 t) (Pl.pa1 u)) != (0 : Int)) ((false, ()) = C9.post (s, t, u, ())) (Br (Pl.mu2 (Pl.pa1 s) (Pl.ad1 (Pl.pa1 t) (Pl.pa1 u)) != (0 : Int)) ((false, ()) = C9.post (s, t, u, ())) (Br (Pl.mu2 (Pl.pa1 s) (Pl.pa1 t) != (0 : Int)) ((false, ()) = C9.post (s, t, u, ())) (Br (Pl.mu2 (Pl.pa1 s) (Pl.pa1 u) != (0 : Int)) ((false, ()) = C9.post (s, t, u, ())) (Br (Pl.ad2 (Pl.mu1 (Pl.pa1 s) (Pl.pa1 t)) (Pl.mu1 (Pl.pa1 s) (Pl.pa1 u)) != (0 : Int)) ((false, ()) = C9.post (s, t, u, ())) (Br (Pl.mu2 (Pl.mu1 (Pl.pa1 s) (Pl.pa1 t)) (Pl.pa1 u) != (0 : Int)) ((false, ()) = C9.post (s, t, u, ())) (Br (Pl.mu2 (Pl.pa1 t) (Pl.mu1 (Pl.pa1 s) (Pl.pa1 u)) != (0 : Int)) ((false, ()) = C9.post (s, t, u, ())) ((Pl.okI (Pl.ad1 (Pl.pa1 s) (Pl.pa1 t)) ∧ Pl.okI (Pl.ad1 (Pl.pa1 t) (Pl.pa1 s))) ∧ Br (Pl.cpI (Pl.ad1 (Pl.pa1 s) (Pl.pa1 t)) (Pl.ad1 (Pl.pa1 t) (Pl.pa1 s)) != (0 : Int)) ((false, ()) = C9.post (s, t, u, ())) ((Pl.okI (Pl.ad1 (Pl.ad1 (Pl.pa1 s) (Pl.pa1 t)) (Pl.pa1 u)) ∧ Pl.okI (Pl.ad1 (Pl.pa1 s) (Pl.ad1 (Pl.pa1 t) (Pl.pa1 u)))) ∧ Br (Pl.cpI (Pl.ad1 (Pl.ad1 (Pl.pa1 s) (Pl.pa1 t)) (Pl.pa1 u)) (Pl.ad1 (Pl.pa1 s) (Pl.ad1 (Pl.pa1 t) (Pl.pa1 u))) != (0 : Int)) ((false, ()) = C9.post (s, t, u, ())) ((Pl.okI (Pl.mu1 (Pl.pa1 s) (Pl.ad1 (Pl.pa1 t) (Pl.pa1 u))) ∧ Pl.okI (Pl.ad1 (Pl.mu1 (Pl.pa1 s) (Pl.pa1 t)) (Pl.mu1 (Pl.pa1 s) (Pl.pa1 u)))) ∧ Br (Pl.cpI (Pl.mu1 (Pl.pa1 s) (Pl.ad1 (Pl.pa1 t) (Pl.pa1 u))) (Pl.ad1 (Pl.mu1 (Pl.pa1 s) (Pl.pa1 t)) (Pl.mu1 (Pl.pa1 s) (Pl.pa1 u))) != (0 : Int)) ((false, ()) = C9.post (s, t, u, ())) ((Pl.okI (Pl.mu1 (Pl.mu1 (Pl.pa1 s) (Pl.pa1 t)) (Pl.pa1 u)) ∧ Pl.okI (Pl.mu1 (Pl.pa1 t) (Pl.mu1 (Pl.pa1 s) (Pl.pa1 u)))) ∧ Br (Pl.cpI (Pl.mu1 (Pl.mu1 (Pl.pa1 s) (Pl.pa1 t)) (Pl.pa1 u)) (Pl.mu1 (Pl.pa1 t) (Pl.mu1 (Pl.pa1 s) (Pl.pa1 u))) != (0 : Int)) ((false, ()) = C9.post (s, t, u, ())) ((Pl.okI (Pl.ad1 (Pl.pa1 s) (Pl.pa1 t)) ∧ Pl.okI (Pl.pa1 t)) ∧ Br (Pl.su2 (Pl.ad1 (Pl.pa1 s) (Pl.pa1 t)) (Pl.pa1 t) == (0 : Int)) ((Pl.okI (Pl.su1 (Pl.ad1 (Pl.pa1 s) (Pl.pa1 t)) (Pl.pa1 t)) ∧ Pl.okI (Pl.pa1 s)) ∧ Br (Pl.cpI (Pl.su1 (Pl.ad1 (Pl.pa1 s) (Pl.pa1 t)) (Pl.pa1 t)) (Pl.pa1 s) == (0 : Int)) ((Pl.okI (Pl.ad1 (Pl.pa1 s) (Pl.pa1 t)) ∧ Pl.okI (Pl.pa1 s)) ∧ Pl.okI (Pl.pa1 t) ∧ Br (Pl.cpI (Pl.ad1 (Pl.pa1 s) (Pl.pa1 t)) (Pl.pa1 s) == Pl.sgI (Pl.pa1 t)) ((Pl.okI (Pl.pa1 s) ∧ Pl.okI (Pl.pa1 t)) ∧ Br (decide (Pl.cpI (Pl.pa1 s) (Pl.pa1 t) ≥ (0 : Int))) (True ∧ (true, ()) = C9.post (s, t, u, ())) ((Pl.okI (Pl.pa1 t) ∧ Pl.okI (Pl.pa1 u)) ∧ Br (decide (Pl.cpI (Pl.pa1 t) (Pl.pa1 u) ≥ (0 : Int))) (True ∧ (true, ()) = C9.post (s, t, u, ())) ((Pl.okI (Pl.pa1 s) ∧ Pl.okI (Pl.pa1 u)) ∧ Br (decide (Pl.cpI (Pl.pa1 s) (Pl.pa1 u) < (0 : Int))) (True ∧ (true, ()) = C9.post (s, t, u, ())) ((false, ()) = C9.post (s, t, u, ()))))) ((false, ()) = C9.post (s, t, u, ()))) ((false, ()) = C9.post (s, t, u, ()))) ((false, ()) = C9.post (s, t, u, ())))))))))))))))))))))) (by kernel_rfl) ?_
  refine ⟨hs, ht, hu, Br_of (fun h => ⟨trivial, rfl⟩) (fun h => Br_of (fun k => ⟨trivial, rfl⟩) (fun k => Br_of (fun l => ⟨trivial, rfl⟩) (fun l => Br_of (fun _ => ⟨trivial, rfl⟩) (fun _ => ?_))))⟩
  obtain ⟨a, e1, _, ba⟩ := whole_ok (not_t h)
  obtain ⟨b, f1, _, bb⟩ := whole_ok (not_t k)
  obtain ⟨c, g1, _, bc⟩ := whole_ok (not_t l)
  have B : ∀ {m : Nat} {x : Int}, tb m x → m ≤ 10000 → att1 x = mkI x ∧ att2 x = 0 ∧ okI (mkI x) := fun h hm => ⟨att1_tb h hm, att2_tb h hm, tb_okI h (by omega)⟩
  obtain ⟨-, -, ia⟩ := B ba (by decide)
  obtain ⟨-, -, ib⟩ := B bb (by decide)
  obtain ⟨-, -, ic⟩ := B bc (by decide)
  have t1 := tb_add ba bb
  have t2 := tb_add bb ba
  have t3 := tb_add bb bc
  have t4 := tb_add t1 (tb_mono bc (by decide : 700 ≤ 701))
  have t5 := tb_add (tb_mono ba (by decide : 700 ≤ 701)) t3
  have t6 := tb_mul ba t3
  have t7 := tb_mul ba bb
  have t8 := tb_mul ba bc
  have t9 := tb_add t7 t8
  have t10 := tb_mul t7 bc
  have t11 := tb_mul bb t8
  have t12 := tb_sub t1 (tb_mono bb (by decide : 700 ≤ 701))
  obtain ⟨x1, y1, i1⟩ := B t1 (by decide)
  obtain ⟨x2, y2, i2⟩ := B t2 (by decide)
  obtain ⟨x3, y3, i3⟩ := B t3 (by decide)
  obtain ⟨x4, y4, i4⟩ := B t4 (by decide)
  obtain ⟨x5, y5, i5⟩ := B t5 (by decide)
  obtain ⟨x6, y6, i6⟩ := B t6 (by decide)
  obtain ⟨x7, y7, i7⟩ := B t7 (by decide)
  obtain ⟨x8, y8, i8⟩ := B t8 (by decide)
  obtain ⟨x9, y9, i9⟩ := B t9 (by decide)
  obtain ⟨x10, y10, i10⟩ := B t10 (by decide)
  obtain ⟨x11, y11, i11⟩ := B t11 (by decide)
  obtain ⟨x12, y12, i12⟩ := B t12 (by decide)
  rw [e1, f1, g1]
  simp only [ad1_mk, ad2_mk, su1_mk, su2_mk, mu1_mk, mu2_mk, x1, x2, x3, x4, x5, x6, x7, x8, x9, x10, x11, x12, y1, y2, y3, y4, y5, y6, y7, y8, y9, y10, y11, y12, cpI_mk, sgI_mk]
  have c1 : ordI (a + b) (b + a) = 0 := ordI_eq.2 (Int.add_comm ..)
  have c2 : ordI (a + b + c) (a + (b + c)) = 0 := ordI_eq.2 (Int.add_assoc ..)
  have c3 : ordI (a * (b + c)) (a * b + a * c) = 0 := ordI_eq.2 (Int.mul_add ..)
  have c4 : ordI (a * b * c) (b * (a * c)) = 0 := ordI_eq.2 (by rw [Int.mul_comm a b, Int.mul_assoc])
  have c5 : ordI (a + b - b) a = 0 := ordI_eq.2 (by omega)
  have c6 : (ordI (a + b) a == ordI b 0) = true := by
    have : ordI (a + b) a = ordI b 0 := by unfold ordI; split <;> split <;> (try split) <;> (try split) <;> omega
    rw [this]; simp
  rw [c1, c2, c3, c4, c5]
  refine ⟨⟨ia, ib⟩, ⟨ib, ia⟩, ⟨i1, ic⟩, ⟨ib, ic⟩, ⟨ia, i3⟩, ⟨ia, i3⟩, ⟨ia, ib⟩, ⟨ia, ic⟩, ⟨i7, i8⟩, ⟨i7, ic⟩, ⟨ib, i8⟩, ?_⟩
  refine Br_f rfl (Br_f rfl (Br_f rfl (Br_f rfl (Br_f rfl (Br_f rfl (Br_f rfl (Br_f rfl (Br_f rfl (Br_f rfl (Br_f rfl ?_))))))))))
  refine ⟨⟨i1, i2⟩, Br_f rfl ⟨⟨i4, i5⟩, Br_f rfl ⟨⟨i6, i9⟩, Br_f rfl ⟨⟨i10, i11⟩, Br_f rfl ⟨⟨i1, ib⟩, Br_t rfl ⟨⟨i12, ia⟩, Br_t rfl ⟨⟨i1, ia⟩, ib, Br_t c6 ⟨⟨ia, ib⟩, Br_of (fun _ => ⟨trivial, rfl⟩) (fun h1 => ⟨⟨ib, ic⟩, Br_of (fun _ => ⟨trivial, rfl⟩) (fun h2 => ⟨⟨ia, ic⟩, Br_t (decide_eq_true ?_) ⟨trivial, rfl⟩⟩)⟩)⟩⟩⟩⟩⟩⟩⟩⟩
  have o1 : ordI a b < 0 := by have := of_decide_eq_false h1; omega
  have o2 : ordI b c < 0 := by have := of_decide_eq_false h2; omega
  have := ordI_lt'.1 o1
  have := ordI_lt'.1 o2
  exact ordI_lt'.2 (by omega)

end Ta
end
section
/- The laws: powers, counts, Pascal. -/
set_option linter.unusedVariables false
set_option linter.unusedSimpArgs false
set_option maxRecDepth 100000
set_option exponentiation.threshold 6000000
namespace Ta
open Go Fw Go.Proofs Go.RowKit Pl

/-! ### Powers -/
theorem dec_hi (m : Nat) : m < 10 ^ (Lib.decDigits m).length := by
  have := decV_lt (dec_parts m).1
  rwa [(dec_parts m).2.1] at this
theorem dec_lo : ∀ m, 0 < m → 10 ^ ((Lib.decDigits m).length - 1) ≤ m := by
  intro m
  induction m using Nat.strongRecOn with
  | _ m ih =>
    intro h0
    by_cases hm : m < 10
    · rw [dec_lt hm]; simp; omega
    · have := ih (m / 10) (by omega) (by omega)
      have hl := List.length_pos_iff.2 (dec_parts (m / 10)).2.2.1
      rw [dec_ge hm, List.length_append, List.length_singleton]
      generalize (Lib.decDigits (m / 10)).length = L at this hl ⊢
      obtain ⟨j, rfl⟩ : ∃ j, L = j + 1 := ⟨L - 1, by omega⟩
      have e : 10 ^ (j + 1 + 1 - 1) = 10 ^ j * 10 := rfl
      rw [e]
      have : 10 ^ j ≤ m / 10 := this
      omega
theorem pow_33 (q : Nat) (h : 40000 < 33 * q) : 2 ^ 40000 ≤ 10 ^ (10 * q) := by
  have h1 : 2 ^ 40000 ≤ 2 ^ (33 * q) := Nat.pow_le_pow_right (by decide) (by omega)
  refine Nat.le_trans h1 ?_
  rw [Nat.pow_mul, Nat.pow_mul]
  exact Nat.pow_le_pow_left (by decide) q
theorem vc10 : ∀ x, C10.pre x → VC TL H0 Tryz.f10 C10 x := by
  rintro ⟨(s : ByteArray), (n : Int), ⟨⟩⟩ ⟨(hs : sz s), (hn : rg64 n)⟩
  refine cast (α := let v1 := Pl.sgI (Pl.pw1 (Pl.pa1 s) n) == (0 : Int); Pl.sz s ∧ Br (!Pl.whB s) (True ∧ (true, ()) = C10.post (s, n, ())) ((Pl.okI (Pl.pa1 s) ∧ Pl.big (Pl.pa1 s).1 = false) ∧ Br (decide (n < (0 : Int))) (Br (Pl.pw2 (Pl.pa1 s) n == (1 : Int)) (Pl.okI (Pl.pw1 (Pl.pa1 s) n) ∧ Br v1 (True ∧ (true, ()) = C10.post (s, n, ())) ((false, ()) = C10.post (s, n, ()))) ((false, ()) = C10.post (s, n, ()))) (Br (decide (n > (10000 : Int))) (Br (Pl.pw2 (Pl.pa1 s) n == (1 : Int)) (Pl.okI (Pl.pw1 (Pl.pa1 s) n) ∧ Br v1 (True ∧ (true, ()) = C10.post (s, n, ())) ((false, ()) = C10.post (s, n, ()))) ((false, ()) = C10.post (s, n, ()))) (Pl.okL (Pl.paR s).snd.1 ∧ (10 : Int) ≠ (0 : Int) ∧ Br (decide (IntKind.i64.wrap (IntKind.i64.wrap ((IntKind.i64.wrap (IntKind.i64.wrap (Pl.lenR (Pl.paR s).snd.1 - (1 : Int)) * n)).tdiv (10 : Int)) * (33 : Int)) > (40000 : Int))) (Br (Pl.pw2 (Pl.pa1 s) n == (11 : Int)) (Pl.okI (Pl.pw1 (Pl.pa1 s) n) ∧ Br v1 (True ∧ (true, ()) = C10.post (s, n, ())) ((false, ()) = C10.post (s, n, ()))) ((false, ()) = C10.post (s, n, ()))) (Br (decide (IntKind.i64.wrap (Pl.lenR (Pl.paR s).snd.1 * n) > (2000 : Int))) (True ∧ (true, ()) = C10.post (s, n, ())) (Br (Pl.pw2 (Pl.pa1 s) n == (0 : Int)) ((Pl.okZ (Pl.paR s) ∧ Pl.okP (Pl.paR s) n) ∧ (Pl.okI (Pl.pw1 (Pl.pa1 s) n) ∧ Pl.okZ (Pl.poR (Pl.paR s) n)) ∧ Br (Pl.isB (Pl.pw1 (Pl.pa1 s) n) (Pl.poR (Pl.paR s) n)) (True ∧ (true, ()) = C10.post (s, n, ())) ((false, ()) = C10.post (s, n, ()))) ((false, ()) = C10.post (s, n, ())))))))) (by kernel_rfl) ?_
  intro v1
  refine ⟨hs, Br_of (fun h => ⟨trivial, rfl⟩) (fun h => ?_)⟩
  obtain ⟨x, e1, e2, bx⟩ := whole_ok (not_t h)
  have hv1 : v1 = (sgI (pw1 (mkI x) n) == 0) := by show (sgI (pw1 (pa1 s) n) == 0) = _; rw [e1]
  clear_value v1
  subst hv1
  rw [e1, e2]
  have ix := tb_okI bx (by decide)
  have zx := tb_okZ bx (by decide)
  have bad : n < 0 ∨ 10000 < n → Br (pw2 (mkI x) n == (1 : Int)) (okI (pw1 (mkI x) n) ∧ Br (sgI (pw1 (mkI x) n) == 0) (True ∧ (true, ()) = C10.post (s, n, ())) ((false, ()) = C10.post (s, n, ()))) ((false, ()) = C10.post (s, n, ())) := fun hb => by
    have p1 : pw1 (mkI x) n = mkI 0 := by unfold pw1; rw [if_pos hb]
    have p2 : pw2 (mkI x) n = 1 := by unfold pw2; rw [if_pos hb]
    rw [p1, p2, sgI_mk]
    exact Br_t rfl ⟨okI_0, Br_t rfl ⟨trivial, rfl⟩⟩
  refine ⟨⟨ix, by rw [big_mk]; exact tb_big bx (by decide)⟩, Br_of (fun h1 => bad (.inl (of_decide_eq_true h1))) (fun h1 => Br_of (fun h2 => bad (.inr (of_decide_eq_true h2))) (fun h2 => ?_))⟩
  have k1 := of_decide_eq_false h1
  have k2 := of_decide_eq_false h2
  obtain ⟨m, rfl⟩ : ∃ m : Nat, n = (m : Int) := ⟨n.toNat, by omega⟩
  have hg : ¬ ((m : Int) < 0 ∨ 10000 < (m : Int)) := by omega
  have p1 : pw1 (mkI x) (m : Int) = att1 (x ^ m) := by unfold pw1; rw [if_neg hg, iv_mk, Int.toNat_natCast]
  have p2 : pw2 (mkI x) (m : Int) = att2 (x ^ m) := by unfold pw2; rw [if_neg hg, iv_mk, Int.toNat_natCast]
  have hd1 : (Lib.decDigits x.natAbs).length ≤ 701 := by
    have : tb 700 ((x.natAbs : Nat) : Int) := by unfold tb at *; rwa [Int.natAbs_natCast]
    have := dec_len_tb this (by decide)
    rwa [itoa_pos] at this
  have hd0 := List.length_pos_iff.2 (dec_parts x.natAbs).2.2.1
  have hhi := dec_hi x.natAbs
  have hlo := dec_lo x.natAbs
  have hd10 : x.natAbs < 10 → (Lib.decDigits x.natAbs).length = 1 := fun h => by rw [dec_lt h]; rfl
  rw [lenR_mk]
  obtain ⟨d, hd⟩ : ∃ d, d = (Lib.decDigits x.natAbs).length := ⟨_, rfl⟩
  rw [← hd] at hd1 hd0 hhi hlo hd10 ⊢
  have hm : m ≤ 10000 := by omega
  have P1 : (d - 1) * m ≤ 700 * 10000 := Nat.mul_le_mul (by omega) hm
  have P2 : d * m ≤ 701 * 10000 := Nat.mul_le_mul hd1 hm
  have w1 : IntKind.i64.wrap (((d : Nat) : Int) - 1) = ((d - 1 : Nat) : Int) := by rw [wrap_i64 (by omega) (by omega)]; omega
  have w2 : IntKind.i64.wrap (((d - 1 : Nat) : Int) * (m : Int)) = (((d - 1) * m : Nat) : Int) := by
    rw [← Int.natCast_mul, wrap_i64 (by omega) (by omega)]
  have w3 : IntKind.i64.wrap (((((d - 1) * m : Nat) : Int)).tdiv 10) = (((d - 1) * m / 10 : Nat) : Int) := by
    rw [Int.tdiv_eq_ediv_of_nonneg (by omega), wrap_i64 (by omega) (by omega)]; omega
  have w4 : IntKind.i64.wrap ((((d - 1) * m / 10 : Nat) : Int) * 33) = (((d - 1) * m / 10 * 33 : Nat) : Int) := by
    rw [wrap_i64 (by omega) (by omega)]; omega
  have w5 : IntKind.i64.wrap (((d : Nat) : Int) * (m : Int)) = ((d * m : Nat) : Int) := by
    rw [← Int.natCast_mul, wrap_i64 (by omega) (by omega)]
  rw [w1, w2, w3, w4, w5]
  have ab : (x ^ m).natAbs = x.natAbs ^ m := Int.natAbs_pow ..
  refine ⟨okZ_L zx, by decide, Br_of (fun h3 => ?_) (fun h3 => Br_of (fun h4 => ⟨trivial, rfl⟩) (fun h4 => ?_))⟩
  · have h5 := of_decide_eq_true h3
    have hq : 40000 < 33 * ((d - 1) * m / 10) := by omega
    have hd2 : d ≠ 1 := fun h => by rw [h] at hq; simp at hq
    have hx : 0 < x.natAbs := Nat.pos_of_ne_zero fun h => hd2 (hd10 (by omega))
    have hb : bigI (x ^ m) = true := big_ge (by
      rw [ab]
      refine Nat.le_trans (pow_33 _ hq) (Nat.le_trans (p10 (show 10 * ((d - 1) * m / 10) ≤ (d - 1) * m by omega)) ?_)
      rw [Nat.pow_mul]
      exact Nat.pow_le_pow_left (hlo hx) m)
    have q1 : att1 (x ^ m) = mkI 0 := by unfold att1; rw [hb]; rfl
    have q2 : att2 (x ^ m) = 11 := by unfold att2; rw [hb]; rfl
    rw [p1, p2, q1, q2, sgI_mk]
    exact Br_t rfl ⟨okI_0, Br_t rfl ⟨trivial, rfl⟩⟩
  · have h5 : d * m ≤ 2000 := by have := of_decide_eq_false h4; omega
    have hb : tb 2001 (x ^ m) := by
      unfold tb
      rw [ab]
      refine Nat.lt_of_le_of_lt (Nat.pow_le_pow_left (Nat.le_of_lt hhi) m) ?_
      rw [← Nat.pow_mul]
      exact Nat.pow_lt_pow_right (by decide) (by omega)
    have pr : poR (mkR x) (m : Int) = mkR (x ^ m) := by unfold poR; rw [zv_mk, Int.toNat_natCast]
    have len : (mkR x).2.1.length ≤ d := (ok_mk (n := x) (k := d) (m := d) (Nat.lt_of_lt_of_le hhi (Nat.pow_le_pow_left (by decide) d)) (Nat.le_refl _)).2.1
    rw [p1, p2, att1_tb hb (by decide), att2_tb hb (by decide), pr, isB_mk]
    refine Br_t rfl ⟨⟨zx, by omega, by omega, ?_⟩, ⟨tb_okI hb (by decide), tb_okZ hb (by decide)⟩, Br_t (decide_eq_true rfl) ⟨trivial, rfl⟩⟩
    rw [Int.toNat_natCast]
    exact Nat.le_trans (Nat.mul_le_mul_right m len) (by omega)

/-! ### Counts -/
theorem cho_lt : ∀ {n k : Nat}, n < k → cho n k = 0 := by
  intro n
  induction n with
  | zero => intro k h; cases k with
    | zero => omega
    | succ k => rfl
  | succ n ih => intro k h; cases k with
    | zero => omega
    | succ k => rw [cho_succ, ih (by omega), ih (by omega)]
theorem tbC {n k : Nat} (h : n ≤ 1000) : tb 1001 ((cho n k : Nat) : Int) := by
  unfold tb
  rw [Int.natAbs_natCast]
  refine Nat.lt_of_le_of_lt (cho_le' h) (Nat.lt_of_le_of_lt (Nat.pow_le_pow_left (by decide : 2 ≤ 10) 1000) (Nat.pow_lt_pow_right (by decide) (by decide)))
theorem tbF {n : Nat} (h : n ≤ 1000) : tb 10004 ((fac n : Nat) : Int) := by
  unfold tb
  rw [Int.natAbs_natCast]
  refine Nat.lt_of_le_of_lt (fac_le' h) ?_
  have h1 : 2 ^ 10000 ≤ 10 ^ 10000 := Nat.pow_le_pow_left (by decide) _
  have h2 : 10 ^ 10004 = 10 ^ 10000 * 10 ^ 4 := by rw [show 10004 = 10000 + 4 from rfl, Nat.pow_add]
  rw [h2]
  exact Nat.mul_lt_mul_of_le_of_lt h1 (by decide) (Nat.pow_pos (by decide))
theorem ch1_nat {n k : Nat} (h : n ≤ 1000) : ch1 (n : Int) (k : Int) = mkI ((cho n k : Nat) : Int) := by
  unfold ch1
  rw [if_neg (by omega)]
  by_cases hk : n < k
  · rw [if_pos (by omega), cho_lt hk]; rfl
  · rw [if_neg (by omega), Int.toNat_natCast, Int.toNat_natCast]
theorem fa1_nat {n : Nat} (h : n ≤ 1000) : fa1 (n : Int) = mkI ((fac n : Nat) : Int) := by
  unfold fa1
  rw [if_neg (by omega), Int.toNat_natCast]
theorem ch2_nat {n : Nat} (h : n ≤ 1000) : ch2 (n : Int) = 0 := by unfold ch2; rw [if_neg (by omega)]
theorem wrapmod (x : Int) {m : Int} (h0 : 0 < m) (h1 : m ≤ 9000000000000000000) : 0 ≤ IntKind.i64.wrap ((IntKind.u64.wrap x).tmod m) ∧ IntKind.i64.wrap ((IntKind.u64.wrap x).tmod m) < m := by
  have hx : 0 ≤ IntKind.u64.wrap x := by rw [wrap_u64]; exact Int.emod_nonneg _ (by decide)
  have a := Int.tmod_nonneg m hx
  have b := Int.tmod_lt_of_pos (IntKind.u64.wrap x) h0
  rw [wrap_i64 (by omega) (by omega)]
  exact ⟨a, b⟩
theorem cnt_ok (a b : Int) : okI (ch1 a b) ∧ okI (fa1 a) := by
  unfold ch1 fa1
  refine ⟨?_, ?_⟩
  · split
    · exact okI_0
    · split
      · exact okI_0
      · exact tb_okI (tbC (by omega)) (by decide)
  · split
    · exact okI_0
    · exact tb_okI (tbF (by omega)) (by decide)
theorem cnt_eq {a : Int} (b : Int) (h0 : 0 ≤ a) (h1 : a ≤ 1000) : okZ (coR a b) ∧ okZ (faR a) ∧ isB (ch1 a b) (coR a b) = true ∧ isB (fa1 a) (faR a) = true := by
  have hg : ¬ (a < 0 ∨ 1000 < a) := by omega
  unfold ch1 fa1 coR faR
  rw [if_neg hg, if_neg hg]
  have F := tbF (n := a.toNat) (by omega)
  refine ⟨?_, tb_okZ F (by decide), ?_, by rw [isB_mk]; exact decide_eq_true rfl⟩
  · split
    · exact tb_okZ (tb_0 (k := 1) (by decide)) (by decide)
    · exact tb_okZ (tbC (by omega)) (by decide)
  · split
    · rw [isB_mk]; exact decide_eq_true rfl
    · rw [isB_mk]; exact decide_eq_true rfl
theorem vc11 : ∀ x, C11.pre x → VC TL H11 Tryz.f11 C11 x := by
  rintro ⟨(n : Int), (k : Int), ⟨⟩⟩ ⟨(hn : rg64 n), (hk : rg64 k)⟩
  refine cast (α := ∃ (n_1 : Nat), itl (fun (G : Int × Int × Int × PUnit → Prop) (x : Int × Int × Int × PUnit) => let v1 := Pl.ch2 x.fst; let v2 := IntKind.u64.wrap x.fst; let v3 := IntKind.u64.wrap x.snd.fst; let v4 := x.snd.snd.fst + (1 : Int); Br (decide (x.snd.snd.fst < (2 : Int))) (True ∧ True ∧ Br (decide (x.fst < (0 : Int))) (Br (v1 != (1 : Int)) ((false, ()) = C11.post (n, k, ())) (Br (v1 != (1 : Int)) ((false, ()) = C11.post (n, k, ())) (Pl.okI (Pl.ch1 x.fst x.snd.fst) ∧ Br (Pl.sgI (Pl.ch1 x.fst x.snd.fst) != (0 : Int)) ((false, ()) = C11.post (n, k, ())) (Pl.okI (Pl.fa1 x.fst) ∧ Br (Pl.sgI (Pl.fa1 x.fst) != (0 : Int)) ((false, ()) = C11.post (n, k, ())) ((120 : Int) ≠ (0 : Int) ∧ (130 : Int) ≠ (0 : Int) ∧ G (IntKind.i64.wrap (v2.tmod (120 : Int)), IntKind.i64.wrap (v3.tmod (130 : Int)), IntKind.i64.wrap v4, ())))))) (Br (decide (x.fst > (1000 : Int))) (Br (v1 != (1 : Int)) ((false, ()) = C11.post (n, k, ())) (Br (v1 != (1 : Int)) ((false, ()) = C11.post (n, k, ())) (Pl.okI (Pl.ch1 x.fst x.snd.fst) ∧ Br (Pl.sgI (Pl.ch1 x.fst x.snd.fst) != (0 : Int)) ((false, ()) = C11.post (n, k, ())) (Pl.okI (Pl.fa1 x.fst) ∧ Br (Pl.sgI (Pl.fa1 x.fst) != (0 : Int)) ((false, ()) = C11.post (n, k, ())) ((120 : Int) ≠ (0 : Int) ∧ (130 : Int) ≠ (0 : Int) ∧ G (IntKind.i64.wrap (v2.tmod (120 : Int)), IntKind.i64.wrap (v3.tmod (130 : Int)), IntKind.i64.wrap v4, ())))))) (Br (v1 != (0 : Int)) ((false, ()) = C11.post (n, k, ())) (Br (v1 != (0 : Int)) ((false, ()) = C11.post (n, k, ())) (((0 : Int) ≤ x.fst ∧ x.fst ≤ (1000 : Int)) ∧ (Pl.okI (Pl.ch1 x.fst x.snd.fst) ∧ Pl.okZ (Pl.coR x.fst x.snd.fst)) ∧ Br (!Pl.isB (Pl.ch1 x.fst x.snd.fst) (Pl.coR x.fst x.snd.fst)) ((false, ()) = C11.post (n, k, ())) (((0 : Int) ≤ x.fst ∧ x.fst ≤ (1000 : Int)) ∧ (Pl.okI (Pl.fa1 x.fst) ∧ Pl.okZ (Pl.faR x.fst)) ∧ Br (!Pl.isB (Pl.fa1 x.fst) (Pl.faR x.fst)) ((false, ()) = C11.post (n, k, ())) ((120 : Int) ≠ (0 : Int) ∧ (130 : Int) ≠ (0 : Int) ∧ G (IntKind.i64.wrap (v2.tmod (120 : Int)), IntKind.i64.wrap (v3.tmod (130 : Int)), IntKind.i64.wrap v4, ())))))))) (True ∧ (true, ()) = C11.post (n, k, ()))) n_1 (n, k, (0 : Int), ())) (by kernel_rfl) ?_
  refine itl_rule (fun st => 0 ≤ st.2.2.1 ∧ st.2.2.1 ≤ 2) (fun st => (2 - st.2.2.1).toNat) ⟨Int.le_refl 0, (by decide : (0 : Int) ≤ 2)⟩ ?_
  rintro ⟨a, b, i, ⟨⟩⟩ G ⟨h1, h2⟩ hG
  simp only at h1 h2
  simp -zeta only
  intro v1 v2 v3 v4
  refine Br_of (fun hc => ?_) (fun hc => ⟨trivial, rfl⟩)
  have hi := of_decide_eq_true hc
  have hv4 : IntKind.i64.wrap v4 = i + 1 := by show IntKind.i64.wrap (i + 1) = _; rw [wrap_i64 (by omega) (by omega)]
  have step : ∀ a' b', G (a', b', IntKind.i64.wrap v4, ()) := fun a' b' => by
    rw [hv4]
    exact hG _ ⟨by simp only; omega, by simp only; omega⟩ (by simp only; omega)
  obtain ⟨o1, o2⟩ := cnt_ok a b
  have hv1 : v1 = ch2 a := rfl
  clear_value v1
  subst hv1
  have bad : a < 0 ∨ 1000 < a → Br (ch2 a != 1) ((false, ()) = C11.post (n, k, ())) (Br (ch2 a != 1) ((false, ()) = C11.post (n, k, ())) (okI (ch1 a b) ∧ Br (sgI (ch1 a b) != 0) ((false, ()) = C11.post (n, k, ())) (okI (fa1 a) ∧ Br (sgI (fa1 a) != 0) ((false, ()) = C11.post (n, k, ()))
      ((120 : Int) ≠ 0 ∧ (130 : Int) ≠ 0 ∧ G (IntKind.i64.wrap (v2.tmod 120), IntKind.i64.wrap (v3.tmod 130), IntKind.i64.wrap v4, ()))))) := fun hb => by
    have c2 : ch2 a = 1 := by unfold ch2; rw [if_pos hb]
    have c1 : ch1 a b = mkI 0 := by unfold ch1; rw [if_pos hb]
    have c3 : fa1 a = mkI 0 := by unfold fa1; rw [if_pos hb]
    rw [c1, c2, c3, sgI_mk]
    exact Br_f rfl (Br_f rfl ⟨okI_0, Br_f rfl ⟨okI_0, Br_f rfl ⟨by decide, by decide, step _ _⟩⟩⟩)
  refine ⟨trivial, trivial, Br_of (fun h3 => bad (.inl (of_decide_eq_true h3))) (fun h3 => Br_of (fun h4 => bad (.inr (of_decide_eq_true h4))) (fun h4 => ?_))⟩
  have k3 := of_decide_eq_false h3
  have k4 := of_decide_eq_false h4
  obtain ⟨z1, z2, q1, q2⟩ := cnt_eq b (a := a) (by omega) (by omega)
  have c2 : ch2 a = 0 := by unfold ch2; rw [if_neg (by omega)]
  rw [c2, q1, q2]
  exact Br_f rfl (Br_f rfl ⟨⟨by omega, by omega⟩, ⟨o1, z1⟩, Br_f rfl ⟨⟨by omega, by omega⟩, ⟨o2, z2⟩, Br_f rfl ⟨by decide, by decide, step _ _⟩⟩⟩)

/-! ### Pascal -/
def rowS (m : Nat) : Nat → Nat
  | 0 => 0
  | r + 1 => rowS m r + cho m r
theorem rowS_step (m : Nat) : ∀ r, rowS (m + 1) (r + 1) = rowS m r + rowS m (r + 1) := by
  intro r
  induction r with
  | zero => show 0 + cho (m + 1) 0 = 0 + (0 + cho m 0); rw [cho_zero, cho_zero]
  | succ r ih =>
    show rowS (m + 1) (r + 1) + cho (m + 1) (r + 1) = (rowS m r + cho m r) + (rowS m (r + 1) + cho m (r + 1))
    rw [ih, cho_succ]; omega
theorem rowS_all : ∀ m, rowS m (m + 1) = 2 ^ m := by
  intro m
  induction m with
  | zero => rfl
  | succ m ih =>
    rw [rowS_step, ih]
    show 2 ^ m + (rowS m (m + 1) + cho m (m + 1)) = _
    rw [ih, cho_lt (Nat.lt_succ_self m), Nat.pow_succ]; omega
theorem rowS_mono (m : Nat) : ∀ {r t : Nat}, r ≤ t → rowS m r ≤ rowS m t := by
  intro r t h
  induction h with
  | refl => exact Nat.le_refl _
  | step _ ih => exact Nat.le_trans ih (Nat.le_add_right _ _)
theorem tbS {m r : Nat} (hm : m ≤ 1000) (hr : r ≤ m + 1) : tb 1001 ((rowS m r : Nat) : Int) := by
  unfold tb
  rw [Int.natAbs_natCast]
  refine Nat.lt_of_le_of_lt (rowS_mono m hr) ?_
  rw [rowS_all]
  exact Nat.lt_of_le_of_lt (Nat.pow_le_pow_left (by decide : 2 ≤ 10) m) (Nat.pow_lt_pow_right (by decide) (by omega))
theorem tbF2 {n : Nat} (h : n ≤ 60) : tb 601 ((fac n : Nat) : Int) := by
  unfold tb
  rw [Int.natAbs_natCast]
  refine Nat.lt_of_le_of_lt (fac_le n (by omega)) (Nat.lt_of_le_of_lt (Nat.pow_le_pow_left (by decide : 2 ≤ 10) _) (Nat.pow_lt_pow_right (by decide) (by omega)))
theorem vc16 : ∀ x, C16.pre x → VC TL H16 Tryz.f16 C16 x := by
  rintro ⟨(n : Int), (k : Int), ⟨⟩⟩ ⟨(hn : rg64 n), (hk : rg64 k)⟩
  refine cast (α := let v1 := Pl.ch2 (IntKind.i64.wrap ((IntKind.u64.wrap n).tmod (60 : Int))) != (0 : Int); let v2 := IntKind.i64.wrap ((IntKind.u64.wrap n).tmod (60 : Int)) + (1 : Int); let v3 := IntKind.i64.wrap ((IntKind.u64.wrap k).tmod (IntKind.u64.wrap (IntKind.i64.wrap v2))) + (1 : Int); let v4 := IntKind.i64.wrap ((IntKind.u64.wrap n).tmod (60 : Int)) - IntKind.i64.wrap ((IntKind.u64.wrap k).tmod (IntKind.u64.wrap (IntKind.i64.wrap v2))); (60 : Int) ≠ (0 : Int) ∧ IntKind.u64.wrap (IntKind.i64.wrap v2) ≠ (0 : Int) ∧ True ∧ True ∧ True ∧ (Pl.okI (Pl.ch1 (IntKind.i64.wrap ((IntKind.u64.wrap n).tmod (60 : Int))) (IntKind.i64.wrap ((IntKind.u64.wrap k).tmod (IntKind.u64.wrap (IntKind.i64.wrap v2))))) ∧ Pl.okI (Pl.ch1 (IntKind.i64.wrap ((IntKind.u64.wrap n).tmod (60 : Int))) (IntKind.i64.wrap v3))) ∧ True ∧ True ∧ True ∧ Br v1 ((false, ()) = C16.post (n, k, ())) (Br v1 ((false, ()) = C16.post (n, k, ())) (Br (Pl.ch2 (IntKind.i64.wrap v2) != (0 : Int)) ((false, ()) = C16.post (n, k, ())) (Br (Pl.ad2 (Pl.ch1 (IntKind.i64.wrap ((IntKind.u64.wrap n).tmod (60 : Int))) (IntKind.i64.wrap ((IntKind.u64.wrap k).tmod (IntKind.u64.wrap (IntKind.i64.wrap v2))))) (Pl.ch1 (IntKind.i64.wrap ((IntKind.u64.wrap n).tmod (60 : Int))) (IntKind.i64.wrap v3)) != (0 : Int)) ((false, ()) = C16.post (n, k, ())) (Br v1 ((false, ()) = C16.post (n, k, ())) (Br (Pl.ch2 (IntKind.i64.wrap ((IntKind.u64.wrap k).tmod (IntKind.u64.wrap (IntKind.i64.wrap v2)))) != (0 : Int)) ((false, ()) = C16.post (n, k, ())) (Br (Pl.ch2 (IntKind.i64.wrap v4) != (0 : Int)) ((false, ()) = C16.post (n, k, ())) ((Pl.okI (Pl.ad1 (Pl.ch1 (IntKind.i64.wrap ((IntKind.u64.wrap n).tmod (60 : Int))) (IntKind.i64.wrap ((IntKind.u64.wrap k).tmod (IntKind.u64.wrap (IntKind.i64.wrap v2))))) (Pl.ch1 (IntKind.i64.wrap ((IntKind.u64.wrap n).tmod (60 : Int))) (IntKind.i64.wrap v3))) ∧ Pl.okI (Pl.ch1 (IntKind.i64.wrap v2) (IntKind.i64.wrap v3))) ∧ Br (Pl.cpI (Pl.ad1 (Pl.ch1 (IntKind.i64.wrap ((IntKind.u64.wrap n).tmod (60 : Int))) (IntKind.i64.wrap ((IntKind.u64.wrap k).tmod (IntKind.u64.wrap (IntKind.i64.wrap v2))))) (Pl.ch1 (IntKind.i64.wrap ((IntKind.u64.wrap n).tmod (60 : Int))) (IntKind.i64.wrap v3))) (Pl.ch1 (IntKind.i64.wrap v2) (IntKind.i64.wrap v3)) != (0 : Int)) ((false, ()) = C16.post (n, k, ())) ((Pl.okI (Pl.ch1 (IntKind.i64.wrap ((IntKind.u64.wrap n).tmod (60 : Int))) (IntKind.i64.wrap ((IntKind.u64.wrap k).tmod (IntKind.u64.wrap (IntKind.i64.wrap v2))))) ∧ Pl.okI (Pl.fa1 (IntKind.i64.wrap ((IntKind.u64.wrap k).tmod (IntKind.u64.wrap (IntKind.i64.wrap v2)))))) ∧ (Pl.okI (Pl.mu1 (Pl.ch1 (IntKind.i64.wrap ((IntKind.u64.wrap n).tmod (60 : Int))) (IntKind.i64.wrap ((IntKind.u64.wrap k).tmod (IntKind.u64.wrap (IntKind.i64.wrap v2))))) (Pl.fa1 (IntKind.i64.wrap ((IntKind.u64.wrap k).tmod (IntKind.u64.wrap (IntKind.i64.wrap v2)))))) ∧ Pl.okI (Pl.fa1 (IntKind.i64.wrap v4))) ∧ ((-9223372036854775808 : Int) ≤ (0 : Int) ∧ (0 : Int) < (9223372036854775808 : Int)) ∧ ∃ (n_1 : Nat), itl (fun (G : (List Int × Bool × PUnit) × (List Int × Bool × PUnit) × (List Int × Bool × PUnit) × Int × PUnit → Prop) (x : (List Int × Bool × PUnit) × (List Int × Bool × PUnit) × (List Int × Bool × PUnit) × Int × PUnit) => Br (decide (x.snd.snd.snd.fst ≤ IntKind.i64.wrap ((IntKind.u64.wrap n).tmod (60 : Int)))) (True ∧ (Pl.okI x.snd.snd.fst ∧ Pl.okI (Pl.ch1 (IntKind.i64.wrap ((IntKind.u64.wrap n).tmod (60 : Int))) x.snd.snd.snd.fst)) ∧ Br v1 ((false, ()) = C16.post (n, k, ())) (Br (Pl.ad2 x.snd.snd.fst (Pl.ch1 (IntKind.i64.wrap ((IntKind.u64.wrap n).tmod (60 : Int))) x.snd.snd.snd.fst) != (0 : Int)) ((false, ()) = C16.post (n, k, ())) (G (x.fst, x.snd.fst, Pl.ad1 x.snd.snd.fst (Pl.ch1 (IntKind.i64.wrap ((IntKind.u64.wrap n).tmod (60 : Int))) x.snd.snd.snd.fst), IntKind.i64.wrap (x.snd.snd.snd.fst + (1 : Int)), ())))) (((-9223372036854775808 : Int) ≤ (2 : Int) ∧ (2 : Int) < (9223372036854775808 : Int)) ∧ (Pl.okI (Pl.mkI (2 : Int)) ∧ Pl.big (Pl.mkI (2 : Int)).1 = false) ∧ Br (Pl.mu2 (Pl.ch1 (IntKind.i64.wrap ((IntKind.u64.wrap n).tmod (60 : Int))) (IntKind.i64.wrap ((IntKind.u64.wrap k).tmod (IntKind.u64.wrap (IntKind.i64.wrap v2))))) (Pl.fa1 (IntKind.i64.wrap ((IntKind.u64.wrap k).tmod (IntKind.u64.wrap (IntKind.i64.wrap v2))))) == (0 : Int)) (Br (Pl.mu2 (Pl.mu1 (Pl.ch1 (IntKind.i64.wrap ((IntKind.u64.wrap n).tmod (60 : Int))) (IntKind.i64.wrap ((IntKind.u64.wrap k).tmod (IntKind.u64.wrap (IntKind.i64.wrap v2))))) (Pl.fa1 (IntKind.i64.wrap ((IntKind.u64.wrap k).tmod (IntKind.u64.wrap (IntKind.i64.wrap v2)))))) (Pl.fa1 (IntKind.i64.wrap v4)) == (0 : Int)) (Br (Pl.pw2 (Pl.mkI (2 : Int)) (IntKind.i64.wrap ((IntKind.u64.wrap n).tmod (60 : Int))) == (0 : Int)) ((Pl.okI x.snd.fst ∧ Pl.okI x.fst) ∧ Br (Pl.cpI x.snd.fst x.fst == (0 : Int)) ((Pl.okI x.snd.snd.fst ∧ Pl.okI (Pl.pw1 (Pl.mkI (2 : Int)) (IntKind.i64.wrap ((IntKind.u64.wrap n).tmod (60 : Int))))) ∧ Br (Pl.cpI x.snd.snd.fst (Pl.pw1 (Pl.mkI (2 : Int)) (IntKind.i64.wrap ((IntKind.u64.wrap n).tmod (60 : Int)))) == (0 : Int)) (True ∧ (true, ()) = C16.post (n, k, ())) ((false, ()) = C16.post (n, k, ()))) ((false, ()) = C16.post (n, k, ()))) ((false, ()) = C16.post (n, k, ()))) ((false, ()) = C16.post (n, k, ()))) ((false, ()) = C16.post (n, k, ())))) n_1 (Pl.fa1 (IntKind.i64.wrap ((IntKind.u64.wrap n).tmod (60 : Int))), Pl.mu1 (Pl.mu1 (Pl.ch1 (IntKind.i64.wrap ((IntKind.u64.wrap n).tmod (60 : Int))) (IntKind.i64.wrap ((IntKind.u64.wrap k).tmod (IntKind.u64.wrap (IntKind.i64.wrap v2))))) (Pl.fa1 (IntKind.i64.wrap ((IntKind.u64.wrap k).tmod (IntKind.u64.wrap (IntKind.i64.wrap v2)))))) (Pl.fa1 (IntKind.i64.wrap v4)), Pl.mkI (0 : Int), (0 : Int), ())))))))))) (by kernel_rfl) ?_
  intro v1 v2 v3 v4
  obtain ⟨a1, a2⟩ := wrapmod n (m := 60) (by decide) (by decide)
  obtain ⟨m, hM⟩ : ∃ m : Nat, IntKind.i64.wrap ((IntKind.u64.wrap n).tmod 60) = (m : Int) := ⟨(IntKind.i64.wrap ((IntKind.u64.wrap n).tmod 60)).toNat, by omega⟩
  rw [hM] at a2
  have hm : m ≤ 59 := by omega
  have hv2 : IntKind.i64.wrap v2 = ((m + 1 : Nat) : Int) := by
    show IntKind.i64.wrap (IntKind.i64.wrap ((IntKind.u64.wrap n).tmod 60) + 1) = _
    rw [hM, wrap_i64 (by omega) (by omega)]; omega
  have hu : IntKind.u64.wrap (IntKind.i64.wrap v2) = ((m + 1 : Nat) : Int) := by rw [hv2, wrap_u64]; omega
  obtain ⟨b1, b2⟩ := wrapmod k (m := ((m + 1 : Nat) : Int)) (by omega) (by omega)
  obtain ⟨i, hI0⟩ : ∃ i : Nat, IntKind.i64.wrap ((IntKind.u64.wrap k).tmod ((m + 1 : Nat) : Int)) = (i : Int) := ⟨(IntKind.i64.wrap ((IntKind.u64.wrap k).tmod ((m + 1 : Nat) : Int))).toNat, by omega⟩
  rw [hI0] at b2
  have him : i ≤ m := by omega
  have hI : IntKind.i64.wrap ((IntKind.u64.wrap k).tmod (IntKind.u64.wrap (IntKind.i64.wrap v2))) = (i : Int) := by rw [hu]; exact hI0
  have hv3 : IntKind.i64.wrap v3 = ((i + 1 : Nat) : Int) := by
    show IntKind.i64.wrap (IntKind.i64.wrap ((IntKind.u64.wrap k).tmod (IntKind.u64.wrap (IntKind.i64.wrap v2))) + 1) = _
    rw [hI, wrap_i64 (by omega) (by omega)]; omega
  have hv4 : IntKind.i64.wrap v4 = ((m - i : Nat) : Int) := by
    show IntKind.i64.wrap (IntKind.i64.wrap ((IntKind.u64.wrap n).tmod 60) - IntKind.i64.wrap ((IntKind.u64.wrap k).tmod (IntKind.u64.wrap (IntKind.i64.wrap v2)))) = _
    rw [hI, hM, wrap_i64 (by omega) (by omega)]; omega
  have hv1 : v1 = false := by
    show (ch2 (IntKind.i64.wrap ((IntKind.u64.wrap n).tmod 60)) != 0) = false
    rw [hM, ch2_nat (by omega)]; rfl
  rw [hI, hu, hv3, hv4, hv2, hM, hv1]
  clear hI hu hv3 hv4 hv2 hv1 hI0
  clear v1 v3 v4 v2
  have Cm := tbC (n := m) (k := i) (by omega)
  have Cm1 := tbC (n := m) (k := i + 1) (by omega)
  have Cn := tbC (n := m + 1) (k := i + 1) (by omega)
  have Fm := tbF2 (n := m) (by omega)
  have Fi := tbF2 (n := i) (by omega)
  have Fd := tbF2 (n := m - i) (by omega)
  have tA := tb_add Cm Cm1
  have tU := tb_mul Cm Fi
  have tV := tb_mul tU Fd
  have e2 : (0 : Int) = ((0 : Nat) : Int) := rfl
  rw [ch1_nat (by omega), ch1_nat (by omega), ch1_nat (by omega), fa1_nat (by omega), fa1_nat (by omega), fa1_nat (by omega), ch2_nat (by omega), ch2_nat (by omega), ch2_nat (by omega), ad1_mk, ad2_mk, mu1_mk, mu2_mk, att1_tb tA (by decide), att2_tb tA (by decide), att1_tb tU (by decide), att2_tb tU (by decide), mu1_mk, mu2_mk,
    att1_tb tV (by decide), att2_tb tV (by decide), cpI_mk]
  have pas : ordI (((cho m i : Nat) : Int) + ((cho m (i + 1) : Nat) : Int)) ((cho (m + 1) (i + 1) : Nat) : Int) = 0 := ordI_eq.2 (by rw [cho_succ, Int.natCast_add])
  rw [pas]
  have b2' : tb 1 (2 : Int) := by decide
  have hp2 : tb 1001 ((2 : Int) ^ m) := by
    unfold tb
    rw [Int.natAbs_pow]
    exact Nat.lt_of_le_of_lt (Nat.pow_le_pow_left (by decide : (2 : Int).natAbs ≤ 10) m) (Nat.pow_lt_pow_right (by decide) (by omega))
  have p1 : pw1 (mkI 2) (m : Int) = mkI ((2 : Int) ^ m) := by unfold pw1; rw [if_neg (by omega), iv_mk, Int.toNat_natCast, att1_tb hp2 (by decide)]
  have p2 : pw2 (mkI 2) (m : Int) = 0 := by unfold pw2; rw [if_neg (by omega), iv_mk, Int.toNat_natCast, att2_tb hp2 (by decide)]
  refine ⟨by decide, by omega, trivial, trivial, trivial, ⟨tb_okI Cm (by decide), tb_okI Cm1 (by decide)⟩, trivial, trivial, trivial, Br_f rfl (Br_f rfl (Br_f rfl (Br_f rfl (Br_f rfl (Br_f rfl (Br_f rfl ⟨⟨tb_okI tA (by decide), tb_okI Cn (by decide)⟩, Br_f rfl ⟨⟨tb_okI Cm (by decide), tb_okI Fi (by decide)⟩, ⟨tb_okI tU (by decide), tb_okI Fd (by decide)⟩, by decide, ?_⟩⟩))))))⟩
  refine itl_rule (fun st => st.1 = mkI ((fac m : Nat) : Int) ∧ st.2.1 = mkI (((cho m i : Nat) : Int) * ((fac i : Nat) : Int) * ((fac (m - i) : Nat) : Int)) ∧ ∃ r : Nat, st.2.2.1 = mkI ((rowS m r : Nat) : Int) ∧ st.2.2.2.1 = (r : Int) ∧ r ≤ m + 1) (fun st => ((m : Int) + 1 - st.2.2.2.1).toNat) ⟨rfl, rfl, 0, rfl, rfl, by omega⟩ ?_
  rintro ⟨X, V, S, j, ⟨⟩⟩ G ⟨h1, h2, r, h3, h4, h5⟩ hG
  simp only at h1 h2 h3 h4
  subst h1 h2 h3 h4
  simp only
  have oS := tbS (m := m) (by omega) h5
  have Cr := tbC (n := m) (k := r) (by omega)
  rw [ch1_nat (by omega), ad1_mk, ad2_mk, cpI_mk, p1, p2, cpI_mk]
  have tS := tb_add oS Cr
  rw [att1_tb tS (by decide), att2_tb tS (by decide)]
  refine Br_of (fun hc => ⟨trivial, ⟨tb_okI oS (by decide), tb_okI Cr (by decide)⟩, Br_f rfl (Br_f rfl ?_)⟩) (fun hc => ?_)
  · have hr : r ≤ m := by have := of_decide_eq_true hc; omega
    rw [wrap_i64 (by omega) (by omega)]
    refine hG _ ⟨rfl, rfl, r + 1, ?_, by simp only; omega, by omega⟩ (by simp only; omega)
    show mkI _ = mkI (((rowS m r + cho m r : Nat)) : Int)
    rw [Int.natCast_add]
  · have hr : r = m + 1 := by have := of_decide_eq_false hc; omega
    subst hr
    have f1 : ordI (((cho m i : Nat) : Int) * ((fac i : Nat) : Int) * ((fac (m - i) : Nat) : Int)) ((fac m : Nat) : Int) = 0 := ordI_eq.2 (by
      rw [← cho_fac him, Int.natCast_mul, Int.natCast_mul, Int.mul_assoc])
    have f2 : ordI ((rowS m (m + 1) : Nat) : Int) ((2 : Int) ^ m) = 0 := ordI_eq.2 (by rw [rowS_all, Int.natCast_pow]; rfl)
    rw [f1, f2]
    exact ⟨by decide, ⟨tb_okI b2' (by decide), by rw [big_mk]; exact tb_big b2' (by decide)⟩, Br_t rfl (Br_t rfl (Br_t rfl ⟨⟨tb_okI tV (by decide), tb_okI Fm (by decide)⟩, Br_t rfl ⟨⟨tb_okI oS (by decide), tb_okI hp2 (by decide)⟩, Br_t rfl ⟨trivial, rfl⟩⟩⟩))⟩

end Ta
end
section
/- The laws: fractions. -/
set_option linter.unusedVariables false
set_option linter.unusedSimpArgs false
set_option maxRecDepth 100000
namespace Ta
open Go Fw Go.Proofs Go.RowKit Pl

def qb (m : Nat) (r : Rat) : Prop := tb m r.num ∧ tb m (r.den : Int)
theorem qb_mono {m k : Nat} {r : Rat} (h : qb m r) (hk : m ≤ k) : qb k r := ⟨tb_mono h.1 hk, tb_mono h.2 hk⟩
theorem den_ne (r : Rat) : (r.den : Int) ≠ 0 := by have := r.den_pos; omega
theorem qb_div {m : Nat} {a b : Int} (ha : tb m a) (hb : tb m b) (h0 : b ≠ 0) : qb m (Rat.divInt a b) := by
  obtain ⟨h1, h2⟩ := divInt_bound (a := a) h0
  unfold qb tb at *
  rw [Int.natAbs_natCast]
  exact ⟨Nat.lt_of_le_of_lt h1 ha, Nat.lt_of_le_of_lt h2 hb⟩
theorem qb_add {m : Nat} {r q : Rat} (h : qb m r) (k : qb m q) : qb (m + m + 1) (r + q) := by
  rw [← Rat.num_divInt_den r, ← Rat.num_divInt_den q, Rat.divInt_add_divInt _ _ (den_ne r) (den_ne q)]
  exact qb_div (tb_add (tb_mul h.1 k.2) (tb_mul k.1 h.2)) (tb_mono (tb_mul h.2 k.2) (by omega)) (Int.mul_ne_zero (den_ne r) (den_ne q))
theorem qb_neg {m : Nat} {r : Rat} (h : qb m r) : qb m (-r) := by
  unfold qb; rw [Rat.neg_num, Rat.neg_den]; exact ⟨tb_neg h.1, h.2⟩
theorem qb_sub {m : Nat} {r q : Rat} (h : qb m r) (k : qb m q) : qb (m + m + 1) (r - q) := by
  rw [Rat.sub_eq_add_neg]; exact qb_add h (qb_neg k)
theorem qb_mul {m k : Nat} {r q : Rat} (h : qb m r) (h' : qb k q) : qb (m + k) (r * q) := by
  rw [← Rat.num_divInt_den r, ← Rat.num_divInt_den q, Rat.divInt_mul_divInt]
  exact qb_div (tb_mul h.1 h'.1) (tb_mul h.2 h'.2) (Int.mul_ne_zero (den_ne r) (den_ne q))
theorem qb_quo {m : Nat} {r q : Rat} (h : qb m r) (k : qb m q) (h0 : q ≠ 0) : qb (m + m) (r / q) := by
  rw [← Rat.num_divInt_den r, ← Rat.num_divInt_den q, Rat.div_def, Rat.inv_divInt, Rat.divInt_mul_divInt]
  exact qb_div (tb_mul h.1 k.2) (tb_mul h.2 k.1) (Int.mul_ne_zero (den_ne r) (fun h1 => h0 (Rat.num_eq_zero.1 h1)))
theorem qb_big {m : Nat} {r : Rat} (h : qb m r) (hm : m ≤ 10000) : bigQ r = false := by unfold bigQ; rw [tb_big h.1 hm, tb_big h.2 hm]; rfl
theorem qb_okQn {m n : Nat} {r : Rat} (h : qb m r) (hm : m ≤ n) (hn : n ≤ 10000000) : okQn n (mkQ r) := by
  have h2 := h.2
  unfold tb at h2
  rw [Int.natAbs_natCast] at h2
  exact okQ_mk (k := m) (Nat.lt_of_lt_of_le h.1 (Nat.pow_le_pow_left (by decide) m)) (Nat.le_of_lt (Nat.lt_of_lt_of_le h2 (Nat.pow_le_pow_left (by decide) m))) hm hn
theorem qb_okQ {m : Nat} {r : Rat} (h : qb m r) (hm : m ≤ 1000000) : okQ (mkQ r) := qb_okQn h hm (by decide)
theorem qb_okQ2 {m : Nat} {r : Rat} (h : qb m r) (hm : m ≤ 1000000) : okQ2 (mkQ r) := qb_okQn h (Nat.le_trans hm (by decide)) (by decide)
theorem qb_okRQ {m : Nat} {r : Rat} (h : qb m r) (hm : m ≤ 1000000) : okRQ (mkRQ r) := by
  have l1 := ok_mk (n := r.num) (k := m) (m := 1000000) (Nat.lt_of_lt_of_le h.1 (Nat.pow_le_pow_left (by decide) m)) hm
  have l2 := ok_mk (n := (r.den : Int)) (k := m) (m := 1000000) (Nat.lt_of_lt_of_le h.2 (Nat.pow_le_pow_left (by decide) m)) hm
  refine ⟨tb_okZ h.1 hm, tb_okZ h.2 hm, l1.2.1, l2.2.1, ?_, ?_⟩
  · show 0 < zv (mkR (r.den : Int))
    rw [zv_mk]; have := r.den_pos; omega
  · show Nat.gcd (nr (mkR r.num).2.1) (nr (mkR (r.den : Int)).2.1) = 1
    rw [nr_mkR, nr_mkR, Int.natAbs_natCast]; exact r.reduced
theorem atq_qb {m : Nat} {r : Rat} (h : qb m r) (hm : m ≤ 10000) : atq1 r = mkQ r ∧ atq2 r = 0 := by
  unfold atq1 atq2; rw [qb_big h hm]; exact ⟨rfl, rfl⟩
theorem eqB_mk' (r q : Rat) : eqB (mkQ r) (mkRQ q) = decide (r = q) := eqB_mk r q (rqv_mk q)
theorem aad1_mk (r q : Rat) : aad1 (mkQ r) (mkQ q) = atq1 (r + q) := by unfold aad1 adQ; rw [qv_mkQ, qv_mkQ]
theorem aad2_mk (r q : Rat) : aad2 (mkQ r) (mkQ q) = atq2 (r + q) := by unfold aad2 adQ; rw [qv_mkQ, qv_mkQ]
theorem asu1_mk (r q : Rat) : asu1 (mkQ r) (mkQ q) = atq1 (r - q) := by unfold asu1 suQ; rw [qv_mkQ, qv_mkQ]
theorem asu2_mk (r q : Rat) : asu2 (mkQ r) (mkQ q) = atq2 (r - q) := by unfold asu2 suQ; rw [qv_mkQ, qv_mkQ]
theorem amu1_mk (r q : Rat) : amu1 (mkQ r) (mkQ q) = atq1 (r * q) := by unfold amu1 muQ; rw [qv_mkQ, qv_mkQ]
theorem amu2_mk (r q : Rat) : amu2 (mkQ r) (mkQ q) = atq2 (r * q) := by unfold amu2 muQ; rw [qv_mkQ, qv_mkQ]
theorem mkQ_nil {q : Rat} (h : q ≠ 0) : (mkQ q).1.1 ≠ [] := ne_of_iv (by rw [iv_mkQ]; exact fun h1 => h (Rat.num_eq_zero.1 h1))
theorem aqu1_mk (r : Rat) {q : Rat} (h : q ≠ 0) : aqu1 (mkQ r) (mkQ q) = atq1 (r / q) := by unfold aqu1 quQ; rw [if_neg (mkQ_nil h), qv_mkQ, qv_mkQ]
theorem aqu2_mk (r : Rat) {q : Rat} (h : q ≠ 0) : aqu2 (mkQ r) (mkQ q) = atq2 (r / q) := by unfold aqu2 quQ; rw [if_neg (mkQ_nil h), qv_mkQ, qv_mkQ]
theorem aqu_0 (r : Rat) : aqu1 (mkQ r) (mkQ 0) = mkQ 0 ∧ aqu2 (mkQ r) (mkQ 0) = 6 := by
  have h : (mkQ 0).1.1 = [] := rfl
  unfold aqu1 aqu2; rw [if_pos h, if_pos h]; exact ⟨rfl, rfl⟩
theorem pqR_mk (r q : Rat) : pqR (mkRQ r) (mkRQ q) = mkRQ (r + q) := by unfold pqR; rw [rqv_mk, rqv_mk]
theorem mqR_mk (r q : Rat) : mqR (mkRQ r) (mkRQ q) = mkRQ (r - q) := by unfold mqR; rw [rqv_mk, rqv_mk]
theorem tqR_mk (r q : Rat) : tqR (mkRQ r) (mkRQ q) = mkRQ (r * q) := by unfold tqR; rw [rqv_mk, rqv_mk]
theorem oqR_mk (r q : Rat) : oqR (mkRQ r) (mkRQ q) = mkRQ (r / q) := by unfold oqR; rw [rqv_mk, rqv_mk]
theorem cpQ_mk (r q : Rat) : cpQ (mkQ r) (mkQ q) = ordI (r.num * q.den) (q.num * r.den) := by
  unfold cpQ; rw [iv_mkQ, iv_mkQ, nt_mkQ, nt_mkQ]
theorem cqR_mk (r q : Rat) : cqR (mkRQ r) (mkRQ q) = ordI (r.num * q.den) (q.num * r.den) := by
  show ordI (zv (mkR r.num) * zv (mkR (q.den : Int))) (zv (mkR q.num) * zv (mkR (r.den : Int))) = _
  rw [zv_mk, zv_mk, zv_mk, zv_mk]
theorem cpQ_self (r : Rat) : cpQ (mkQ r) (mkQ r) = 0 := by rw [cpQ_mk]; exact ordI_self _
theorem sgQ_mk (r : Rat) : sgQ (mkQ r) = ordI r.num 0 := by show sgI (mkI r.num) = _; exact sgI_mk _
theorem sqR_mk (r : Rat) : sqR (mkRQ r) = ordI r.num 0 := by show sgR (mkR r.num) = _; exact sgR_mk _
theorem ngQ_mk (r : Rat) : ngQ (mkQ r) = mkQ (-r) := by unfold ngQ; rw [qv_mkQ]
theorem dec_tb {n m : Nat} (h : (Lib.decDigits n).length ≤ m) : tb m ((n : Nat) : Int) := by
  unfold tb; rw [Int.natAbs_natCast]
  exact Nat.lt_of_lt_of_le (dec_hi n) (p10 h)
theorem itoa_tb {n : Int} {m : Nat} (h : (Lib.itoa n).length ≤ m) : tb m n := by
  have : (Lib.decDigits n.natAbs).length ≤ m := by
    unfold Lib.itoa at h
    split at h
    · rw [List.length_cons] at h; omega
    · rwa [show n.natAbs = n.toNat by omega]
  have := dec_tb this
  unfold tb at *
  rwa [Int.natAbs_natCast] at this
theorem txt_qb {r : Rat} {m : Nat} (h : (txtR r).length ≤ m) (hm : 1 ≤ m) : qb m r := by
  unfold txtR at h
  split at h
  · rename_i h1
    refine ⟨itoa_tb h, ?_⟩
    rw [h1]; exact tb_small (by decide) hm
  · rw [List.length_append, List.length_cons] at h
    exact ⟨itoa_tb (by omega), dec_tb (by omega)⟩
theorem rd_txt {s : ByteArray} (h : rvS s = true) : txtR (rdR (bl s)) = bl s := by
  unfold rvS rdV at h
  simp only [Bool.and_eq_true, decide_eq_true_eq] at h
  exact h.2
theorem rd_qb {s : ByteArray} {m : Nat} (h : rvS s = true) (hs : s.size ≤ m) (hm : 1 ≤ m) : qb m (rdR (bl s)) :=
  txt_qb (by rw [rd_txt h, ← size_bl]; exact hs) hm
theorem read_ok {s : ByteArray} {m : Nat} (h : rvS s = true) (hs : s.size ≤ m) (h1 : 1 ≤ m) (hm : m ≤ 10000) : ∃ r : Rat, pq1 s = mkQ r ∧ pq2 s = 0 ∧ reR s = mkRQ r ∧ qb m r ∧ txtR r = bl s := by
  have hb := rd_qb h hs h1
  obtain ⟨q1, q2⟩ := atq_qb hb hm
  have hv : rdV (bl s) = true := h
  refine ⟨rdR (bl s), ?_, ?_, ?_, hb, rd_txt h⟩
  · unfold pq1; rw [if_pos hv, q1]
  · unfold pq2; rw [if_pos hv, q2]
  · unfold reR; rw [if_pos hv]
theorem frac_ok {s : ByteArray} (h : fcB s = true) : ∃ r : Rat, pq1 s = mkQ r ∧ reR s = mkRQ r ∧ qb 400 r := by
  unfold fcB at h
  simp only [Bool.and_eq_true, decide_eq_true_eq] at h
  obtain ⟨r, h1, h2, h3, h4, h5⟩ := read_ok h.1 h.2.1 (by decide) (by decide)
  exact ⟨r, h1, h3, h4⟩

theorem vc14 : ∀ x, C14.pre x → VC TL H0 Tryz.f14 C14 x := by
  rintro ⟨(s : ByteArray), (t : ByteArray), ⟨⟩⟩ ⟨(hs : szQ s), (ht : szQ t)⟩
  refine cast (α := Pl.szQ s ∧ Pl.szQ t ∧ Br (!Pl.fcB s) (True ∧ (true, ()) = C14.post (s, t, ())) (Br (!Pl.fcB t) (True ∧ (true, ()) = C14.post (s, t, ())) ((Pl.okQ (Pl.pq1 s) ∧ Pl.okQ (Pl.pq1 t)) ∧ (Pl.okQ (Pl.pq1 s) ∧ Pl.okQ (Pl.pq1 t)) ∧ (Pl.okQ (Pl.pq1 s) ∧ Pl.okQ (Pl.pq1 t)) ∧ Br (Pl.aad2 (Pl.pq1 s) (Pl.pq1 t) != (0 : Int)) ((false, ()) = C14.post (s, t, ())) (Br (Pl.asu2 (Pl.pq1 s) (Pl.pq1 t) != (0 : Int)) ((false, ()) = C14.post (s, t, ())) (Br (Pl.amu2 (Pl.pq1 s) (Pl.pq1 t) != (0 : Int)) ((false, ()) = C14.post (s, t, ())) ((Pl.okRQ (Pl.reR s) ∧ Pl.okRQ (Pl.reR t)) ∧ (Pl.okQ2 (Pl.aad1 (Pl.pq1 s) (Pl.pq1 t)) ∧ Pl.okRQ (Pl.pqR (Pl.reR s) (Pl.reR t))) ∧ Br (!Pl.eqB (Pl.aad1 (Pl.pq1 s) (Pl.pq1 t)) (Pl.pqR (Pl.reR s) (Pl.reR t))) ((false, ()) = C14.post (s, t, ())) ((Pl.okRQ (Pl.reR s) ∧ Pl.okRQ (Pl.reR t)) ∧ (Pl.okQ2 (Pl.asu1 (Pl.pq1 s) (Pl.pq1 t)) ∧ Pl.okRQ (Pl.mqR (Pl.reR s) (Pl.reR t))) ∧ Br (!Pl.eqB (Pl.asu1 (Pl.pq1 s) (Pl.pq1 t)) (Pl.mqR (Pl.reR s) (Pl.reR t))) ((false, ()) = C14.post (s, t, ())) ((Pl.okRQ (Pl.reR s) ∧ Pl.okRQ (Pl.reR t)) ∧ (Pl.okQ2 (Pl.amu1 (Pl.pq1 s) (Pl.pq1 t)) ∧ Pl.okRQ (Pl.tqR (Pl.reR s) (Pl.reR t))) ∧ Br (!Pl.eqB (Pl.amu1 (Pl.pq1 s) (Pl.pq1 t)) (Pl.tqR (Pl.reR s) (Pl.reR t))) ((false, ()) = C14.post (s, t, ())) ((Pl.okQ (Pl.pq1 s) ∧ Pl.okQ (Pl.pq1 t)) ∧ (Pl.okRQ (Pl.reR s) ∧ Pl.okRQ (Pl.reR t)) ∧ Br (Pl.cpQ (Pl.pq1 s) (Pl.pq1 t) != Pl.cqR (Pl.reR s) (Pl.reR t)) ((false, ()) = C14.post (s, t, ())) ((Pl.okQ (Pl.pq1 s) ∧ Pl.okQ (Pl.pq1 t)) ∧ Pl.okRQ (Pl.reR t) ∧ Br (Pl.sqR (Pl.reR t) == (0 : Int)) (Br (Pl.aqu2 (Pl.pq1 s) (Pl.pq1 t) == (6 : Int)) (Pl.okQ2 (Pl.aqu1 (Pl.pq1 s) (Pl.pq1 t)) ∧ Br (Pl.sgQ (Pl.aqu1 (Pl.pq1 s) (Pl.pq1 t)) == (0 : Int)) (True ∧ (true, ()) = C14.post (s, t, ())) ((false, ()) = C14.post (s, t, ()))) ((false, ()) = C14.post (s, t, ()))) (Br (Pl.aqu2 (Pl.pq1 s) (Pl.pq1 t) == (0 : Int)) ((Pl.okRQ (Pl.reR s) ∧ Pl.okRQ (Pl.reR t) ∧ (Pl.reR t).fst.snd.1 ≠ []) ∧ (Pl.okQ2 (Pl.aqu1 (Pl.pq1 s) (Pl.pq1 t)) ∧ Pl.okRQ (Pl.oqR (Pl.reR s) (Pl.reR t))) ∧ Br (Pl.eqB (Pl.aqu1 (Pl.pq1 s) (Pl.pq1 t)) (Pl.oqR (Pl.reR s) (Pl.reR t))) (True ∧ (true, ()) = C14.post (s, t, ())) ((false, ()) = C14.post (s, t, ()))) ((false, ()) = C14.post (s, t, ()))))))))))))) (by kernel_rfl) ?_
  refine ⟨hs, ht, Br_of (fun h => ⟨trivial, rfl⟩) (fun h => Br_of (fun k => ⟨trivial, rfl⟩) (fun k => ?_))⟩
  obtain ⟨a, e1, e2, ha⟩ := frac_ok (not_t h)
  obtain ⟨b, f1, f2, hb⟩ := frac_ok (not_t k)
  have A := qb_add ha hb
  have S := qb_sub ha hb
  have M := qb_mul ha hb
  obtain ⟨a1, a2⟩ := atq_qb A (by decide)
  obtain ⟨s1, s2⟩ := atq_qb S (by decide)
  obtain ⟨m1, m2⟩ := atq_qb M (by decide)
  rw [e1, e2, f1, f2, aad1_mk, aad2_mk, asu1_mk, asu2_mk, amu1_mk, amu2_mk, a1, a2, s1, s2, m1, m2, pqR_mk, mqR_mk, tqR_mk, oqR_mk, eqB_mk', eqB_mk', eqB_mk', cpQ_mk, cqR_mk, sqR_mk]
  have qa := qb_okQ ha (by decide)
  have qb' := qb_okQ hb (by decide)
  have ra := qb_okRQ ha (by decide)
  have rb := qb_okRQ hb (by decide)
  refine ⟨⟨qa, qb'⟩, ⟨qa, qb'⟩, ⟨qa, qb'⟩, Br_f rfl (Br_f rfl (Br_f rfl ⟨⟨ra, rb⟩, ⟨qb_okQ2 A (by decide), qb_okRQ A (by decide)⟩, Br_f (by simp) ⟨⟨ra, rb⟩, ⟨qb_okQ2 S (by decide), qb_okRQ S (by decide)⟩, Br_f (by simp) ⟨⟨ra, rb⟩, ⟨qb_okQ2 M (by decide), qb_okRQ M (by decide)⟩, Br_f (by simp) ⟨⟨qa, qb'⟩, ⟨ra, rb⟩, Br_f (by simp) ⟨⟨qa, qb'⟩, rb,
    Br_of (fun h0 => ?_) (fun h0 => ?_)⟩⟩⟩⟩⟩))⟩
  · have h1 := beq0 h0
    have hz : b = 0 := Rat.num_eq_zero.1 h1
    subst hz
    obtain ⟨q1, q2⟩ := aqu_0 a
    rw [q1, q2, sgQ_mk]
    exact Br_t rfl ⟨qb_okQ2 (m := 1) ⟨by decide, by decide⟩ (by decide), Br_t rfl ⟨trivial, rfl⟩⟩
  · have h1 := bne0 h0
    have hz : b ≠ 0 := fun h2 => h1 (Rat.num_eq_zero.2 h2)
    have Q := qb_quo ha hb hz
    obtain ⟨q1, q2⟩ := atq_qb Q (by decide)
    rw [aqu1_mk a hz, aqu2_mk a hz, q1, q2, eqB_mk']
    exact Br_t rfl ⟨⟨ra, rb, mkR_ne h1⟩, ⟨qb_okQ2 Q (by decide), qb_okRQ Q (by decide)⟩, Br_t (decide_eq_true rfl) ⟨trivial, rfl⟩⟩

theorem mk1_1 : mk1 1 1 = mkQ 1 := by
  show mkQ (Rat.divInt 1 1) = _
  rw [divInt_1]; rfl
theorem ordI_ng2 (x y : Int) : ordI (-y) (-x) = ordI x y := by unfold ordI; split <;> split <;> (try split) <;> (try split) <;> omega
theorem cpQ_negs (r q : Rat) : cpQ (mkQ r) (mkQ q) = cpQ (mkQ (-q)) (mkQ (-r)) := by
  rw [cpQ_mk, cpQ_mk, Rat.neg_num, Rat.neg_num, Rat.neg_den, Rat.neg_den, Int.neg_mul, Int.neg_mul, ordI_ng2]
theorem vc12 : ∀ x, C12.pre x → VC TL H0 Tryz.f12 C12 x := by
  rintro ⟨(s : ByteArray), (t : ByteArray), (u : ByteArray), ⟨⟩⟩ ⟨(hs : szQ s), (ht : szQ t), (hu : szQ u)⟩
  refine cast (α := Pl.szQ s ∧ Pl.szQ t ∧ Pl.szQ u ∧ Br (!Pl.fcB s) (True ∧ (true, ()) = C12.post (s, t, u, ())) (Br (!Pl.fcB t) (True ∧ (true, ()) = C12.post (s, t, u, ())) (Br (!Pl.fcB u) (True ∧ (true, ()) = C12.post (s, t, u, ())) (Br (decide (IntKind.i64.wrap (IntKind.i64.wrap ((↑s.size : Int) + (↑t.size : Int)) + (↑u.size : Int)) > (500 : Int))) (True ∧ (true, ()) = C12.post (s, t, u, ())) ((Pl.okQ (Pl.pq1 t) ∧ Pl.okQ (Pl.pq1 u)) ∧ (Pl.okQ (Pl.pq1 s) ∧ Pl.okQ (Pl.aad1 (Pl.pq1 t) (Pl.pq1 u))) ∧ (Pl.okQ (Pl.pq1 s) ∧ Pl.okQ (Pl.pq1 t)) ∧ (Pl.okQ (Pl.pq1 s) ∧ Pl.okQ (Pl.pq1 u)) ∧ (Pl.okQ (Pl.amu1 (Pl.pq1 s) (Pl.pq1 t)) ∧ Pl.okQ (Pl.amu1 (Pl.pq1 s) (Pl.pq1 u))) ∧ Br (Pl.aad2 (Pl.pq1 t) (Pl.pq1 u) != (0 : Int)) ((false, ()) = C12.post (s, t, u, ())) (Br (Pl.amu2 (Pl.pq1 s) (Pl.aad1 (Pl.pq1 t) (Pl.pq1 u)) != (0 : Int)) ((false, ()) = C12.post (s, t, u, ())) (Br (Pl.amu2 (Pl.pq1 s) (Pl.pq1 t) != (0 : Int)) ((false, ()) = C12.post (s, t, u, ())) (Br (Pl.amu2 (Pl.pq1 s) (Pl.pq1 u) != (0 : Int)) ((false, ()) = C12.post (s, t, u, ())) (Br (Pl.aad2 (Pl.amu1 (Pl.pq1 s) (Pl.pq1 t)) (Pl.amu1 (Pl.pq1 s) (Pl.pq1 u)) != (0 : Int)) ((false, ()) = C12.post (s, t, u, ())) ((Pl.okQ (Pl.amu1 (Pl.pq1 s) (Pl.aad1 (Pl.pq1 t) (Pl.pq1 u))) ∧ Pl.okQ (Pl.aad1 (Pl.amu1 (Pl.pq1 s) (Pl.pq1 t)) (Pl.amu1 (Pl.pq1 s) (Pl.pq1 u)))) ∧ Br (Pl.cpQ (Pl.amu1 (Pl.pq1 s) (Pl.aad1 (Pl.pq1 t) (Pl.pq1 u))) (Pl.aad1 (Pl.amu1 (Pl.pq1 s) (Pl.pq1 t)) (Pl.amu1 (Pl.pq1 s) (Pl.pq1 u))) != (0 : Int)) ((false, ()) = C12.post (s, t, u, ())) (Pl.okQ2 (Pl.amu1 (Pl.pq1 s) (Pl.aad1 (Pl.pq1 t) (Pl.pq1 u))) ∧ Pl.okQ2 (Pl.aad1 (Pl.amu1 (Pl.pq1 s) (Pl.pq1 t)) (Pl.amu1 (Pl.pq1 s) (Pl.pq1 u))) ∧ Br (!(Pl.txtQ (Pl.amu1 (Pl.pq1 s) (Pl.aad1 (Pl.pq1 t) (Pl.pq1 u)))).toList == (Pl.txtQ (Pl.aad1 (Pl.amu1 (Pl.pq1 s) (Pl.pq1 t)) (Pl.amu1 (Pl.pq1 s) (Pl.pq1 u)))).toList) ((false, ()) = C12.post (s, t, u, ())) (Pl.okQ2 (Pl.pq1 t) ∧ Br (Pl.sgQ (Pl.pq1 t) != (0 : Int)) ((Pl.okQ (Pl.amu1 (Pl.pq1 s) (Pl.pq1 t)) ∧ Pl.okQ (Pl.pq1 t)) ∧ (((-9223372036854775808 : Int) ≤ (1 : Int) ∧ (1 : Int) < (9223372036854775808 : Int)) ∧ (-9223372036854775808 : Int) ≤ (1 : Int) ∧ (1 : Int) < (9223372036854775808 : Int)) ∧ (Pl.okQ (Pl.mk1 (1 : Int) (1 : Int)) ∧ Pl.okQ (Pl.pq1 t)) ∧ (Pl.okQ (Pl.aqu1 (Pl.mk1 (1 : Int) (1 : Int)) (Pl.pq1 t)) ∧ Pl.okQ (Pl.pq1 t)) ∧ Br (Pl.aqu2 (Pl.amu1 (Pl.pq1 s) (Pl.pq1 t)) (Pl.pq1 t) != (0 : Int)) ((false, ()) = C12.post (s, t, u, ())) (Br (Pl.mk2 (1 : Int) != (0 : Int)) ((false, ()) = C12.post (s, t, u, ())) (Br (Pl.aqu2 (Pl.mk1 (1 : Int) (1 : Int)) (Pl.pq1 t) != (0 : Int)) ((false, ()) = C12.post (s, t, u, ())) (Br (Pl.amu2 (Pl.aqu1 (Pl.mk1 (1 : Int) (1 : Int)) (Pl.pq1 t)) (Pl.pq1 t) != (0 : Int)) ((false, ()) = C12.post (s, t, u, ())) ((Pl.okQ (Pl.aqu1 (Pl.amu1 (Pl.pq1 s) (Pl.pq1 t)) (Pl.pq1 t)) ∧ Pl.okQ (Pl.pq1 s)) ∧ Br (Pl.cpQ (Pl.aqu1 (Pl.amu1 (Pl.pq1 s) (Pl.pq1 t)) (Pl.pq1 t)) (Pl.pq1 s) != (0 : Int)) ((false, ()) = C12.post (s, t, u, ())) ((Pl.okQ (Pl.amu1 (Pl.aqu1 (Pl.mk1 (1 : Int) (1 : Int)) (Pl.pq1 t)) (Pl.pq1 t)) ∧ Pl.okQ (Pl.mk1 (1 : Int) (1 : Int))) ∧ Br (Pl.cpQ (Pl.amu1 (Pl.aqu1 (Pl.mk1 (1 : Int) (1 : Int)) (Pl.pq1 t)) (Pl.pq1 t)) (Pl.mk1 (1 : Int) (1 : Int)) != (0 : Int)) ((false, ()) = C12.post (s, t, u, ())) ((Pl.okQ (Pl.pq1 s) ∧ Pl.okQ (Pl.pq1 t)) ∧ Pl.okQ2 (Pl.pq1 t) ∧ Pl.okQ2 (Pl.pq1 s) ∧ (Pl.okQ (Pl.ngQ (Pl.pq1 t)) ∧ Pl.okQ (Pl.ngQ (Pl.pq1 s))) ∧ Br (Pl.cpQ (Pl.pq1 s) (Pl.pq1 t) == Pl.cpQ (Pl.ngQ (Pl.pq1 t)) (Pl.ngQ (Pl.pq1 s))) (True ∧ (true, ()) = C12.post (s, t, u, ())) ((false, ()) = C12.post (s, t, u, ()))))))))) ((Pl.okQ (Pl.pq1 s) ∧ Pl.okQ (Pl.pq1 t)) ∧ Pl.okQ2 (Pl.pq1 t) ∧ Pl.okQ2 (Pl.pq1 s) ∧ (Pl.okQ (Pl.ngQ (Pl.pq1 t)) ∧ Pl.okQ (Pl.ngQ (Pl.pq1 s))) ∧ Br (Pl.cpQ (Pl.pq1 s) (Pl.pq1 t) == Pl.cpQ (Pl.ngQ (Pl.pq1 t)) (Pl.ngQ (Pl.pq1 s))) (True ∧ (true, ()) = C12.post (s, t, u, ())) ((false, ()) = C12.post (s, t, u, ()))))))))))))))) (by kernel_rfl) ?_
  refine ⟨hs, ht, hu, Br_of (fun h => ⟨trivial, rfl⟩) (fun h => Br_of (fun k => ⟨trivial, rfl⟩) (fun k => Br_of (fun l => ⟨trivial, rfl⟩) (fun l => Br_of (fun _ => ⟨trivial, rfl⟩) (fun _ => ?_))))⟩
  obtain ⟨a, e1, _, ha⟩ := frac_ok (not_t h)
  obtain ⟨b, f1, _, hb⟩ := frac_ok (not_t k)
  obtain ⟨c, g1, _, hc⟩ := frac_ok (not_t l)
  have t1 := qb_add hb hc
  have t2 := qb_mul ha t1
  have t3 := qb_mul ha hb
  have t4 := qb_mul ha hc
  have t5 := qb_add t3 t4
  obtain ⟨x1, y1⟩ := atq_qb t1 (by decide)
  obtain ⟨x2, y2⟩ := atq_qb t2 (by decide)
  obtain ⟨x3, y3⟩ := atq_qb t3 (by decide)
  obtain ⟨x4, y4⟩ := atq_qb t4 (by decide)
  obtain ⟨x5, y5⟩ := atq_qb t5 (by decide)
  have i1 := qb_okQ t1 (by decide)
  have i2 := qb_okQ t2 (by decide)
  have i3 := qb_okQ t3 (by decide)
  have i4 := qb_okQ t4 (by decide)
  have i5 := qb_okQ t5 (by decide)
  have ia := qb_okQ ha (by decide)
  have ib := qb_okQ hb (by decide)
  have ic := qb_okQ hc (by decide)
  have ja := qb_okQ2 ha (by decide)
  have jb := qb_okQ2 hb (by decide)
  have na := qb_okQ (qb_neg ha) (by decide)
  have nb := qb_okQ (qb_neg hb) (by decide)
  have one : qb 1 (1 : Rat) := ⟨by decide, by decide⟩
  rw [e1, f1, g1, mk1_1]
  simp only [aad1_mk, aad2_mk, amu1_mk, amu2_mk, x1, x2, x3, x4, x5, y1, y2, y3, y4, y5, ngQ_mk]
  have d1 : a * (b + c) = a * b + a * c := Rat.mul_add ..
  rw [d1] at i2 t2 ⊢
  rw [cpQ_self, sgQ_mk, ← cpQ_negs]
  have last : (okQ (mkQ a) ∧ okQ (mkQ b)) ∧ okQ2 (mkQ b) ∧ okQ2 (mkQ a) ∧ (okQ (mkQ (-b)) ∧ okQ (mkQ (-a))) ∧ Br (cpQ (mkQ a) (mkQ b) == cpQ (mkQ a) (mkQ b)) (True ∧ (true, ()) = C12.post (s, t, u, ())) ((false, ()) = C12.post (s, t, u, ())) :=
    ⟨⟨ia, ib⟩, jb, ja, ⟨nb, na⟩, Br_t (by simp) ⟨trivial, rfl⟩⟩
  refine ⟨⟨ib, ic⟩, ⟨ia, i1⟩, ⟨ia, ib⟩, ⟨ia, ic⟩, ⟨i3, i4⟩, Br_f rfl (Br_f rfl (Br_f rfl (Br_f rfl (Br_f rfl ⟨⟨i2, i5⟩, Br_f rfl ⟨qb_okQ2 t5 (by decide), qb_okQ2 t5 (by decide), Br_f (by simp) ⟨jb, Br_of (fun h0 => ?_) (fun _ => last)⟩⟩⟩))))⟩
  have h1 : b.num ≠ 0 := fun h2 => by rw [h2] at h0; cases h0
  have hz : b ≠ 0 := fun h2 => h1 (Rat.num_eq_zero.2 h2)
  have d2 : a * b / b = a := Rat.mul_div_cancel hz
  have d3 : (1 : Rat) / b * b = 1 := by rw [Rat.div_def, Rat.mul_assoc, Rat.inv_mul_cancel b hz, Rat.mul_one]
  have t6 := qb_quo (qb_mono one (by decide : 1 ≤ 400)) hb hz
  obtain ⟨x6, y6⟩ := atq_qb t6 (by decide)
  obtain ⟨xa, ya⟩ := atq_qb ha (by decide)
  obtain ⟨xo, yo⟩ := atq_qb one (by decide)
  rw [aqu1_mk (a * b) hz, aqu2_mk (a * b) hz, aqu1_mk 1 hz, aqu2_mk 1 hz, d2, x6, y6, xa, ya, amu1_mk, amu2_mk, d3, xo, yo, cpQ_self, cpQ_self]
  have io := qb_okQ one (by decide)
  exact ⟨⟨i3, ib⟩, by decide, ⟨io, ib⟩, ⟨qb_okQ t6 (by decide), ib⟩, Br_f rfl (Br_f rfl (Br_f rfl (Br_f rfl ⟨⟨ia, ia⟩, Br_f rfl ⟨⟨io, io⟩, Br_f rfl last⟩⟩)))⟩

/-! ### Texts -/
theorem zero_txtQ : ((txtQ (mkQ 0)).toList == (ByteArray.mk #[(48 : UInt8)]).toList) = true := by
  rw [txtQ_mk, show txtR 0 = Lib.itoa 0 from rfl, itoa0]
  show ((ba [48]).toList == (ba [48]).toList) = true
  rw [ba_eq]; exact decide_eq_true rfl
theorem qb_0 : qb 1 (0 : Rat) := ⟨by decide, by decide⟩
theorem frR_01 : frR 0 1 = mkRQ 0 := by show mkRQ (Rat.divInt 0 1) = _; rw [divInt_1]; rfl
theorem dnI_mk (r : Rat) : dnI (mkQ r) = mkI (r.den : Int) := by unfold dnI; rw [nt_mkQ]
theorem tail6 {s D : ByteArray} (hD : D.size ≤ 1000) :
    D.size ≤ (1100000 : Nat) ∧
    D.size ≤ (1100000 : Nat) ∧
      Br (!Pl.rvS D)
        (Br (Pl.pq2 D == (10 : Int))
          (Pl.okQ2 (Pl.pq1 D) ∧
            Br ((Pl.txtQ (Pl.pq1 D)).toList == (ByteArray.mk #[(48 : UInt8)]).toList) (True ∧ (true, ()) = C6.post (s, ()))
              ((false, ()) = C6.post (s, ())))
          ((false, ()) = C6.post (s, ())))
        (Br (Pl.pq2 D == (0 : Int))
          (Pl.okQ2 (Pl.pq1 D) ∧
            Br ((Pl.txtQ (Pl.pq1 D)).toList == D.toList)
              (True ∧
                (Pl.okI (Pl.pq1 D).fst ∧ Pl.okZ (Pl.reR D).fst) ∧
                  Br (Pl.isB (Pl.pq1 D).fst (Pl.reR D).fst)
                    (Pl.okQ2 (Pl.pq1 D) ∧
                      (Pl.okI (Pl.dnI (Pl.pq1 D)) ∧ Pl.okZ (Pl.reR D).snd.fst) ∧
                        Br (Pl.isB (Pl.dnI (Pl.pq1 D)) (Pl.reR D).snd.fst)
                          (Pl.okQ2 (Pl.pq1 D) ∧
                            Pl.okRQ (Pl.reR D) ∧
                              Br (Pl.sgQ (Pl.pq1 D) == Pl.sqR (Pl.reR D))
                                (Pl.okQ2 (Pl.pq1 D) ∧
                                  (Pl.rg64 (0 : Int) ∧ Pl.rg64 (1 : Int) ∧ (1 : Int) ≠ (0 : Int)) ∧
                                    (Pl.okRQ (Pl.frR (0 : Int) (1 : Int)) ∧ Pl.okRQ (Pl.reR D)) ∧
                                      (Pl.okQ2 (Pl.ngQ (Pl.pq1 D)) ∧
                                          Pl.okRQ (Pl.mqR (Pl.frR (0 : Int) (1 : Int)) (Pl.reR D))) ∧
                                        Br (Pl.eqB (Pl.ngQ (Pl.pq1 D)) (Pl.mqR (Pl.frR (0 : Int) (1 : Int)) (Pl.reR D)))
                                          (True ∧ (true, ()) = C6.post (s, ())) ((false, ()) = C6.post (s, ())))
                                ((false, ()) = C6.post (s, ())))
                          ((false, ()) = C6.post (s, ())))
                    ((false, ()) = C6.post (s, ())))
              ((false, ()) = C6.post (s, ())))
          ((false, ()) = C6.post (s, ()))) := by
  refine ⟨by omega, by omega, Br_of (fun h => ?_) (fun h => ?_)⟩
  · have hv : rdV (bl D) = false := by have : rvS D = false := by simpa using h
                                       exact this
    have p1 : pq1 D = mkQ 0 := by unfold pq1; rw [hv]; rfl
    have p2 : pq2 D = 10 := by unfold pq2; rw [hv]; rfl
    rw [p1, p2]
    exact Br_t rfl ⟨qb_okQ2 qb_0 (by decide), Br_t zero_txtQ ⟨trivial, rfl⟩⟩
  · obtain ⟨r, e1, e2, e3, hb, htx⟩ := read_ok (not_t h) hD (by decide) (by decide)
    have tx : ((txtQ (mkQ r)).toList == D.toList) = true := by rw [txtQ_mk, ba_toList, bl_ba, htx]; exact decide_eq_true rfl
    have i1 : isB (mkQ r).1 (mkRQ r).1 = true := by
      show isB (mkI r.num) (mkR r.num) = true
      rw [isB_mk]; exact decide_eq_true rfl
    have i2 : isB (mkI (r.den : Int)) (mkRQ r).2.1 = true := by
      show isB _ (mkR (r.den : Int)) = true
      rw [isB_mk]; exact decide_eq_true rfl
    have sg : (sgQ (mkQ r) == sqR (mkRQ r)) = true := by rw [sgQ_mk, sqR_mk]; simp
    have z0 : (0 : Rat) - r = -r := by rw [Rat.sub_eq_add_neg, Rat.zero_add]
    have nb := qb_neg hb
    have o2 := qb_okQ2 hb (by decide)
    have orq := qb_okRQ hb (by decide)
    rw [e1, e2, e3, dnI_mk, ngQ_mk, frR_01, mqR_mk, z0, eqB_mk']
    refine Br_t rfl ⟨o2, Br_t tx ⟨trivial, ⟨o2.1, orq.1⟩, Br_t i1 ⟨o2, ⟨tb_okI hb.2 (by decide), orq.2.1⟩, Br_t i2 ⟨o2, orq, Br_t sg ⟨o2, ⟨⟨by decide, by decide⟩, rg64_1, by decide⟩, ⟨qb_okRQ qb_0 (by decide), orq⟩, ⟨qb_okQ2 nb (by decide), qb_okRQ nb (by decide)⟩, Br_t (decide_eq_true rfl) ⟨trivial, rfl⟩⟩⟩⟩⟩⟩
theorem vc6 : ∀ x, C6.pre x → VC TL H0 Tryz.f6 C6 x := by
  rintro ⟨(s : ByteArray), ⟨⟩⟩ (hs : sz s)
  refine cast (α := let v1 := s.extract (Int.toNat (0 : Int)) (Int.toNat (1000 : Int)); Br (decide ((↑s.size : Int) > (1000 : Int))) ((0 : Int) ≤ (1000 : Int) ∧ (1000 : Int) ≤ (↑s.size : Int) ∧ v1.size ≤ (1100000 : Nat) ∧ v1.size ≤ (1100000 : Nat) ∧ Br (!Pl.rvS v1) (Br (Pl.pq2 v1 == (10 : Int)) (Pl.okQ2 (Pl.pq1 v1) ∧ Br ((Pl.txtQ (Pl.pq1 v1)).toList == (ByteArray.mk #[(48 : UInt8)]).toList) (True ∧ (true, ()) = C6.post (s, ())) ((false, ()) = C6.post (s, ()))) ((false, ()) = C6.post (s, ()))) (Br (Pl.pq2 v1 == (0 : Int)) (Pl.okQ2 (Pl.pq1 v1) ∧ Br ((Pl.txtQ (Pl.pq1 v1)).toList == v1.toList) (True ∧ (Pl.okI (Pl.pq1 v1).fst ∧ Pl.okZ (Pl.reR v1).fst) ∧ Br (Pl.isB (Pl.pq1 v1).fst (Pl.reR v1).fst) (Pl.okQ2 (Pl.pq1 v1) ∧ (Pl.okI (Pl.dnI (Pl.pq1 v1)) ∧ Pl.okZ (Pl.reR v1).snd.fst) ∧ Br (Pl.isB (Pl.dnI (Pl.pq1 v1)) (Pl.reR v1).snd.fst) (Pl.okQ2 (Pl.pq1 v1) ∧ Pl.okRQ (Pl.reR v1) ∧ Br (Pl.sgQ (Pl.pq1 v1) == Pl.sqR (Pl.reR v1)) (Pl.okQ2 (Pl.pq1 v1) ∧ (Pl.rg64 (0 : Int) ∧ Pl.rg64 (1 : Int) ∧ (1 : Int) ≠ (0 : Int)) ∧ (Pl.okRQ (Pl.frR (0 : Int) (1 : Int)) ∧ Pl.okRQ (Pl.reR v1)) ∧ (Pl.okQ2 (Pl.ngQ (Pl.pq1 v1)) ∧ Pl.okRQ (Pl.mqR (Pl.frR (0 : Int) (1 : Int)) (Pl.reR v1))) ∧ Br (Pl.eqB (Pl.ngQ (Pl.pq1 v1)) (Pl.mqR (Pl.frR (0 : Int) (1 : Int)) (Pl.reR v1))) (True ∧ (true, ()) = C6.post (s, ())) ((false, ()) = C6.post (s, ()))) ((false, ()) = C6.post (s, ()))) ((false, ()) = C6.post (s, ()))) ((false, ()) = C6.post (s, ()))) ((false, ()) = C6.post (s, ()))) ((false, ()) = C6.post (s, ())))) (s.size ≤ (1100000 : Nat) ∧ s.size ≤ (1100000 : Nat) ∧ Br (!Pl.rvS s) (Br (Pl.pq2 s == (10 : Int)) (Pl.okQ2 (Pl.pq1 s) ∧ Br ((Pl.txtQ (Pl.pq1 s)).toList == (ByteArray.mk #[(48 : UInt8)]).toList) (True ∧ (true, ()) = C6.post (s, ())) ((false, ()) = C6.post (s, ()))) ((false, ()) = C6.post (s, ()))) (Br (Pl.pq2 s == (0 : Int)) (Pl.okQ2 (Pl.pq1 s) ∧ Br ((Pl.txtQ (Pl.pq1 s)).toList == s.toList) (True ∧ (Pl.okI (Pl.pq1 s).fst ∧ Pl.okZ (Pl.reR s).fst) ∧ Br (Pl.isB (Pl.pq1 s).fst (Pl.reR s).fst) (Pl.okQ2 (Pl.pq1 s) ∧ (Pl.okI (Pl.dnI (Pl.pq1 s)) ∧ Pl.okZ (Pl.reR s).snd.fst) ∧ Br (Pl.isB (Pl.dnI (Pl.pq1 s)) (Pl.reR s).snd.fst) (Pl.okQ2 (Pl.pq1 s) ∧ Pl.okRQ (Pl.reR s) ∧ Br (Pl.sgQ (Pl.pq1 s) == Pl.sqR (Pl.reR s)) (Pl.okQ2 (Pl.pq1 s) ∧ (Pl.rg64 (0 : Int) ∧ Pl.rg64 (1 : Int) ∧ (1 : Int) ≠ (0 : Int)) ∧ (Pl.okRQ (Pl.frR (0 : Int) (1 : Int)) ∧ Pl.okRQ (Pl.reR s)) ∧ (Pl.okQ2 (Pl.ngQ (Pl.pq1 s)) ∧ Pl.okRQ (Pl.mqR (Pl.frR (0 : Int) (1 : Int)) (Pl.reR s))) ∧ Br (Pl.eqB (Pl.ngQ (Pl.pq1 s)) (Pl.mqR (Pl.frR (0 : Int) (1 : Int)) (Pl.reR s))) (True ∧ (true, ()) = C6.post (s, ())) ((false, ()) = C6.post (s, ()))) ((false, ()) = C6.post (s, ()))) ((false, ()) = C6.post (s, ()))) ((false, ()) = C6.post (s, ()))) ((false, ()) = C6.post (s, ()))) ((false, ()) = C6.post (s, ()))))) (by kernel_rfl) ?_
  intro v1
  have hv : bl v1 = (bl s).take 1000 := ext0
  have hl : v1.size ≤ 1000 := by rw [size_bl, hv, List.length_take]; omega
  exact Br_of (fun h => ⟨by decide, by have := of_decide_eq_true h; omega, tail6 hl⟩) (fun h => tail6 (by have := of_decide_eq_false h; omega))

end Ta
end
