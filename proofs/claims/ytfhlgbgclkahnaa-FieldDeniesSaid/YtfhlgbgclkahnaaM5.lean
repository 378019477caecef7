import Derived.Test.YtfhlgbgclkahnaaM4
section
/- Rows: exchanged, multiplied, taken from each other. -/
set_option linter.unusedVariables false
set_option linter.unusedSimpArgs false
set_option maxRecDepth 100000
namespace Fd
open Go Fw Go.Proofs

theorem put_put (h : Hp) (s s' : MS) : s'.put (s.put h) = s'.put h := by
  funext id
  rw [put_eq, put_eq, put_eq]
  split
  · rfl
  · split
    · rfl
    · split <;> rfl
theorem mset_at {α : Type} {ms : List (Option (List α))} {j : Nat} {xs : List α} (hm : mal ms j) (h0 : 0 < j) : mal (mset ms j xs) j ∧ mrow (mset ms j xs) j = xs := by
  cases j with
  | zero => omega
  | succ j =>
    obtain ⟨ys, hy⟩ := hm
    have hl : j < ms.length := (List.getElem?_eq_some_iff.1 hy).1
    refine ⟨⟨xs, ?_⟩, ?_⟩
    · show (ms.set j (some xs))[j]? = _
      rw [List.getElem?_set, if_pos rfl, if_pos hl]
    · show ((ms.set j (some xs)).getD j none).getD [] = xs
      rw [List.getD_eq_getElem?_getD, List.getElem?_set, if_pos rfl, if_pos hl]; rfl
theorem mset_twice {α : Type} (ms : List (Option (List α))) (j : Nat) (xs ys : List α) : mset (mset ms j xs) j ys = mset ms j ys := by
  cases j with
  | zero => rfl
  | succ j => show (ms.set j (some xs)).set j (some ys) = ms.set j (some ys); rw [List.set_set]
theorem mrow_pos {α : Type} {ms : List (Option (List α))} {j : Nat} {i : Int} (h0 : 0 ≤ i) (h : i < ((mrow ms j).length : Int)) : 0 < j := by
  cases j with
  | zero => have : (mrow ms 0).length = 0 := rfl; omega
  | succ j => omega

/-- The first j numbers changed. -/
def Pl.upto (f : Int → Int) (j : Nat) (l : List Int) : List Int := (l.take j).map f ++ l.drop j
theorem upto_len (f : Int → Int) (j : Nat) (l : List Int) : (Pl.upto f j l).length = l.length := by
  unfold Pl.upto; rw [List.length_append, List.length_map, List.length_take, List.length_drop]; omega
theorem upto_get (f : Int → Int) {j : Nat} {l : List Int} (h : j < l.length) : (Pl.upto f j l).getD j 0 = l.getD j 0 := by
  unfold Pl.upto
  rw [List.getD_eq_getElem?_getD, List.getElem?_append_right (by simp; omega), List.getElem?_drop, List.getD_eq_getElem?_getD]
  congr 2
  simp
  omega
theorem upto_set (f : Int → Int) {j : Nat} {l : List Int} (h : j < l.length) : (Pl.upto f j l).set j (f (l.getD j 0)) = Pl.upto f (j + 1) l := by
  refine List.ext_getElem? fun i => ?_
  rw [List.getElem?_set, upto_len]
  unfold Pl.upto
  rw [List.getElem?_append, List.getElem?_append]
  simp only [List.length_map, List.length_take, List.getElem?_map, List.getElem?_take, List.getElem?_drop]
  have e1 : min j l.length = j := by omega
  have e2 : min (j + 1) l.length = j + 1 := by omega
  rw [e1, e2]
  by_cases e : j = i
  · subst e
    rw [if_pos rfl, if_pos h, if_pos (by omega), if_pos (by omega), List.getElem?_eq_getElem h, List.getD_eq_getElem?_getD, List.getElem?_eq_getElem h]
    rfl
  · rw [if_neg e]
    by_cases e3 : i < j
    · have e4 : i < j + 1 := by omega
      simp only [if_pos e3, if_pos e4]
    · rw [if_neg e3, if_neg (by omega)]
      congr 1
      omega
theorem upto_0 (f : Int → Int) (l : List Int) : Pl.upto f 0 l = l := by unfold Pl.upto; simp
theorem upto_all (f : Int → Int) (l : List Int) : Pl.upto f l.length l = l.map f := by unfold Pl.upto; simp
theorem mset_self {α : Type} {ms : List (Option (List α))} {j : Nat} (h : mal ms j) : mset ms j (mrow ms j) = ms := by
  cases j with
  | zero => rfl
  | succ j =>
    obtain ⟨ys, hy⟩ := h
    show ms.set j (some ((ms.getD j none).getD [])) = ms
    rw [List.getD_eq_getElem?_getD, hy]
    refine List.ext_getElem? fun i => ?_
    rw [List.getElem?_set]
    split
    · rename_i e; subst e; rw [if_pos (List.getElem?_eq_some_iff.1 hy).1, hy]; rfl
    · rfl

theorem okA_M {v : D} (h : Pl.okA v) : Pl.okM v := by
  obtain ⟨q, hq, rfl⟩ := h
  exact ⟨q, hq, .inl rfl⟩
theorem vc161a : ∀ (xs : XS) (os : OS) (t1 : Nat) (d1 : D) (l1 : List D) (r1 t2 : Nat) (d2 : D) (l2 : List D) (r2 : Nat) (h : Hp) (i k : Int), Pl.preS os r1 i k →
    VCP T161 H0 Try.f161 pt161 [.bptr 1 1 0, .d (.int .i64 i), .d (.int .i64 k)] ((MS.mk xs os t1 d1 l1 r1 t2 d2 l2 r2).put h) (.tup []) (put2 ((MS.mk xs os t1 d1 l1 r1 t2 d2 l2 r2).put h) (MS.mk xs (Pl.swO os r1 i k) t1 d1 l1 r1 t2 d2 l2 r2)) := by
  rintro xs os t1 d1 l1 r1 t2 d2 l2 r2 h i k ⟨hm, ⟨i0, i1⟩, k0, k1⟩
  refine cast (α := mal os r1 ∧ (0 : Int) ≤ k ∧ k < (↑(mrow os r1).length : Int) ∧ mal os r1 ∧ (0 : Int) ≤ k ∧ k < (↑(mrow os r1).length : Int) ∧ mal os r1 ∧ (0 : Int) ≤ i ∧ i < (↑(mrow os r1).length : Int) ∧ mal os r1 ∧ (0 : Int) ≤ i ∧ i < (↑(mrow os r1).length : Int) ∧ mal os r1 ∧ (0 : Int) ≤ i ∧ i < (↑(mrow os r1).length : Int) ∧ mal os r1 ∧ (0 : Int) ≤ i ∧ i < (↑(mrow os r1).length : Int) ∧ mal (mset os r1 ((mrow os r1).set i.toNat (rd (Ty.ref (0 : Nat)) (mrow os r1) k))) r1 ∧ (0 : Int) ≤ k ∧ k < (↑(mrow (mset os r1 ((mrow os r1).set i.toNat (rd (Ty.ref (0 : Nat)) (mrow os r1) k))) r1).length : Int) ∧ mal (mset os r1 ((mrow os r1).set i.toNat (rd (Ty.ref (0 : Nat)) (mrow os r1) k))) r1 ∧ (0 : Int) ≤ k ∧ k < (↑(mrow (mset os r1 ((mrow os r1).set i.toNat (rd (Ty.ref (0 : Nat)) (mrow os r1) k))) r1).length : Int) ∧ True ∧ mset (mset os r1 ((mrow os r1).set i.toNat (rd (Ty.ref (0 : Nat)) (mrow os r1) k))) r1 ((mrow (mset os r1 ((mrow os r1).set i.toNat (rd (Ty.ref (0 : Nat)) (mrow os r1) k))) r1).set k.toNat (rd (Ty.ref (0 : Nat)) (mrow os r1) i)) = Pl.swO os r1 i k ∧ True) (by kernel_rfl) ?_
  have hp := mrow_pos i0 i1
  have hs := fun ys => mset_at (xs := ys) hm hp
  refine ⟨hm, k0, k1, hm, k0, k1, hm, i0, i1, hm, i0, i1, hm, i0, i1, hm, i0, i1, (hs _).1, k0, ?_, (hs _).1, k0, ?_, trivial, ?_, trivial⟩
  · rw [(hs _).2, List.length_set]; exact k1
  · rw [(hs _).2, List.length_set]; exact k1
  · rw [mset_twice, (hs _).2]; rfl
theorem vc161b : ∀ (xs : XS) (os : OS) (t1 : Nat) (d1 : D) (l1 : List D) (r1 t2 : Nat) (d2 : D) (l2 : List D) (r2 : Nat) (h : Hp) (i k : Int), Pl.preS os r2 i k →
    VCP T161 H0 Try.f161 pt161 [.bptr 1 1 2, .d (.int .i64 i), .d (.int .i64 k)] ((MS.mk xs os t1 d1 l1 r1 t2 d2 l2 r2).put h) (.tup []) (put2 ((MS.mk xs os t1 d1 l1 r1 t2 d2 l2 r2).put h) (MS.mk xs (Pl.swO os r2 i k) t1 d1 l1 r1 t2 d2 l2 r2)) := by
  rintro xs os t1 d1 l1 r1 t2 d2 l2 r2 h i k ⟨hm, ⟨i0, i1⟩, k0, k1⟩
  refine cast (α := mal os r2 ∧ (0 : Int) ≤ k ∧ k < (↑(mrow os r2).length : Int) ∧ mal os r2 ∧ (0 : Int) ≤ k ∧ k < (↑(mrow os r2).length : Int) ∧ mal os r2 ∧ (0 : Int) ≤ i ∧ i < (↑(mrow os r2).length : Int) ∧ mal os r2 ∧ (0 : Int) ≤ i ∧ i < (↑(mrow os r2).length : Int) ∧ mal os r2 ∧ (0 : Int) ≤ i ∧ i < (↑(mrow os r2).length : Int) ∧ mal os r2 ∧ (0 : Int) ≤ i ∧ i < (↑(mrow os r2).length : Int) ∧ mal (mset os r2 ((mrow os r2).set i.toNat (rd (Ty.ref (0 : Nat)) (mrow os r2) k))) r2 ∧ (0 : Int) ≤ k ∧ k < (↑(mrow (mset os r2 ((mrow os r2).set i.toNat (rd (Ty.ref (0 : Nat)) (mrow os r2) k))) r2).length : Int) ∧ mal (mset os r2 ((mrow os r2).set i.toNat (rd (Ty.ref (0 : Nat)) (mrow os r2) k))) r2 ∧ (0 : Int) ≤ k ∧ k < (↑(mrow (mset os r2 ((mrow os r2).set i.toNat (rd (Ty.ref (0 : Nat)) (mrow os r2) k))) r2).length : Int) ∧ True ∧ mset (mset os r2 ((mrow os r2).set i.toNat (rd (Ty.ref (0 : Nat)) (mrow os r2) k))) r2 ((mrow (mset os r2 ((mrow os r2).set i.toNat (rd (Ty.ref (0 : Nat)) (mrow os r2) k))) r2).set k.toNat (rd (Ty.ref (0 : Nat)) (mrow os r2) i)) = Pl.swO os r2 i k ∧ True) (by kernel_rfl) ?_
  have hp := mrow_pos i0 i1
  have hs := fun ys => mset_at (xs := ys) hm hp
  refine ⟨hm, k0, k1, hm, k0, k1, hm, i0, i1, hm, i0, i1, hm, i0, i1, hm, i0, i1, (hs _).1, k0, ?_, (hs _).1, k0, ?_, trivial, ?_, trivial⟩
  · rw [(hs _).2, List.length_set]; exact k1
  · rw [(hs _).2, List.length_set]; exact k1
  · rw [mset_twice, (hs _).2]; rfl
theorem vc162a : ∀ (xs : XS) (os : OS) (t1 : Nat) (d1 : D) (l1 : List D) (r1 t2 : Nat) (d2 : D) (l2 : List D) (r2 : Nat) (h : Hp) (i c : Int), Pl.preL (.iface t1 d1) xs os r1 i c →
    VCP T162 H162 Try.f162 pt162 [.bptr 1 1 0, .d (.int .i64 i), .d (.int .i64 c)] ((MS.mk xs os t1 d1 l1 r1 t2 d2 l2 r2).put h) (.tup []) (put0 ((MS.mk xs os t1 d1 l1 r1 t2 d2 l2 r2).put h) (MS.mk (Pl.scX (Pl.qA (.iface t1 d1)) xs os r1 i c) os t1 d1 l1 r1 t2 d2 l2 r2)) := by
  rintro xs os t1 d1 l1 r1 t2 d2 l2 r2 h i c ⟨⟨hm, i0, i1⟩, hx, ha, hc, hq, hl⟩
  refine cast (α := mal os r1 ∧ (0 : Int) ≤ i ∧ i < (↑(mrow os r1).length : Int) ∧ mal os r1 ∧ (0 : Int) ≤ i ∧ i < (↑(mrow os r1).length : Int) ∧ mal xs (rd (Ty.ref (0 : Nat)) (mrow os r1) i) ∧ ∃ (n : Nat), itl (fun (G : Int × List (Option (List Int)) × PUnit → Prop) (x : Int × List (Option (List Int)) × PUnit) => Br (decide (x.fst < (↑(mrow xs (rd (Ty.ref (0 : Nat)) (mrow os r1) i)).length : Int))) (mal x.snd.fst (rd (Ty.ref (0 : Nat)) (mrow os r1) i) ∧ (0 : Int) ≤ x.fst ∧ x.fst < (↑(mrow x.snd.fst (rd (Ty.ref (0 : Nat)) (mrow os r1) i)).length : Int) ∧ mal x.snd.fst (rd (Ty.ref (0 : Nat)) (mrow os r1) i) ∧ (0 : Int) ≤ x.fst ∧ x.fst < (↑(mrow x.snd.fst (rd (Ty.ref (0 : Nat)) (mrow os r1) i)).length : Int) ∧ mal os r1 ∧ (0 : Int) ≤ i ∧ i < (↑(mrow os r1).length : Int) ∧ mal os r1 ∧ (0 : Int) ≤ i ∧ i < (↑(mrow os r1).length : Int) ∧ (Pl.okM (D.iface t1 d1) ∧ Pl.inQ (Pl.qA (D.iface t1 d1)) c ∧ Pl.inQ (Pl.qA (D.iface t1 d1)) (rd i64 (mrow x.snd.fst (rd (Ty.ref (0 : Nat)) (mrow os r1) i)) x.fst)) ∧ mal x.snd.fst (rd (Ty.ref (0 : Nat)) (mrow os r1) i) ∧ (0 : Int) ≤ x.fst ∧ x.fst < (↑(mrow x.snd.fst (rd (Ty.ref (0 : Nat)) (mrow os r1) i)).length : Int) ∧ mal x.snd.fst (rd (Ty.ref (0 : Nat)) (mrow os r1) i) ∧ (0 : Int) ≤ x.fst ∧ x.fst < (↑(mrow x.snd.fst (rd (Ty.ref (0 : Nat)) (mrow os r1) i)).length : Int) ∧ G (IntKind.i64.wrap (x.fst + (1 : Int)), mset x.snd.fst (rd (Ty.ref (0 : Nat)) (mrow os r1) i) ((mrow x.snd.fst (rd (Ty.ref (0 : Nat)) (mrow os r1) i)).set (Int.toNat x.fst) (Pl.mul (Pl.qA (D.iface t1 d1)) c (rd i64 (mrow x.snd.fst (rd (Ty.ref (0 : Nat)) (mrow os r1) i)) x.fst))), ())) (True ∧ x.snd.1 = Pl.scX (Pl.qA (D.iface t1 d1)) xs os r1 i c ∧ True)) n ((0 : Int), xs, ())) (by kernel_rfl) ?_
  have er : rd (Ty.ref (0 : Nat)) (mrow os r1) i = Pl.ri os r1 i := rfl
  rw [er]
  unfold Pl.scX
  have haM := okA_M ha
  generalize Pl.ri os r1 i = r at *
  generalize hrow : mrow xs r = row at *
  generalize hv : D.iface t1 d1 = v at *
  let f := Pl.mul (Pl.qA v) c
  refine ⟨hm, i0, i1, hm, i0, i1, hx, itl_rule (fun s => ∃ j : Nat, s.1 = (j : Int) ∧ j ≤ row.length ∧ s.2.1 = mset xs r (Pl.upto f j row)) (fun s => (row.length - s.1.toNat)) ⟨0, rfl, Nat.zero_le _, ?_⟩ ?_⟩
  · rw [upto_0, ← hrow]; exact (mset_self hx).symm
  · rintro ⟨j', ys, ⟨⟩⟩ G ⟨j, rfl, hj, e⟩ hG
    simp only at e
    subst e
    refine Br_of (fun hlt => ?_) (fun hlt => ?_)
    · have hlt : j < row.length := by have := of_decide_eq_true hlt; omega
      have hr0 : 0 < r := by
        cases r with
        | zero => have : (mrow xs 0).length = 0 := rfl; rw [hrow] at this; omega
        | succ r => omega
      obtain ⟨s1, s2⟩ := mset_at (xs := Pl.upto f j row) hx hr0
      have g : rd i64 (Pl.upto f j row) (j : Int) = row.getD j 0 := upto_get f hlt
      have hin : Pl.inQ (Pl.qA v) (row.getD j 0) := hq _ (by rw [List.getD_eq_getElem?_getD, List.getElem?_eq_getElem hlt]; exact List.getElem_mem hlt)
      simp only
      rw [s2, upto_len, g, wrap_i64 (by omega) (by omega), mset_twice]
      refine ⟨s1, by omega, by omega, s1, by omega, by omega, hm, i0, i1, hm, i0, i1, ⟨haM, hc, hin⟩, s1, by omega, by omega, s1, by omega, by omega, hG _ ⟨j + 1, by simp, hlt, ?_⟩ (by simp; omega)⟩
      rw [← upto_set f hlt]; rfl
    · have hge : j = row.length := by have := of_decide_eq_false hlt; omega
      subst hge
      rw [upto_all]
      exact ⟨trivial, rfl, trivial⟩
theorem vc162b : ∀ (xs : XS) (os : OS) (t1 : Nat) (d1 : D) (l1 : List D) (r1 t2 : Nat) (d2 : D) (l2 : List D) (r2 : Nat) (h : Hp) (i c : Int), Pl.preL (.iface t2 d2) xs os r2 i c →
    VCP T162 H162 Try.f162 pt162 [.bptr 1 1 2, .d (.int .i64 i), .d (.int .i64 c)] ((MS.mk xs os t1 d1 l1 r1 t2 d2 l2 r2).put h) (.tup []) (put0 ((MS.mk xs os t1 d1 l1 r1 t2 d2 l2 r2).put h) (MS.mk (Pl.scX (Pl.qA (.iface t2 d2)) xs os r2 i c) os t1 d1 l1 r1 t2 d2 l2 r2)) := by
  rintro xs os t1 d1 l1 r1 t2 d2 l2 r2 h i c ⟨⟨hm, i0, i1⟩, hx, ha, hc, hq, hl⟩
  refine cast (α := mal os r2 ∧ (0 : Int) ≤ i ∧ i < (↑(mrow os r2).length : Int) ∧ mal os r2 ∧ (0 : Int) ≤ i ∧ i < (↑(mrow os r2).length : Int) ∧ mal xs (rd (Ty.ref (0 : Nat)) (mrow os r2) i) ∧ ∃ (n : Nat), itl (fun (G : Int × List (Option (List Int)) × PUnit → Prop) (x : Int × List (Option (List Int)) × PUnit) => Br (decide (x.fst < (↑(mrow xs (rd (Ty.ref (0 : Nat)) (mrow os r2) i)).length : Int))) (mal x.snd.fst (rd (Ty.ref (0 : Nat)) (mrow os r2) i) ∧ (0 : Int) ≤ x.fst ∧ x.fst < (↑(mrow x.snd.fst (rd (Ty.ref (0 : Nat)) (mrow os r2) i)).length : Int) ∧ mal x.snd.fst (rd (Ty.ref (0 : Nat)) (mrow os r2) i) ∧ (0 : Int) ≤ x.fst ∧ x.fst < (↑(mrow x.snd.fst (rd (Ty.ref (0 : Nat)) (mrow os r2) i)).length : Int) ∧ mal os r2 ∧ (0 : Int) ≤ i ∧ i < (↑(mrow os r2).length : Int) ∧ mal os r2 ∧ (0 : Int) ≤ i ∧ i < (↑(mrow os r2).length : Int) ∧ (Pl.okM (D.iface t2 d2) ∧ Pl.inQ (Pl.qA (D.iface t2 d2)) c ∧ Pl.inQ (Pl.qA (D.iface t2 d2)) (rd i64 (mrow x.snd.fst (rd (Ty.ref (0 : Nat)) (mrow os r2) i)) x.fst)) ∧ mal x.snd.fst (rd (Ty.ref (0 : Nat)) (mrow os r2) i) ∧ (0 : Int) ≤ x.fst ∧ x.fst < (↑(mrow x.snd.fst (rd (Ty.ref (0 : Nat)) (mrow os r2) i)).length : Int) ∧ mal x.snd.fst (rd (Ty.ref (0 : Nat)) (mrow os r2) i) ∧ (0 : Int) ≤ x.fst ∧ x.fst < (↑(mrow x.snd.fst (rd (Ty.ref (0 : Nat)) (mrow os r2) i)).length : Int) ∧ G (IntKind.i64.wrap (x.fst + (1 : Int)), mset x.snd.fst (rd (Ty.ref (0 : Nat)) (mrow os r2) i) ((mrow x.snd.fst (rd (Ty.ref (0 : Nat)) (mrow os r2) i)).set (Int.toNat x.fst) (Pl.mul (Pl.qA (D.iface t2 d2)) c (rd i64 (mrow x.snd.fst (rd (Ty.ref (0 : Nat)) (mrow os r2) i)) x.fst))), ())) (True ∧ x.snd.1 = Pl.scX (Pl.qA (D.iface t2 d2)) xs os r2 i c ∧ True)) n ((0 : Int), xs, ())) (by kernel_rfl) ?_
  have er : rd (Ty.ref (0 : Nat)) (mrow os r2) i = Pl.ri os r2 i := rfl
  rw [er]
  unfold Pl.scX
  have haM := okA_M ha
  generalize Pl.ri os r2 i = r at *
  generalize hrow : mrow xs r = row at *
  generalize hv : D.iface t2 d2 = v at *
  let f := Pl.mul (Pl.qA v) c
  refine ⟨hm, i0, i1, hm, i0, i1, hx, itl_rule (fun s => ∃ j : Nat, s.1 = (j : Int) ∧ j ≤ row.length ∧ s.2.1 = mset xs r (Pl.upto f j row)) (fun s => (row.length - s.1.toNat)) ⟨0, rfl, Nat.zero_le _, ?_⟩ ?_⟩
  · rw [upto_0, ← hrow]; exact (mset_self hx).symm
  · rintro ⟨j', ys, ⟨⟩⟩ G ⟨j, rfl, hj, e⟩ hG
    simp only at e
    subst e
    refine Br_of (fun hlt => ?_) (fun hlt => ?_)
    · have hlt : j < row.length := by have := of_decide_eq_true hlt; omega
      have hr0 : 0 < r := by
        cases r with
        | zero => have : (mrow xs 0).length = 0 := rfl; rw [hrow] at this; omega
        | succ r => omega
      obtain ⟨s1, s2⟩ := mset_at (xs := Pl.upto f j row) hx hr0
      have g : rd i64 (Pl.upto f j row) (j : Int) = row.getD j 0 := upto_get f hlt
      have hin : Pl.inQ (Pl.qA v) (row.getD j 0) := hq _ (by rw [List.getD_eq_getElem?_getD, List.getElem?_eq_getElem hlt]; exact List.getElem_mem hlt)
      simp only
      rw [s2, upto_len, g, wrap_i64 (by omega) (by omega), mset_twice]
      refine ⟨s1, by omega, by omega, s1, by omega, by omega, hm, i0, i1, hm, i0, i1, ⟨haM, hc, hin⟩, s1, by omega, by omega, s1, by omega, by omega, hG _ ⟨j + 1, by simp, hlt, ?_⟩ (by simp; omega)⟩
      rw [← upto_set f hlt]; rfl
    · have hge : j = row.length := by have := of_decide_eq_false hlt; omega
      subst hge
      rw [upto_all]
      exact ⟨trivial, rfl, trivial⟩
theorem snd161 : SoundPT Try.prog 161 pt161 := pt_sound (T := T161) (fn := Try.f161) (tokg (T := T161) trivial trivial trivial noInv noCv) Try.func161 (by kernel_rfl) H0 (fun avs h p v h' hf hp => by
  obtain ⟨s, l, s', e, rfl, rfl, e2⟩ := pt2_elim hf
  rw [e2]
  obtain ⟨xs, os, t1, d1, l1, r1, t2, d2, l2, r2⟩ := s
  unfold swapF at e
  split at e
  · rename_i i k
    injection e with e
    injection e with e1 e3
    injection e3 with e3 e4
    subst e1 e3 e4
    exact vc161a xs os t1 d1 l1 r1 t2 d2 l2 r2 h i k hp
  · rename_i i k
    injection e with e
    injection e with e1 e3
    injection e3 with e3 e4
    subst e1 e3 e4
    exact vc161b xs os t1 d1 l1 r1 t2 d2 l2 r2 h i k hp
  · cases e) (by kernel_rfl)
theorem snd162 : SoundPT Try.prog 162 pt162 := pt_sound (T := T162) (fn := Try.f162) (tokg (T := T162) trivial trivial trivial invsV noCv) Try.func162 (by kernel_rfl) H162 (fun avs h p v h' hf hp => by
  obtain ⟨s, l, s', e, rfl, rfl, e2⟩ := pt0_elim hf
  rw [e2]
  obtain ⟨xs, os, t1, d1, l1, r1, t2, d2, l2, r2⟩ := s
  unfold scaleF at e
  split at e
  · rename_i i c
    injection e with e
    injection e with e1 e3
    injection e3 with e3 e4
    subst e1 e3 e4
    exact vc162a xs os t1 d1 l1 r1 t2 d2 l2 r2 h i c hp
  · rename_i i c
    injection e with e
    injection e with e1 e3
    injection e3 with e3 e4
    subst e1 e3 e4
    exact vc162b xs os t1 d1 l1 r1 t2 d2 l2 r2 h i c hp
  · cases e) (by kernel_rfl)
end Fd
end
section
/- A row less a multiple of another one; records. -/
set_option linter.unusedVariables false
set_option linter.unusedSimpArgs false
set_option maxRecDepth 100000
namespace Fd
open Go Fw Go.Proofs

theorem mset_other {α : Type} {ms : List (Option (List α))} {j k : Nat} {xs : List α} (h : j ≠ k) : (mal (mset ms j xs) k ↔ mal ms k) ∧ mrow (mset ms j xs) k = mrow ms k := by
  cases j with
  | zero => exact ⟨Iff.rfl, rfl⟩
  | succ j =>
    cases k with
    | zero => exact ⟨Iff.rfl, rfl⟩
    | succ k =>
      have e : (ms.set j (some xs))[k]? = ms[k]? := by rw [List.getElem?_set, if_neg (by omega)]
      refine ⟨?_, ?_⟩
      · show (∃ x, (ms.set j (some xs))[k]? = _) ↔ ∃ x, ms[k]? = _
        rw [e]
      · show ((ms.set j (some xs)).getD k none).getD [] = (ms.getD k none).getD []
        rw [List.getD_eq_getElem?_getD, List.getD_eq_getElem?_getD, e]
theorem mset_len {α : Type} (ms : List (Option (List α))) (j : Nat) (xs : List α) : (mset ms j xs).length = ms.length := by
  cases j with
  | zero => rfl
  | succ j => show (ms.set j (some xs)).length = _; rw [List.length_set]
/-- The first j numbers changed, by place. -/
def Pl.upI (g : Nat → Int) (j : Nat) (l : List Int) : List Int := (List.range j).map g ++ l.drop j
theorem upI_len (g : Nat → Int) {j : Nat} {l : List Int} (h : j ≤ l.length) : (Pl.upI g j l).length = l.length := by
  unfold Pl.upI; rw [List.length_append, List.length_map, List.length_range, List.length_drop]; omega
theorem upI_get (g : Nat → Int) {j : Nat} {l : List Int} (h : j < l.length) : (Pl.upI g j l).getD j 0 = l.getD j 0 := by
  unfold Pl.upI
  rw [List.getD_eq_getElem?_getD, List.getElem?_append_right (by simp), List.getElem?_drop, List.getD_eq_getElem?_getD]
  simp
theorem upI_set (g : Nat → Int) {j : Nat} {l : List Int} (h : j < l.length) : (Pl.upI g j l).set j (g j) = Pl.upI g (j + 1) l := by
  refine List.ext_getElem? fun i => ?_
  rw [List.getElem?_set, upI_len g (by omega)]
  unfold Pl.upI
  rw [List.getElem?_append, List.getElem?_append]
  simp only [List.length_map, List.length_range, List.getElem?_map, List.getElem?_drop]
  by_cases e : j = i
  · subst e
    rw [if_pos rfl, if_pos h, if_pos (by omega), List.getElem?_range (by omega)]
    rfl
  · rw [if_neg e]
    by_cases e3 : i < j
    · rw [if_pos e3, if_pos (by omega), List.getElem?_range (by omega), List.getElem?_range (by omega)]
    · rw [if_neg e3, if_neg (by omega)]
      congr 1
      omega
theorem upI_0 (g : Nat → Int) (l : List Int) : Pl.upI g 0 l = l := by unfold Pl.upI; simp
theorem upI_tkl {q c : Int} {x y : List Int} (h : y.length = x.length) : Pl.upI (fun j => Pl.sub q (x.getD j 0) (Pl.mul q c (y.getD j 0))) x.length x = Pl.tkl q c x y := by
  unfold Pl.upI Pl.tkl
  rw [List.drop_length, List.append_nil]
  refine List.ext_getElem? fun i => ?_
  rw [List.getElem?_map, List.getElem?_zipWith]
  by_cases hi : i < x.length
  · rw [List.getElem?_range hi, List.getElem?_eq_getElem hi, List.getElem?_eq_getElem (show i < y.length by omega)]
    simp only [Option.map_some, List.getD_eq_getElem?_getD, List.getElem?_eq_getElem hi, List.getElem?_eq_getElem (show i < y.length by omega), Option.getD_some]
  · rw [List.getElem?_eq_none (by simp; omega), List.getElem?_eq_none (show x.length ≤ i by omega)]
    rfl
theorem okA_q {v : D} (h : Pl.okA v) : isQ (Pl.qA v) := by
  obtain ⟨q, hq, rfl⟩ := h
  rw [qA_ar hq]; exact hq
theorem getD_inQ {q : Int} {l : List Int} (h : ∀ x ∈ l, Pl.inQ q x) {j : Nat} (hj : j < l.length) : Pl.inQ q (l.getD j 0) := h _ (by rw [List.getD_eq_getElem?_getD, List.getElem?_eq_getElem hj]; exact List.getElem_mem hj)
theorem vc163a : ∀ (xs : XS) (os : OS) (t1 : Nat) (d1 : D) (l1 : List D) (r1 t2 : Nat) (d2 : D) (l2 : List D) (r2 : Nat) (h : Hp) (i k c : Int), Pl.preT (.iface t1 d1) xs os r1 i k c →
    VCP T162 H163 Try.f163 pt163 [.bptr 1 1 0, .d (.int .i64 i), .d (.int .i64 k), .d (.int .i64 c)] ((MS.mk xs os t1 d1 l1 r1 t2 d2 l2 r2).put h) (.tup []) (put0 ((MS.mk xs os t1 d1 l1 r1 t2 d2 l2 r2).put h) (MS.mk (Pl.tkX (Pl.qA (.iface t1 d1)) xs os r1 i k c) os t1 d1 l1 r1 t2 d2 l2 r2)) := by
  rintro xs os t1 d1 l1 r1 t2 d2 l2 r2 h i k c ⟨⟨hm, ⟨i0, i1⟩, k0, k1⟩, ⟨hx, hy, hr0, hne⟩, ha, hc, ⟨hqx, hlx⟩, ⟨hqy, hly⟩, hlen⟩
  refine cast (α := mal os r1 ∧ (0 : Int) ≤ k ∧ k < (↑(mrow os r1).length : Int) ∧ mal os r1 ∧ (0 : Int) ≤ k ∧ k < (↑(mrow os r1).length : Int) ∧ mal xs (rd (Ty.ref (0 : Nat)) (mrow os r1) k) ∧ ∃ (n : Nat), itl (fun (G : Int × List (Option (List Int)) × PUnit → Prop) (x : Int × List (Option (List Int)) × PUnit) => Br (decide (x.fst < (↑(mrow xs (rd (Ty.ref (0 : Nat)) (mrow os r1) k)).length : Int))) (mal x.snd.fst (rd (Ty.ref (0 : Nat)) (mrow os r1) k) ∧ (0 : Int) ≤ x.fst ∧ x.fst < (↑(mrow x.snd.fst (rd (Ty.ref (0 : Nat)) (mrow os r1) k)).length : Int) ∧ mal x.snd.fst (rd (Ty.ref (0 : Nat)) (mrow os r1) k) ∧ (0 : Int) ≤ x.fst ∧ x.fst < (↑(mrow x.snd.fst (rd (Ty.ref (0 : Nat)) (mrow os r1) k)).length : Int) ∧ mal os r1 ∧ (0 : Int) ≤ i ∧ i < (↑(mrow os r1).length : Int) ∧ mal os r1 ∧ (0 : Int) ≤ i ∧ i < (↑(mrow os r1).length : Int) ∧ mal os r1 ∧ (0 : Int) ≤ i ∧ i < (↑(mrow os r1).length : Int) ∧ mal os r1 ∧ (0 : Int) ≤ i ∧ i < (↑(mrow os r1).length : Int) ∧ mal x.snd.fst (rd (Ty.ref (0 : Nat)) (mrow os r1) i) ∧ (0 : Int) ≤ x.fst ∧ x.fst < (↑(mrow x.snd.fst (rd (Ty.ref (0 : Nat)) (mrow os r1) i)).length : Int) ∧ mal x.snd.fst (rd (Ty.ref (0 : Nat)) (mrow os r1) i) ∧ (0 : Int) ≤ x.fst ∧ x.fst < (↑(mrow x.snd.fst (rd (Ty.ref (0 : Nat)) (mrow os r1) i)).length : Int) ∧ (Pl.okM (D.iface t1 d1) ∧ Pl.inQ (Pl.qA (D.iface t1 d1)) c ∧ Pl.inQ (Pl.qA (D.iface t1 d1)) (rd i64 (mrow x.snd.fst (rd (Ty.ref (0 : Nat)) (mrow os r1) k)) x.fst)) ∧ (Pl.okA (D.iface t1 d1) ∧ Pl.inQ (Pl.qA (D.iface t1 d1)) (rd i64 (mrow x.snd.fst (rd (Ty.ref (0 : Nat)) (mrow os r1) i)) x.fst) ∧ Pl.inQ (Pl.qA (D.iface t1 d1)) (Pl.mul (Pl.qA (D.iface t1 d1)) c (rd i64 (mrow x.snd.fst (rd (Ty.ref (0 : Nat)) (mrow os r1) k)) x.fst))) ∧ mal x.snd.fst (rd (Ty.ref (0 : Nat)) (mrow os r1) i) ∧ (0 : Int) ≤ x.fst ∧ x.fst < (↑(mrow x.snd.fst (rd (Ty.ref (0 : Nat)) (mrow os r1) i)).length : Int) ∧ mal x.snd.fst (rd (Ty.ref (0 : Nat)) (mrow os r1) i) ∧ (0 : Int) ≤ x.fst ∧ x.fst < (↑(mrow x.snd.fst (rd (Ty.ref (0 : Nat)) (mrow os r1) i)).length : Int) ∧ G (IntKind.i64.wrap (x.fst + (1 : Int)), mset x.snd.fst (rd (Ty.ref (0 : Nat)) (mrow os r1) i) ((mrow x.snd.fst (rd (Ty.ref (0 : Nat)) (mrow os r1) i)).set (Int.toNat x.fst) (Pl.sub (Pl.qA (D.iface t1 d1)) (rd i64 (mrow x.snd.fst (rd (Ty.ref (0 : Nat)) (mrow os r1) i)) x.fst) (Pl.mul (Pl.qA (D.iface t1 d1)) c (rd i64 (mrow x.snd.fst (rd (Ty.ref (0 : Nat)) (mrow os r1) k)) x.fst)))), ())) (True ∧ x.snd.1 = Pl.tkX (Pl.qA (D.iface t1 d1)) xs os r1 i k c ∧ True)) n ((0 : Int), xs, ())) (by kernel_rfl) ?_
  have er : rd (Ty.ref (0 : Nat)) (mrow os r1) i = Pl.ri os r1 i := rfl
  have ek : rd (Ty.ref (0 : Nat)) (mrow os r1) k = Pl.ri os r1 k := rfl
  rw [er, ek]
  unfold Pl.tkX
  have haM := okA_M ha
  have hQ := okA_q ha
  generalize Pl.ri os r1 i = r at *
  generalize Pl.ri os r1 k = r' at *
  generalize hrow : mrow xs r = row at *
  generalize hrow' : mrow xs r' = row' at *
  generalize hv : D.iface t1 d1 = v at *
  let g : Nat → Int := fun j => Pl.sub (Pl.qA v) (row.getD j 0) (Pl.mul (Pl.qA v) c (row'.getD j 0))
  refine ⟨hm, k0, k1, hm, k0, k1, hy, itl_rule (fun s => ∃ j : Nat, s.1 = (j : Int) ∧ j ≤ row.length ∧ s.2.1 = mset xs r (Pl.upI g j row)) (fun s => (row.length - s.1.toNat)) ⟨0, rfl, Nat.zero_le _, ?_⟩ ?_⟩
  · rw [upI_0, ← hrow]; exact (mset_self hx).symm
  · rintro ⟨j', ys, ⟨⟩⟩ G ⟨j, rfl, hj, e⟩ hG
    simp only at e
    subst e
    refine Br_of (fun hlt => ?_) (fun hlt => ?_)
    · have hlt : j < row.length := by have := of_decide_eq_true hlt; omega
      obtain ⟨s1, s2⟩ := mset_at (xs := Pl.upI g j row) hx hr0
      obtain ⟨o1, o2⟩ := mset_other (ms := xs) (xs := Pl.upI g j row) hne
      rw [hrow'] at o2
      have o1 := o1.2 hy
      have g1 : rd i64 (Pl.upI g j row) (j : Int) = row.getD j 0 := upI_get g hlt
      have g2 : rd i64 row' (j : Int) = row'.getD j 0 := rfl
      have hin := getD_inQ hqx hlt
      have hin' := getD_inQ hqy (show j < row'.length by omega)
      have hll := upI_len g hj
      simp only
      rw [s2, o2, hll, g1, g2, wrap_i64 (by omega) (by omega), mset_twice]
      refine ⟨o1, by omega, by omega, o1, by omega, by omega, hm, i0, i1, hm, i0, i1, hm, i0, i1, hm, i0, i1, s1, by omega, by omega, s1, by omega, by omega, ⟨haM, hc, hin'⟩, ⟨ha, hin, mul_inQ hQ _ _⟩, s1, by omega, by omega, s1, by omega, by omega, hG _ ⟨j + 1, by simp, hlt, ?_⟩ (by simp; omega)⟩
      rw [← upI_set g hlt]; rfl
    · have hge : j = row.length := by have := of_decide_eq_false hlt; omega
      subst hge
      rw [upI_tkl hlen]
      exact ⟨trivial, rfl, trivial⟩
theorem vc163b : ∀ (xs : XS) (os : OS) (t1 : Nat) (d1 : D) (l1 : List D) (r1 t2 : Nat) (d2 : D) (l2 : List D) (r2 : Nat) (h : Hp) (i k c : Int), Pl.preT (.iface t2 d2) xs os r2 i k c →
    VCP T162 H163 Try.f163 pt163 [.bptr 1 1 2, .d (.int .i64 i), .d (.int .i64 k), .d (.int .i64 c)] ((MS.mk xs os t1 d1 l1 r1 t2 d2 l2 r2).put h) (.tup []) (put0 ((MS.mk xs os t1 d1 l1 r1 t2 d2 l2 r2).put h) (MS.mk (Pl.tkX (Pl.qA (.iface t2 d2)) xs os r2 i k c) os t1 d1 l1 r1 t2 d2 l2 r2)) := by
  rintro xs os t1 d1 l1 r1 t2 d2 l2 r2 h i k c ⟨⟨hm, ⟨i0, i1⟩, k0, k1⟩, ⟨hx, hy, hr0, hne⟩, ha, hc, ⟨hqx, hlx⟩, ⟨hqy, hly⟩, hlen⟩
  refine cast (α := mal os r2 ∧ (0 : Int) ≤ k ∧ k < (↑(mrow os r2).length : Int) ∧ mal os r2 ∧ (0 : Int) ≤ k ∧ k < (↑(mrow os r2).length : Int) ∧ mal xs (rd (Ty.ref (0 : Nat)) (mrow os r2) k) ∧ ∃ (n : Nat), itl (fun (G : Int × List (Option (List Int)) × PUnit → Prop) (x : Int × List (Option (List Int)) × PUnit) => Br (decide (x.fst < (↑(mrow xs (rd (Ty.ref (0 : Nat)) (mrow os r2) k)).length : Int))) (mal x.snd.fst (rd (Ty.ref (0 : Nat)) (mrow os r2) k) ∧ (0 : Int) ≤ x.fst ∧ x.fst < (↑(mrow x.snd.fst (rd (Ty.ref (0 : Nat)) (mrow os r2) k)).length : Int) ∧ mal x.snd.fst (rd (Ty.ref (0 : Nat)) (mrow os r2) k) ∧ (0 : Int) ≤ x.fst ∧ x.fst < (↑(mrow x.snd.fst (rd (Ty.ref (0 : Nat)) (mrow os r2) k)).length : Int) ∧ mal os r2 ∧ (0 : Int) ≤ i ∧ i < (↑(mrow os r2).length : Int) ∧ mal os r2 ∧ (0 : Int) ≤ i ∧ i < (↑(mrow os r2).length : Int) ∧ mal os r2 ∧ (0 : Int) ≤ i ∧ i < (↑(mrow os r2).length : Int) ∧ mal os r2 ∧ (0 : Int) ≤ i ∧ i < (↑(mrow os r2).length : Int) ∧ mal x.snd.fst (rd (Ty.ref (0 : Nat)) (mrow os r2) i) ∧ (0 : Int) ≤ x.fst ∧ x.fst < (↑(mrow x.snd.fst (rd (Ty.ref (0 : Nat)) (mrow os r2) i)).length : Int) ∧ mal x.snd.fst (rd (Ty.ref (0 : Nat)) (mrow os r2) i) ∧ (0 : Int) ≤ x.fst ∧ x.fst < (↑(mrow x.snd.fst (rd (Ty.ref (0 : Nat)) (mrow os r2) i)).length : Int) ∧ (Pl.okM (D.iface t2 d2) ∧ Pl.inQ (Pl.qA (D.iface t2 d2)) c ∧ Pl.inQ (Pl.qA (D.iface t2 d2)) (rd i64 (mrow x.snd.fst (rd (Ty.ref (0 : Nat)) (mrow os r2) k)) x.fst)) ∧ (Pl.okA (D.iface t2 d2) ∧ Pl.inQ (Pl.qA (D.iface t2 d2)) (rd i64 (mrow x.snd.fst (rd (Ty.ref (0 : Nat)) (mrow os r2) i)) x.fst) ∧ Pl.inQ (Pl.qA (D.iface t2 d2)) (Pl.mul (Pl.qA (D.iface t2 d2)) c (rd i64 (mrow x.snd.fst (rd (Ty.ref (0 : Nat)) (mrow os r2) k)) x.fst))) ∧ mal x.snd.fst (rd (Ty.ref (0 : Nat)) (mrow os r2) i) ∧ (0 : Int) ≤ x.fst ∧ x.fst < (↑(mrow x.snd.fst (rd (Ty.ref (0 : Nat)) (mrow os r2) i)).length : Int) ∧ mal x.snd.fst (rd (Ty.ref (0 : Nat)) (mrow os r2) i) ∧ (0 : Int) ≤ x.fst ∧ x.fst < (↑(mrow x.snd.fst (rd (Ty.ref (0 : Nat)) (mrow os r2) i)).length : Int) ∧ G (IntKind.i64.wrap (x.fst + (1 : Int)), mset x.snd.fst (rd (Ty.ref (0 : Nat)) (mrow os r2) i) ((mrow x.snd.fst (rd (Ty.ref (0 : Nat)) (mrow os r2) i)).set (Int.toNat x.fst) (Pl.sub (Pl.qA (D.iface t2 d2)) (rd i64 (mrow x.snd.fst (rd (Ty.ref (0 : Nat)) (mrow os r2) i)) x.fst) (Pl.mul (Pl.qA (D.iface t2 d2)) c (rd i64 (mrow x.snd.fst (rd (Ty.ref (0 : Nat)) (mrow os r2) k)) x.fst)))), ())) (True ∧ x.snd.1 = Pl.tkX (Pl.qA (D.iface t2 d2)) xs os r2 i k c ∧ True)) n ((0 : Int), xs, ())) (by kernel_rfl) ?_
  have er : rd (Ty.ref (0 : Nat)) (mrow os r2) i = Pl.ri os r2 i := rfl
  have ek : rd (Ty.ref (0 : Nat)) (mrow os r2) k = Pl.ri os r2 k := rfl
  rw [er, ek]
  unfold Pl.tkX
  have haM := okA_M ha
  have hQ := okA_q ha
  generalize Pl.ri os r2 i = r at *
  generalize Pl.ri os r2 k = r' at *
  generalize hrow : mrow xs r = row at *
  generalize hrow' : mrow xs r' = row' at *
  generalize hv : D.iface t2 d2 = v at *
  let g : Nat → Int := fun j => Pl.sub (Pl.qA v) (row.getD j 0) (Pl.mul (Pl.qA v) c (row'.getD j 0))
  refine ⟨hm, k0, k1, hm, k0, k1, hy, itl_rule (fun s => ∃ j : Nat, s.1 = (j : Int) ∧ j ≤ row.length ∧ s.2.1 = mset xs r (Pl.upI g j row)) (fun s => (row.length - s.1.toNat)) ⟨0, rfl, Nat.zero_le _, ?_⟩ ?_⟩
  · rw [upI_0, ← hrow]; exact (mset_self hx).symm
  · rintro ⟨j', ys, ⟨⟩⟩ G ⟨j, rfl, hj, e⟩ hG
    simp only at e
    subst e
    refine Br_of (fun hlt => ?_) (fun hlt => ?_)
    · have hlt : j < row.length := by have := of_decide_eq_true hlt; omega
      obtain ⟨s1, s2⟩ := mset_at (xs := Pl.upI g j row) hx hr0
      obtain ⟨o1, o2⟩ := mset_other (ms := xs) (xs := Pl.upI g j row) hne
      rw [hrow'] at o2
      have o1 := o1.2 hy
      have g1 : rd i64 (Pl.upI g j row) (j : Int) = row.getD j 0 := upI_get g hlt
      have g2 : rd i64 row' (j : Int) = row'.getD j 0 := rfl
      have hin := getD_inQ hqx hlt
      have hin' := getD_inQ hqy (show j < row'.length by omega)
      have hll := upI_len g hj
      simp only
      rw [s2, o2, hll, g1, g2, wrap_i64 (by omega) (by omega), mset_twice]
      refine ⟨o1, by omega, by omega, o1, by omega, by omega, hm, i0, i1, hm, i0, i1, hm, i0, i1, hm, i0, i1, s1, by omega, by omega, s1, by omega, by omega, ⟨haM, hc, hin'⟩, ⟨ha, hin, mul_inQ hQ _ _⟩, s1, by omega, by omega, s1, by omega, by omega, hG _ ⟨j + 1, by simp, hlt, ?_⟩ (by simp; omega)⟩
      rw [← upI_set g hlt]; rfl
    · have hge : j = row.length := by have := of_decide_eq_false hlt; omega
      subst hge
      rw [upI_tkl hlen]
      exact ⟨trivial, rfl, trivial⟩
theorem snd163 : SoundPT Try.prog 163 pt163 := pt_sound (T := T162) (fn := Try.f163) (tokg (T := T162) trivial trivial trivial invsV noCv) Try.func163 (by kernel_rfl) H163 (fun avs h p v h' hf hp => by
  obtain ⟨s, l, s', e, rfl, rfl, e2⟩ := pt0_elim hf
  rw [e2]
  obtain ⟨xs, os, t1, d1, l1, r1, t2, d2, l2, r2⟩ := s
  unfold takeF at e
  split at e
  · rename_i i k c
    injection e with e
    injection e with e1 e3
    injection e3 with e3 e4
    subst e1 e3 e4
    exact vc163a xs os t1 d1 l1 r1 t2 d2 l2 r2 h i k c hp
  · rename_i i k c
    injection e with e
    injection e with e1 e3
    injection e3 with e3 e4
    subst e1 e3 e4
    exact vc163b xs os t1 d1 l1 r1 t2 d2 l2 r2 h i k c hp
  · cases e) (by kernel_rfl)
theorem vc136 : ∀ (xs : XS) (os : OS) (t1 : Nat) (d1 : D) (l1 : List D) (r1 t2 : Nat) (d2 : D) (l2 : List D) (r2 : Nat) (h : Hp) (i k : Int), (Pl.preS os r1 i k ∧ Pl.preS (Pl.swO os r1 i k) r2 i k) →
    VCP T136 (Hp1 [161]) Try.f136 pt136 [.d (.ref 1 1), .d (.int .i64 i), .d (.int .i64 k)] ((MS.mk xs os t1 d1 l1 r1 t2 d2 l2 r2).put h) (.tup []) (put2 ((MS.mk xs os t1 d1 l1 r1 t2 d2 l2 r2).put h) (MS.mk xs (Pl.swO (Pl.swO os r1 i k) r2 i k) t1 d1 l1 r1 t2 d2 l2 r2)) := by
  rintro xs os t1 d1 l1 r1 t2 d2 l2 r2 h i k hp
  refine cast (α := Pl.preS os r1 i k ∧ Pl.preS (Pl.swO os r1 i k) r2 i k ∧ True ∧ Pl.swO (Pl.swO os r1 i k) r2 i k = Pl.swO (Pl.swO os r1 i k) r2 i k ∧ True) (by kernel_rfl) ?_
  exact ⟨hp.1, hp.2, trivial, rfl, trivial⟩
theorem snd136 : SoundPT Try.prog 136 pt136 := pt_sound (T := T136) (fn := Try.f136) (tokg (T := T136) trivial ⟨snd161, trivial⟩ trivial invsV noCv) Try.func136 (by kernel_rfl) (Hp1 [161]) (fun avs h p v h' hf hp => by
  obtain ⟨s, l, s', e, rfl, rfl, e2⟩ := pt2_elim hf
  rw [e2]
  obtain ⟨xs, os, t1, d1, l1, r1, t2, d2, l2, r2⟩ := s
  unfold swap2F at e
  split at e
  · rename_i r i k
    split at e
    · have e := Option.some.inj e
      obtain ⟨e1, e3⟩ := Prod.mk.inj e
      obtain ⟨e3, e4⟩ := Prod.mk.inj e3
      subst e1 e3 e4
      exact vc136 xs os t1 d1 l1 r1 t2 d2 l2 r2 h i k hp
    · cases e
  · cases e) (by kernel_rfl)
theorem vc137 : ∀ (xs : XS) (os : OS) (t1 : Nat) (d1 : D) (l1 : List D) (r1 t2 : Nat) (d2 : D) (l2 : List D) (r2 : Nat) (h : Hp) (i c : Int), (Pl.preL (.iface t1 d1) xs os r1 i c ∧ Pl.preL (.iface t2 d2) (Pl.scX (Pl.qA (.iface t1 d1)) xs os r1 i c) os r2 i c) →
    VCP T137 (Hp1 [162]) Try.f137 pt137 [.d (.ref 1 1), .d (.int .i64 i), .d (.int .i64 c)] ((MS.mk xs os t1 d1 l1 r1 t2 d2 l2 r2).put h) (.tup []) (put0 ((MS.mk xs os t1 d1 l1 r1 t2 d2 l2 r2).put h) (MS.mk (Pl.scX (Pl.qA (.iface t2 d2)) (Pl.scX (Pl.qA (.iface t1 d1)) xs os r1 i c) os r2 i c) os t1 d1 l1 r1 t2 d2 l2 r2)) := by
  rintro xs os t1 d1 l1 r1 t2 d2 l2 r2 h i c hp
  refine cast (α := Pl.preL (D.iface t1 d1) xs os r1 i c ∧ Pl.preL (D.iface t2 d2) (Pl.scX (Pl.qA (D.iface t1 d1)) xs os r1 i c) os r2 i c ∧ True ∧ Pl.scX (Pl.qA (D.iface t2 d2)) (Pl.scX (Pl.qA (D.iface t1 d1)) xs os r1 i c) os r2 i c = Pl.scX (Pl.qA (D.iface t2 d2)) (Pl.scX (Pl.qA (D.iface t1 d1)) xs os r1 i c) os r2 i c ∧ True) (by kernel_rfl) ?_
  exact ⟨hp.1, hp.2, trivial, rfl, trivial⟩
theorem snd137 : SoundPT Try.prog 137 pt137 := pt_sound (T := T137) (fn := Try.f137) (tokg (T := T137) trivial ⟨snd162, trivial⟩ trivial invsV noCv) Try.func137 (by kernel_rfl) (Hp1 [162]) (fun avs h p v h' hf hp => by
  obtain ⟨s, l, s', e, rfl, rfl, e2⟩ := pt0_elim hf
  rw [e2]
  obtain ⟨xs, os, t1, d1, l1, r1, t2, d2, l2, r2⟩ := s
  unfold scale2F at e
  split at e
  · rename_i r i c
    split at e
    · have e := Option.some.inj e
      obtain ⟨e1, e3⟩ := Prod.mk.inj e
      obtain ⟨e3, e4⟩ := Prod.mk.inj e3
      subst e1 e3 e4
      exact vc137 xs os t1 d1 l1 r1 t2 d2 l2 r2 h i c hp
    · cases e
  · cases e) (by kernel_rfl)
theorem vc138 : ∀ (xs : XS) (os : OS) (t1 : Nat) (d1 : D) (l1 : List D) (r1 t2 : Nat) (d2 : D) (l2 : List D) (r2 : Nat) (h : Hp) (i k c : Int), (Pl.preT (.iface t1 d1) xs os r1 i k c ∧ Pl.preT (.iface t2 d2) (Pl.tkX (Pl.qA (.iface t1 d1)) xs os r1 i k c) os r2 i k c) →
    VCP T138 (Hp1 [163]) Try.f138 pt138 [.d (.ref 1 1), .d (.int .i64 i), .d (.int .i64 k), .d (.int .i64 c)] ((MS.mk xs os t1 d1 l1 r1 t2 d2 l2 r2).put h) (.tup []) (put0 ((MS.mk xs os t1 d1 l1 r1 t2 d2 l2 r2).put h) (MS.mk (Pl.tkX (Pl.qA (.iface t2 d2)) (Pl.tkX (Pl.qA (.iface t1 d1)) xs os r1 i k c) os r2 i k c) os t1 d1 l1 r1 t2 d2 l2 r2)) := by
  rintro xs os t1 d1 l1 r1 t2 d2 l2 r2 h i k c hp
  refine cast (α := Pl.preT (D.iface t1 d1) xs os r1 i k c ∧ Pl.preT (D.iface t2 d2) (Pl.tkX (Pl.qA (D.iface t1 d1)) xs os r1 i k c) os r2 i k c ∧ True ∧ Pl.tkX (Pl.qA (D.iface t2 d2)) (Pl.tkX (Pl.qA (D.iface t1 d1)) xs os r1 i k c) os r2 i k c = Pl.tkX (Pl.qA (D.iface t2 d2)) (Pl.tkX (Pl.qA (D.iface t1 d1)) xs os r1 i k c) os r2 i k c ∧ True) (by kernel_rfl) ?_
  exact ⟨hp.1, hp.2, trivial, rfl, trivial⟩
theorem snd138 : SoundPT Try.prog 138 pt138 := pt_sound (T := T138) (fn := Try.f138) (tokg (T := T138) trivial ⟨snd163, trivial⟩ trivial invsV noCv) Try.func138 (by kernel_rfl) (Hp1 [163]) (fun avs h p v h' hf hp => by
  obtain ⟨s, l, s', e, rfl, rfl, e2⟩ := pt0_elim hf
  rw [e2]
  obtain ⟨xs, os, t1, d1, l1, r1, t2, d2, l2, r2⟩ := s
  unfold take2F at e
  split at e
  · rename_i r i k c
    split at e
    · have e := Option.some.inj e
      obtain ⟨e1, e3⟩ := Prod.mk.inj e
      obtain ⟨e3, e4⟩ := Prod.mk.inj e3
      subst e1 e3 e4
      exact vc138 xs os t1 d1 l1 r1 t2 d2 l2 r2 h i k c hp
    · cases e
  · cases e) (by kernel_rfl)
end Fd
end
section
/- The echelon form of a record: what it is. -/
set_option linter.unusedVariables false
set_option linter.unusedSimpArgs false
set_option maxRecDepth 100000
namespace Fd
open Go Fw Go.Proofs

abbrev XO := XS × OS
def Pl.len (os : OS) (r : Nat) : Nat := (mrow os r).length
def Pl.ent (xs : XS) (os : OS) (r : Nat) (i col : Int) : Int := (mrow xs (Pl.ri os r i)).getD col.toNat 0
/-- The first row from k on whose number in a column is not 0. -/
def Pl.kf (xs : XS) (os : OS) (r : Nat) (col : Int) : Nat → Int → Int
  | 0, k => k
  | f + 1, k => bif decide (k < (Pl.len os r : Int)) && decide (Pl.ent xs os r k col = 0) then Pl.kf xs os r col f (k + 1) else k
def Pl.elim1 (q : Int) (r1 r2 : Nat) (os : OS) (at_ col i : Int) (xs : XS) : XS :=
  bif decide (i ≠ at_) && decide (Pl.ent xs os r1 i col ≠ 0) then Pl.tkX q (Pl.tkX q xs os r1 i at_ (Pl.ent xs os r1 i col)) os r2 i at_ (Pl.ent xs os r1 i col) else xs
def Pl.elim (q : Int) (r1 r2 : Nat) (os : OS) (at_ col : Int) : Nat → XS → XS
  | 0, xs => xs
  | m + 1, xs => Pl.elim1 q r1 r2 os at_ col (m : Int) (Pl.elim q r1 r2 os at_ col m xs)
def Pl.colO (r1 r2 : Nat) (os : OS) (at_ k : Int) : OS := Pl.swO (Pl.swO os r1 at_ k) r2 at_ k
def Pl.colX (q : Int) (r1 r2 : Nat) (xs : XS) (os : OS) (at_ col : Int) : XS :=
  Pl.scX q (Pl.scX q xs os r1 at_ (Pl.inv q (Pl.ent xs os r1 at_ col))) os r2 at_ (Pl.inv q (Pl.ent xs os r1 at_ col))
def Pl.colK (r1 : Nat) (xo : XO) (at_ col : Int) : Int := Pl.kf xo.1 xo.2 r1 col (Pl.len xo.2 r1 + 1) at_
def Pl.col (q : Int) (r1 r2 : Nat) (xo : XO) (cs : List Int) (col : Int) : XO × List Int :=
  bif decide (Pl.colK r1 xo cs.length col = (Pl.len xo.2 r1 : Int)) then (xo, cs) else
    ((Pl.elim q r1 r2 (Pl.colO r1 r2 xo.2 cs.length (Pl.colK r1 xo cs.length col)) cs.length col (Pl.len xo.2 r1) (Pl.colX q r1 r2 xo.1 (Pl.colO r1 r2 xo.2 cs.length (Pl.colK r1 xo cs.length col)) cs.length col),
      Pl.colO r1 r2 xo.2 cs.length (Pl.colK r1 xo cs.length col)), cs ++ [col])
def Pl.cols (q : Int) (r1 r2 : Nat) (xo : XO) : Nat → XO × List Int
  | 0 => (xo, [])
  | j + 1 => Pl.col q r1 r2 (Pl.cols q r1 r2 xo j).1 (Pl.cols q r1 r2 xo j).2 (j : Int)
def Pl.ech (q : Int) (r1 r2 : Nat) (xo : XO) : XO × List Int := bif decide (Pl.len xo.2 r1 = 0) then (xo, []) else Pl.cols q r1 r2 xo (mrow xo.1 (Pl.ri xo.2 r1 0)).length

/-- Rows of a width, of elements. -/
def Pl.good (q : Int) (xs : XS) (w : Nat) (l : List Nat) : Prop := ∀ r ∈ l, mal xs r ∧ 0 < r ∧ (mrow xs r).length = w ∧ ∀ x ∈ mrow xs r, Pl.inQ q x
structure Pl.Rec (q : Int) (r1 r2 n w : Nat) (xs : XS) (os : OS) : Prop where
  m1 : mal os r1
  m2 : mal os r2
  ne : r1 ≠ r2
  p1 : 0 < r1
  p2 : 0 < r2
  l1 : (mrow os r1).length = n
  l2 : (mrow os r2).length = n
  nd : (mrow os r1 ++ mrow os r2).Nodup
  g1 : Pl.good q xs w (mrow os r1)
  g2 : Pl.good q xs n (mrow os r2)
  nn : n ≤ 1000000000
  ww : w ≤ 1000000000
def Pl.preE (t1 t2 : Nat) (d1 d2 : D) (r1 r2 : Nat) (xs : XS) (os : OS) : Prop := Pl.okA (.iface t1 d1) ∧ .iface t2 d2 = D.iface t1 d1 ∧ mal os r1 ∧ (Pl.len os r1 = 0 ∨ ∃ n w, 0 < n ∧ Pl.Rec (Pl.qA (.iface t1 d1)) r1 r2 n w xs os)
/-- The columns, as a row of an arena to which they were appended one by one. -/
def Pl.cst (l : List Int) : List (Option (List Int)) := bif decide (l.length = 0) then [] else List.replicate (l.length - 1) none ++ [some l]
def echH (s : MS) (h : Hp) (cs : List (Option (List Int))) : Hp := upd (put02 h s) 4 (some (.aren 3 i64 cs))
def echF : List AV → MS → List (Option (List Int)) → Option (Prop × List Int × MS)
  | [.d r], s, cs => (match r with
    | .ref 1 1 => some (Pl.preE s.t1 s.t2 s.d1 s.d2 s.r1 s.r2 s.xs s.os ∧ cs = [], (Pl.ech (Pl.qA (.iface s.t1 s.d1)) s.r1 s.r2 (s.xs, s.os)).2,
        { s with xs := (Pl.ech (Pl.qA (.iface s.t1 s.d1)) s.r1 s.r2 (s.xs, s.os)).1.1, os := (Pl.ech (Pl.qA (.iface s.t1 s.d1)) s.r1 s.r2 (s.xs, s.os)).1.2 })
    | _ => none)
  | _, _, _ => none
def ech91 (avs : List AV) (h : Hp) : Option (Prop × AV × Hp) := match getM h with
  | some s => (match h 4 with
    | some (.aren 3 (.int .i64) cs) => (match echF avs s cs with
      | some (p, l, s') => some (p, .d (.ref 4 l.length), echH s' h (Pl.cst l))
      | none => none)
    | _ => none)
  | none => none
theorem echH_eq (s : MS) (h : Hp) (cs : List (Option (List Int))) (id : Nat) : echH s h cs id = if id = 4 then some (.aren 3 i64 cs) else if id = 2 then some (.aren 30 (.ref 0) s.os) else if id = 0 then some (.aren 3 i64 s.xs) else h id := by
  unfold echH put02
  rw [upd_eq, upd_eq, upd_eq]
theorem ech91_some {avs : List AV} {h h' : Hp} {p : Prop} {v : AV} (e : ech91 avs h = some (p, v, h')) : ∃ s cs l s', getM h = some s ∧ h 4 = some (.aren 3 i64 cs) ∧ echF avs s cs = some (p, l, s') ∧ v = .d (.ref 4 l.length) ∧ h' = echH s' h (Pl.cst l) := by
  unfold ech91 at e
  split at e
  · rename_i s hs
    split at e
    · rename_i cs h4
      split at e
      · rename_i p' l s' hf
        have e := Option.some.inj e
        obtain ⟨e1, e3⟩ := Prod.mk.inj e
        obtain ⟨e3, e4⟩ := Prod.mk.inj e3
        subst e1
        exact ⟨s, cs, l, s', hs, h4, hf, e3.symm, e4.symm⟩
      · cases e
    · cases e
  · cases e
def pt91 : PT where
  base := 4000000
  mods := [0, 2, 4]
  fn := ech91
  ok := by
    intro avs h p v h' e
    obtain ⟨s, cs, l, s', hs, h4, hf, rfl, rfl⟩ := ech91_some e
    obtain ⟨e0, e1, e2⟩ := getM_some hs
    refine ⟨fun id => ?_, fun id hid => ?_, rfl, fun id hid => ?_, fun K hK => ?_⟩
    · rw [echH_eq]
      by_cases c4 : id = 4
      · subst c4; rw [if_pos rfl, h4]; simp
      · rw [if_neg c4]
        by_cases c2 : id = 2
        · subst c2; rw [if_pos rfl, e2]; simp
        · rw [if_neg c2]
          by_cases c0 : id = 0
          · subst c0; rw [if_pos rfl, e0]; simp
          · rw [if_neg c0]
    · simp only [List.mem_cons, List.not_mem_nil, or_false, not_or] at hid
      rw [echH_eq, if_neg hid.2.2, if_neg hid.2.1, if_neg hid.1]
    · simp only [List.mem_cons, List.not_mem_nil, or_false] at hid
      rcases hid with rfl | rfl | rfl
      · simp [e0]
      · simp [e2]
      · simp [h4]
    · obtain ⟨o, ho, ha⟩ := hK
      rw [echH_eq] at ho
      by_cases c4 : K = 4
      · subst c4; exact ⟨_, h4, rfl⟩
      · rw [if_neg c4] at ho
        by_cases c2 : K = 2
        · subst c2; exact ⟨_, e2, rfl⟩
        · rw [if_neg c2] at ho
          by_cases c0 : K = 0
          · subst c0; exact ⟨_, e0, rfl⟩
          · rw [if_neg c0] at ho; exact ⟨o, ho, ha⟩
abbrev sO : Sh := .ar 30 (.ref 0)
def T91 : Ctx := ⟨tt, [], VV, none, [(136, pt136), (137, pt137), (138, pt138)], 4000000, [0, 2, 4], [], 0, [(105, 4)], [], [], []⟩
def H91 : Hints := ⟨[], [], [(0, ⟨[0, 4, 20], [(3, .ty (.ref 4)), (21, si), (0, s0), (2, sO), (4, s0)]⟩), (2, ⟨[0, 3, 4, 5, 6, 20, 21], [(7, si), (0, s0), (2, sO), (4, s0)]⟩), (4, ⟨[0, 3, 4, 5, 6, 20, 21, 73], [(74, si), (0, s0), (2, sO), (4, s0)]⟩)], [136, 137, 138], []⟩

end Fd
end
section
/- The echelon form of a record: what stays. -/
set_option linter.unusedVariables false
set_option linter.unusedSimpArgs false
set_option linter.unusedSectionVars false
set_option maxRecDepth 100000
namespace Fd
open Go Fw Go.Proofs

theorem swp_perm {l : List Nat} {i k : Int} (i0 : 0 ≤ i) (i1 : i < l.length) (k0 : 0 ≤ k) (k1 : k < l.length) : List.Perm (Pl.swp l i k) l := by
  unfold Pl.swp
  have hi : i.toNat < l.length := by omega
  have hk : k.toNat < l.length := by omega
  rw [List.getD_eq_getElem?_getD, List.getD_eq_getElem?_getD, List.getElem?_eq_getElem hi, List.getElem?_eq_getElem hk]
  exact List.set_set_perm hi hk
theorem ri_mem {os : OS} {r : Nat} {i : Int} (i0 : 0 ≤ i) (i1 : i < (mrow os r).length) : Pl.ri os r i ∈ mrow os r := by
  unfold Pl.ri
  have hi : i.toNat < (mrow os r).length := by omega
  rw [List.getD_eq_getElem?_getD, List.getElem?_eq_getElem hi]
  exact List.getElem_mem hi
theorem ri_inj {os : OS} {r : Nat} {i k : Int} (nd : (mrow os r).Nodup) (i0 : 0 ≤ i) (i1 : i < (mrow os r).length) (k0 : 0 ≤ k) (k1 : k < (mrow os r).length) (h : i ≠ k) : Pl.ri os r i ≠ Pl.ri os r k := by
  unfold Pl.ri
  have hi : i.toNat < (mrow os r).length := by omega
  have hk : k.toNat < (mrow os r).length := by omega
  rw [List.getD_eq_getElem?_getD, List.getElem?_eq_getElem hi, List.getD_eq_getElem?_getD, List.getElem?_eq_getElem hk]
  intro e
  have hp := List.pairwise_iff_getElem.1 nd
  rcases Nat.lt_or_ge i.toNat k.toNat with hlt | hge
  · exact hp _ _ hi hk hlt e
  · exact hp _ _ hk hi (by omega) e.symm
theorem good_mset {q : Int} {xs : XS} {w r : Nat} {l : List Nat} {row : List Int} (hg : Pl.good q xs w l) (hm : mal xs r) (h0 : 0 < r) (hw : r ∈ l → row.length = w) (hq : ∀ x ∈ row, Pl.inQ q x) : Pl.good q (mset xs r row) w l := by
  intro r' hr'
  obtain ⟨a1, a2, a3, a4⟩ := hg r' hr'
  by_cases e : r = r'
  · subst e
    obtain ⟨b1, b2⟩ := mset_at (xs := row) hm h0
    exact ⟨b1, h0, by rw [b2]; exact hw hr', by rw [b2]; exact hq⟩
  · obtain ⟨b1, b2⟩ := mset_other (ms := xs) (xs := row) e
    exact ⟨b1.2 a1, a2, by rw [b2]; exact a3, by rw [b2]; exact a4⟩
theorem good_sub {q : Int} {xs : XS} {w : Nat} {l l' : List Nat} (hg : Pl.good q xs w l) (h : ∀ r ∈ l', r ∈ l) : Pl.good q xs w l' := fun r hr => hg r (h r hr)
section
variable {q : Int} {r1 r2 n w : Nat} {xs : XS} {os : OS}
theorem swO_at {r : Nat} {i k : Int} (hm : mal os r) (h0 : 0 < r) : mal (Pl.swO os r i k) r ∧ mrow (Pl.swO os r i k) r = Pl.swp (mrow os r) i k := mset_at hm h0
theorem swO_other {r r' : Nat} {i k : Int} (h : r ≠ r') : (mal (Pl.swO os r i k) r' ↔ mal os r') ∧ mrow (Pl.swO os r i k) r' = mrow os r' := mset_other h
theorem Rec_sw (h : Pl.Rec q r1 r2 n w xs os) {i k : Int} (i0 : 0 ≤ i) (i1 : i < n) (k0 : 0 ≤ k) (k1 : k < n) :
    (Pl.preS os r1 i k ∧ Pl.preS (Pl.swO os r1 i k) r2 i k) ∧ Pl.Rec q r1 r2 n w xs (Pl.colO r1 r2 os i k) := by
  obtain ⟨m1, m2, ne, p1, p2, e1, e2, nd, g1, g2, nn, ww⟩ := h
  obtain ⟨a1, a2⟩ := swO_at (i := i) (k := k) m1 p1
  obtain ⟨b1, b2⟩ := swO_other (os := os) (i := i) (k := k) ne
  have c1 := b1.2 m2
  obtain ⟨d1, d2⟩ := swO_at (i := i) (k := k) c1 p2
  obtain ⟨f1, f2⟩ := swO_other (os := Pl.swO os r1 i k) (i := i) (k := k) ne.symm
  have P1 := swp_perm (l := mrow os r1) i0 (by omega) k0 (by omega)
  have P2 := swp_perm (l := mrow os r2) i0 (by omega) k0 (by omega)
  have E1 : mrow (Pl.colO r1 r2 os i k) r1 = Pl.swp (mrow os r1) i k := by show mrow (Pl.swO (Pl.swO os r1 i k) r2 i k) r1 = _; rw [f2, a2]
  have E2 : mrow (Pl.colO r1 r2 os i k) r2 = Pl.swp (mrow os r2) i k := by show mrow (Pl.swO (Pl.swO os r1 i k) r2 i k) r2 = _; rw [d2, b2]
  refine ⟨⟨⟨m1, ⟨i0, by omega⟩, k0, by omega⟩, c1, ⟨i0, by rw [b2]; omega⟩, k0, by rw [b2]; omega⟩, ⟨f1.2 a1, d1, ne, p1, p2, by rw [E1, P1.length_eq, e1], by rw [E2, P2.length_eq, e2], ?_, ?_, ?_, nn, ww⟩⟩
  · rw [E1, E2]; exact (List.Perm.nodup_iff (P1.append P2)).2 nd
  · rw [E1]; exact good_sub g1 fun r hr => P1.mem_iff.1 hr
  · rw [E2]; exact good_sub g2 fun r hr => P2.mem_iff.1 hr
theorem Rec.nd1 (h : Pl.Rec q r1 r2 n w xs os) : (mrow os r1).Nodup := (List.nodup_append.1 h.nd).1
theorem Rec.nd2 (h : Pl.Rec q r1 r2 n w xs os) : (mrow os r2).Nodup := (List.nodup_append.1 h.nd).2.1
theorem Rec.dis (h : Pl.Rec q r1 r2 n w xs os) {a b : Nat} (ha : a ∈ mrow os r1) (hb : b ∈ mrow os r2) : a ≠ b := (List.nodup_append.1 h.nd).2.2 a ha b hb
theorem scl_in (hq : isQ q) {c : Int} {l : List Int} : ∀ x ∈ Pl.scl q c l, Pl.inQ q x := by
  intro x hx
  unfold Pl.scl at hx
  obtain ⟨y, _, rfl⟩ := List.mem_map.1 hx
  exact mul_inQ hq _ _
theorem tkl_in (hq : isQ q) {c : Int} {x y : List Int} : ∀ z ∈ Pl.tkl q c x y, Pl.inQ q z := by
  intro z hz
  unfold Pl.tkl at hz
  obtain ⟨i, hi, rfl⟩ := List.mem_iff_getElem.1 hz
  rw [List.getElem_zipWith]
  exact sub_inQ hq _ _
theorem Rec_sc (hq : isQ q) {v : D} (hv : Pl.okA v) (hqv : Pl.qA v = q) (h : Pl.Rec q r1 r2 n w xs os) {i c : Int} (i0 : 0 ≤ i) (i1 : i < n) (hc : Pl.inQ q c) :
    (Pl.preL v xs os r1 i c ∧ Pl.preL v (Pl.scX q xs os r1 i c) os r2 i c) ∧ Pl.Rec q r1 r2 n w (Pl.scX q (Pl.scX q xs os r1 i c) os r2 i c) os := by
  have M1 := ri_mem (os := os) (r := r1) i0 (by rw [h.l1]; exact i1)
  have M2 := ri_mem (os := os) (r := r2) i0 (by rw [h.l2]; exact i1)
  obtain ⟨a1, a2, a3, a4⟩ := h.g1 _ M1
  have G1 : Pl.good q (Pl.scX q xs os r1 i c) w (mrow os r1) := good_mset h.g1 a1 a2 (fun _ => by unfold Pl.scl; rw [List.length_map, a3]) (scl_in hq)
  have G2 : Pl.good q (Pl.scX q xs os r1 i c) n (mrow os r2) := good_mset h.g2 a1 a2 (fun hm => absurd rfl (Rec.dis h M1 hm)) (scl_in hq)
  obtain ⟨b1, b2, b3, b4⟩ := G2 _ M2
  have G3 : Pl.good q (Pl.scX q (Pl.scX q xs os r1 i c) os r2 i c) w (mrow os r1) := good_mset G1 b1 b2 (fun hm => absurd rfl (Rec.dis h hm M2)) (scl_in hq)
  have G4 : Pl.good q (Pl.scX q (Pl.scX q xs os r1 i c) os r2 i c) n (mrow os r2) := good_mset G2 b1 b2 (fun _ => by unfold Pl.scl; rw [List.length_map, b3]) (scl_in hq)
  have hn := h.nn
  have hw := h.ww
  rw [← hqv] at hc
  have V : ∀ {l : List Int}, (∀ x ∈ l, Pl.inQ q x) → ∀ x ∈ l, Pl.inQ (Pl.qA v) x := fun hl x hx => by rw [hqv]; exact hl x hx
  exact ⟨⟨⟨⟨h.m1, i0, by rw [h.l1]; exact i1⟩, a1, hv, hc, V a4, by omega⟩, ⟨h.m2, i0, by rw [h.l2]; exact i1⟩, b1, hv, hc, V b4, by omega⟩, ⟨h.m1, h.m2, h.ne, h.p1, h.p2, h.l1, h.l2, h.nd, G3, G4, h.nn, h.ww⟩⟩
theorem tkl_len {c : Int} {x y : List Int} (h : y.length = x.length) : (Pl.tkl q c x y).length = x.length := by
  unfold Pl.tkl; rw [List.length_zipWith]; omega
theorem Rec_tk (hq : isQ q) {v : D} (hv : Pl.okA v) (hqv : Pl.qA v = q) (h : Pl.Rec q r1 r2 n w xs os) {i k c : Int} (i0 : 0 ≤ i) (i1 : i < n) (k0 : 0 ≤ k) (k1 : k < n) (hik : i ≠ k) (hc : Pl.inQ q c) :
    (Pl.preT v xs os r1 i k c ∧ Pl.preT v (Pl.tkX q xs os r1 i k c) os r2 i k c) ∧ Pl.Rec q r1 r2 n w (Pl.tkX q (Pl.tkX q xs os r1 i k c) os r2 i k c) os := by
  have M1 := ri_mem (os := os) (r := r1) i0 (by rw [h.l1]; exact i1)
  have M2 := ri_mem (os := os) (r := r2) i0 (by rw [h.l2]; exact i1)
  have N1 := ri_mem (os := os) (r := r1) k0 (by rw [h.l1]; exact k1)
  have N2 := ri_mem (os := os) (r := r2) k0 (by rw [h.l2]; exact k1)
  have D1 := ri_inj (Rec.nd1 h) i0 (by rw [h.l1]; exact i1) k0 (by rw [h.l1]; exact k1) hik
  have D2 := ri_inj (Rec.nd2 h) i0 (by rw [h.l2]; exact i1) k0 (by rw [h.l2]; exact k1) hik
  obtain ⟨a1, a2, a3, a4⟩ := h.g1 _ M1
  obtain ⟨c1, c2, c3, c4⟩ := h.g1 _ N1
  have G1 : Pl.good q (Pl.tkX q xs os r1 i k c) w (mrow os r1) := good_mset h.g1 a1 a2 (fun _ => by rw [tkl_len (by omega), a3]) (tkl_in hq)
  have G2 : Pl.good q (Pl.tkX q xs os r1 i k c) n (mrow os r2) := good_mset h.g2 a1 a2 (fun hm => absurd rfl (Rec.dis h M1 hm)) (tkl_in hq)
  obtain ⟨b1, b2, b3, b4⟩ := G2 _ M2
  obtain ⟨d1, d2, d3, d4⟩ := G2 _ N2
  have G3 : Pl.good q (Pl.tkX q (Pl.tkX q xs os r1 i k c) os r2 i k c) w (mrow os r1) := good_mset G1 b1 b2 (fun hm => absurd rfl (Rec.dis h hm M2)) (tkl_in hq)
  have G4 : Pl.good q (Pl.tkX q (Pl.tkX q xs os r1 i k c) os r2 i k c) n (mrow os r2) := good_mset G2 b1 b2 (fun _ => by rw [tkl_len (by omega), b3]) (tkl_in hq)
  have hn := h.nn
  have hw := h.ww
  rw [← hqv] at hc
  have V : ∀ {l : List Int}, (∀ x ∈ l, Pl.inQ q x) → ∀ x ∈ l, Pl.inQ (Pl.qA v) x := fun hl x hx => by rw [hqv]; exact hl x hx
  exact ⟨⟨⟨⟨h.m1, ⟨i0, by rw [h.l1]; exact i1⟩, k0, by rw [h.l1]; exact k1⟩, ⟨a1, c1, a2, D1⟩, hv, hc, ⟨V a4, by omega⟩, ⟨V c4, by omega⟩, by omega⟩,
    ⟨h.m2, ⟨i0, by rw [h.l2]; exact i1⟩, k0, by rw [h.l2]; exact k1⟩, ⟨b1, d1, b2, D2⟩, hv, hc, ⟨V b4, by omega⟩, ⟨V d4, by omega⟩, by omega⟩, ⟨h.m1, h.m2, h.ne, h.p1, h.p2, h.l1, h.l2, h.nd, G3, G4, h.nn, h.ww⟩⟩
/-- A number of the rows. -/
theorem Rec_ent (h : Pl.Rec q r1 r2 n w xs os) {i col : Int} (i0 : 0 ≤ i) (i1 : i < n) (c0 : 0 ≤ col) (c1 : col < w) : mal xs (Pl.ri os r1 i) ∧ (mrow xs (Pl.ri os r1 i)).length = w ∧ Pl.inQ q (Pl.ent xs os r1 i col) := by
  obtain ⟨a1, a2, a3, a4⟩ := h.g1 _ (ri_mem (os := os) (r := r1) i0 (by rw [h.l1]; exact i1))
  exact ⟨a1, a3, getD_inQ a4 (by omega)⟩
end
theorem cst_len (l : List Int) : (Pl.cst l).length = l.length := by
  unfold Pl.cst
  by_cases h : l.length = 0
  · rw [decide_eq_true h, cond_true, h]; rfl
  · rw [decide_eq_false h, cond_false, List.length_append, List.length_replicate, List.length_singleton]; omega
theorem cst_row (l : List Int) : mal (Pl.cst l) l.length ∧ mrow (Pl.cst l) l.length = l := by
  unfold Pl.cst
  by_cases h : l.length = 0
  · rw [decide_eq_true h, cond_true, h]
    exact ⟨trivial, (List.length_eq_zero_iff.1 h).symm⟩
  · rw [decide_eq_false h, cond_false]
    obtain ⟨m, hm⟩ : ∃ m, l.length = m + 1 := ⟨l.length - 1, by omega⟩
    rw [hm, Nat.add_sub_cancel]
    have e : (List.replicate m none ++ [some l])[m]? = some (some l) := by rw [List.getElem?_append_right (by simp)]; simp
    exact ⟨⟨l, e⟩, by show ((List.replicate m none ++ [some l]).getD m none).getD [] = l; rw [List.getD_eq_getElem?_getD, e]; rfl⟩
theorem cst_snoc (l : List Int) (c : Int) : mnew (mkill (Pl.cst l) l.length) (l ++ [c]) = Pl.cst (l ++ [c]) := by
  unfold mnew
  have e : mkill (Pl.cst l) l.length = List.replicate l.length none := by
    unfold Pl.cst
    by_cases h : l.length = 0
    · rw [decide_eq_true h, cond_true, h]; rfl
    · rw [decide_eq_false h, cond_false]
      obtain ⟨m, hm⟩ : ∃ m, l.length = m + 1 := ⟨l.length - 1, by omega⟩
      rw [hm, Nat.add_sub_cancel]
      show (List.replicate m none ++ [some l]).set m none = _
      rw [List.set_append_right _ _ (by simp), List.length_replicate, Nat.sub_self, List.set_cons_zero, List.replicate_succ']
  rw [e]
  unfold Pl.cst
  rw [decide_eq_false (by simp), cond_false]
  simp
theorem swp_at {os : OS} {r : Nat} {i k : Int} (hm : mal os r) (h0 : 0 < r) (i0 : 0 ≤ i) (i1 : i < (mrow os r).length) (k0 : 0 ≤ k) (k1 : k < (mrow os r).length) : Pl.ri (Pl.swO os r i k) r i = Pl.ri os r k := by
  unfold Pl.ri
  rw [(swO_at hm h0).2]
  unfold Pl.swp
  have hi : i.toNat < (mrow os r).length := by omega
  have hk : k.toNat < (mrow os r).length := by omega
  rw [List.getD_eq_getElem?_getD, List.getElem?_set, List.length_set]
  by_cases e : k.toNat = i.toNat
  · rw [if_pos e, e, if_pos hi]; rfl
  · rw [if_neg e, List.getElem?_set, if_pos rfl, if_pos hi]; rfl
theorem ent_sw {q : Int} {r1 r2 n w : Nat} {xs : XS} {os : OS} (h : Pl.Rec q r1 r2 n w xs os) {i k : Int} (i0 : 0 ≤ i) (i1 : i < n) (k0 : 0 ≤ k) (k1 : k < n) (col : Int) : Pl.ent xs (Pl.colO r1 r2 os i k) r1 i col = Pl.ent xs os r1 k col := by
  unfold Pl.ent
  have e : Pl.ri (Pl.colO r1 r2 os i k) r1 i = Pl.ri os r1 k := by
    have := swp_at (k := k) h.m1 h.p1 i0 (by rw [h.l1]; exact i1) k0 (by rw [h.l1]; exact k1)
    rw [← this]
    unfold Pl.ri Pl.colO
    rw [(swO_other h.ne.symm).2]
  rw [e]
end Fd
end
section
/- The echelon form of a record. -/
set_option linter.unusedVariables false
set_option linter.unusedSimpArgs false
set_option maxRecDepth 100000
namespace Fd
open Go Fw Go.Proofs

theorem kf_stop {xs : XS} {os : OS} {r : Nat} {col : Int} {f : Nat} {k : Int} (hf : 0 < f) (h : ¬ (k < (Pl.len os r : Int) ∧ Pl.ent xs os r k col = 0)) : Pl.kf xs os r col f k = k := by
  obtain ⟨f, rfl⟩ : ∃ g, f = g + 1 := ⟨f - 1, by omega⟩
  rw [Pl.kf]
  cases hb : (decide (k < (Pl.len os r : Int)) && decide (Pl.ent xs os r k col = 0)) with
  | false => rfl
  | true => simp at hb; exact absurd hb h
theorem kf_go {xs : XS} {os : OS} {r : Nat} {col : Int} {f : Nat} {k : Int} (hf : 0 < f) (h1 : k < (Pl.len os r : Int)) (h2 : Pl.ent xs os r k col = 0) : Pl.kf xs os r col f k = Pl.kf xs os r col (f - 1) (k + 1) := by
  obtain ⟨f, rfl⟩ : ∃ g, f = g + 1 := ⟨f - 1, by omega⟩
  rw [Pl.kf, decide_eq_true h1, decide_eq_true h2]; rfl
theorem elim_no {q : Int} {r1 r2 : Nat} {os : OS} {at_ col i : Int} {xs : XS} (h : i = at_ ∨ Pl.ent xs os r1 i col = 0) : Pl.elim1 q r1 r2 os at_ col i xs = xs := by
  unfold Pl.elim1
  rcases h with h | h
  · rw [decide_eq_false (not_not_intro h)]; rfl
  · rw [decide_eq_false (not_not_intro h), Bool.and_false]; rfl
theorem elim_yes {q : Int} {r1 r2 : Nat} {os : OS} {at_ col i : Int} {xs : XS} (h1 : i ≠ at_) (h2 : Pl.ent xs os r1 i col ≠ 0) : Pl.elim1 q r1 r2 os at_ col i xs = Pl.tkX q (Pl.tkX q xs os r1 i at_ (Pl.ent xs os r1 i col)) os r2 i at_ (Pl.ent xs os r1 i col) := by
  unfold Pl.elim1
  rw [decide_eq_true h1, decide_eq_true h2]; rfl
theorem col_no {q : Int} {r1 r2 : Nat} {xo : XO} {cs : List Int} {col : Int} (h : Pl.colK r1 xo cs.length col = (Pl.len xo.2 r1 : Int)) : Pl.col q r1 r2 xo cs col = (xo, cs) := by
  unfold Pl.col
  rw [decide_eq_true h]; rfl
theorem col_yes {q : Int} {r1 r2 : Nat} {xs : XS} {os : OS} {cs : List Int} {col k : Int} {n : Nat} (hk : Pl.colK r1 (xs, os) cs.length col = k) (hn : Pl.len os r1 = n) (h : k ≠ n) : Pl.col q r1 r2 (xs, os) cs col =
    ((Pl.elim q r1 r2 (Pl.colO r1 r2 os cs.length k) cs.length col n (Pl.colX q r1 r2 xs (Pl.colO r1 r2 os cs.length k) cs.length col), Pl.colO r1 r2 os cs.length k), cs ++ [col]) := by
  unfold Pl.col
  subst hn hk
  rw [decide_eq_false h]; rfl
theorem rd_ri (os : OS) (r : Nat) (i : Int) : rd (Ty.ref (0 : Nat)) (mrow os r) i = Pl.ri os r i := rfl
theorem rd_ent (xs : XS) (os : OS) (r : Nat) (i col : Int) : rd i64 (mrow xs (Pl.ri os r i)) col = Pl.ent xs os r i col := rfl
theorem vc91 : ∀ (xs : XS) (os : OS) (t1 : Nat) (d1 : D) (l1 : List D) (r1 t2 : Nat) (d2 : D) (l2 : List D) (r2 : Nat) (h : Hp) (n : Nat) (cs' : List (Option (List Int))) (xs' : XS) (os' : OS) (l : List Int), Pl.preE t1 t2 d1 d2 r1 r2 xs os →
    Pl.ech (Pl.qA (.iface t1 d1)) r1 r2 (xs, os) = ((xs', os'), l) → n = l.length → cs' = Pl.cst l →
    VCP T91 H91 Try.f91 pt91 [.d (.ref 1 1)] (upd ((MS.mk xs os t1 d1 l1 r1 t2 d2 l2 r2).put h) 4 (some (.aren 3 i64 []))) (.d (.ref 4 n)) (echH (MS.mk xs' os' t1 d1 l1 r1 t2 d2 l2 r2) (upd ((MS.mk xs os t1 d1 l1 r1 t2 d2 l2 r2).put h) 4 (some (.aren 3 i64 []))) cs') := by
  rintro xs os t1 d1 l1 r1 t2 d2 l2 r2 h n cs' xs' os' l ⟨hA, e2, hm, h0⟩ hE hn hcs
  refine cast (α := mal os r1 ∧ Br ((↑(mrow os r1).length : Int) == (0 : Int)) ((0 : Nat) = n ∧ xs = xs' ∧ os = os' ∧ [] = cs' ∧ True) (mal os r1 ∧ (0 : Int) ≤ (0 : Int) ∧ (0 : Int) < (↑(mrow os r1).length : Int) ∧ mal os r1 ∧ (0 : Int) ≤ (0 : Int) ∧ (0 : Int) < (↑(mrow os r1).length : Int) ∧ mal xs (rd (Ty.ref (0 : Nat)) (mrow os r1) (0 : Int)) ∧ ∃ (n_1 : Nat), itl (fun (G : Nat × Int × List (Option (List Int)) × List (Option (List Nat)) × List (Option (List Int)) × PUnit → Prop) (x : Nat × Int × List (Option (List Int)) × List (Option (List Nat)) × List (Option (List Int)) × PUnit) => Br (decide (x.snd.fst < (↑(mrow xs (rd (Ty.ref (0 : Nat)) (mrow os r1) (0 : Int))).length : Int))) (mal x.snd.snd.snd.snd.fst x.fst ∧ ∃ (n : Nat), itl (fun (G_1 : Int × List (Option (List Int)) × List (Option (List Nat)) × List (Option (List Int)) × PUnit → Prop) (x_1 : Int × List (Option (List Int)) × List (Option (List Nat)) × List (Option (List Int)) × PUnit) => mal x_1.snd.snd.fst r1 ∧ Br (decide (x_1.fst < (↑(mrow x_1.snd.snd.fst r1).length : Int))) (mal x_1.snd.snd.fst r1 ∧ (0 : Int) ≤ x_1.fst ∧ x_1.fst < (↑(mrow x_1.snd.snd.fst r1).length : Int) ∧ mal x_1.snd.snd.fst r1 ∧ (0 : Int) ≤ x_1.fst ∧ x_1.fst < (↑(mrow x_1.snd.snd.fst r1).length : Int) ∧ mal x_1.snd.fst (rd (Ty.ref (0 : Nat)) (mrow x_1.snd.snd.fst r1) x_1.fst) ∧ (0 : Int) ≤ x.snd.fst ∧ x.snd.fst < (↑(mrow x_1.snd.fst (rd (Ty.ref (0 : Nat)) (mrow x_1.snd.snd.fst r1) x_1.fst)).length : Int) ∧ mal x_1.snd.fst (rd (Ty.ref (0 : Nat)) (mrow x_1.snd.snd.fst r1) x_1.fst) ∧ (0 : Int) ≤ x.snd.fst ∧ x.snd.fst < (↑(mrow x_1.snd.fst (rd (Ty.ref (0 : Nat)) (mrow x_1.snd.snd.fst r1) x_1.fst)).length : Int) ∧ Br (rd i64 (mrow x_1.snd.fst (rd (Ty.ref (0 : Nat)) (mrow x_1.snd.snd.fst r1) x_1.fst)) x.snd.fst == (0 : Int)) (G_1 (IntKind.i64.wrap (x_1.fst + (1 : Int)), x_1.snd)) (mal x_1.snd.snd.fst r1 ∧ Br (x_1.fst == (↑(mrow x_1.snd.snd.fst r1).length : Int)) (G (x.fst, IntKind.i64.wrap (x.snd.fst + (1 : Int)), x_1.snd)) ((Pl.preS x_1.snd.snd.fst r1 (↑(mrow x.snd.snd.snd.snd.fst x.fst).length : Int) x_1.fst ∧ Pl.preS (Pl.swO x_1.snd.snd.fst r1 (↑(mrow x.snd.snd.snd.snd.fst x.fst).length : Int) x_1.fst) r2 (↑(mrow x.snd.snd.snd.snd.fst x.fst).length : Int) x_1.fst) ∧ mal (Pl.swO (Pl.swO x_1.snd.snd.fst r1 (↑(mrow x.snd.snd.snd.snd.fst x.fst).length : Int) x_1.fst) r2 (↑(mrow x.snd.snd.snd.snd.fst x.fst).length : Int) x_1.fst) r1 ∧ (0 : Int) ≤ (↑(mrow x.snd.snd.snd.snd.fst x.fst).length : Int) ∧ (↑(mrow x.snd.snd.snd.snd.fst x.fst).length : Int) < (↑(mrow (Pl.swO (Pl.swO x_1.snd.snd.fst r1 (↑(mrow x.snd.snd.snd.snd.fst x.fst).length : Int) x_1.fst) r2 (↑(mrow x.snd.snd.snd.snd.fst x.fst).length : Int) x_1.fst) r1).length : Int) ∧ mal (Pl.swO (Pl.swO x_1.snd.snd.fst r1 (↑(mrow x.snd.snd.snd.snd.fst x.fst).length : Int) x_1.fst) r2 (↑(mrow x.snd.snd.snd.snd.fst x.fst).length : Int) x_1.fst) r1 ∧ (0 : Int) ≤ (↑(mrow x.snd.snd.snd.snd.fst x.fst).length : Int) ∧ (↑(mrow x.snd.snd.snd.snd.fst x.fst).length : Int) < (↑(mrow (Pl.swO (Pl.swO x_1.snd.snd.fst r1 (↑(mrow x.snd.snd.snd.snd.fst x.fst).length : Int) x_1.fst) r2 (↑(mrow x.snd.snd.snd.snd.fst x.fst).length : Int) x_1.fst) r1).length : Int) ∧ mal x_1.snd.fst (rd (Ty.ref (0 : Nat)) (mrow (Pl.swO (Pl.swO x_1.snd.snd.fst r1 (↑(mrow x.snd.snd.snd.snd.fst x.fst).length : Int) x_1.fst) r2 (↑(mrow x.snd.snd.snd.snd.fst x.fst).length : Int) x_1.fst) r1) (↑(mrow x.snd.snd.snd.snd.fst x.fst).length : Int)) ∧ (0 : Int) ≤ x.snd.fst ∧ x.snd.fst < (↑(mrow x_1.snd.fst (rd (Ty.ref (0 : Nat)) (mrow (Pl.swO (Pl.swO x_1.snd.snd.fst r1 (↑(mrow x.snd.snd.snd.snd.fst x.fst).length : Int) x_1.fst) r2 (↑(mrow x.snd.snd.snd.snd.fst x.fst).length : Int) x_1.fst) r1) (↑(mrow x.snd.snd.snd.snd.fst x.fst).length : Int))).length : Int) ∧ mal x_1.snd.fst (rd (Ty.ref (0 : Nat)) (mrow (Pl.swO (Pl.swO x_1.snd.snd.fst r1 (↑(mrow x.snd.snd.snd.snd.fst x.fst).length : Int) x_1.fst) r2 (↑(mrow x.snd.snd.snd.snd.fst x.fst).length : Int) x_1.fst) r1) (↑(mrow x.snd.snd.snd.snd.fst x.fst).length : Int)) ∧ (0 : Int) ≤ x.snd.fst ∧ x.snd.fst < (↑(mrow x_1.snd.fst (rd (Ty.ref (0 : Nat)) (mrow (Pl.swO (Pl.swO x_1.snd.snd.fst r1 (↑(mrow x.snd.snd.snd.snd.fst x.fst).length : Int) x_1.fst) r2 (↑(mrow x.snd.snd.snd.snd.fst x.fst).length : Int) x_1.fst) r1) (↑(mrow x.snd.snd.snd.snd.fst x.fst).length : Int))).length : Int) ∧ (Pl.okA (D.iface t1 d1) ∧ Pl.inQ (Pl.qA (D.iface t1 d1)) (rd i64 (mrow x_1.snd.fst (rd (Ty.ref (0 : Nat)) (mrow (Pl.swO (Pl.swO x_1.snd.snd.fst r1 (↑(mrow x.snd.snd.snd.snd.fst x.fst).length : Int) x_1.fst) r2 (↑(mrow x.snd.snd.snd.snd.fst x.fst).length : Int) x_1.fst) r1) (↑(mrow x.snd.snd.snd.snd.fst x.fst).length : Int))) x.snd.fst) ∧ rd i64 (mrow x_1.snd.fst (rd (Ty.ref (0 : Nat)) (mrow (Pl.swO (Pl.swO x_1.snd.snd.fst r1 (↑(mrow x.snd.snd.snd.snd.fst x.fst).length : Int) x_1.fst) r2 (↑(mrow x.snd.snd.snd.snd.fst x.fst).length : Int) x_1.fst) r1) (↑(mrow x.snd.snd.snd.snd.fst x.fst).length : Int))) x.snd.fst ≠ (0 : Int)) ∧ (Pl.preL (D.iface t1 d1) x_1.snd.fst (Pl.swO (Pl.swO x_1.snd.snd.fst r1 (↑(mrow x.snd.snd.snd.snd.fst x.fst).length : Int) x_1.fst) r2 (↑(mrow x.snd.snd.snd.snd.fst x.fst).length : Int) x_1.fst) r1 (↑(mrow x.snd.snd.snd.snd.fst x.fst).length : Int) (Pl.inv (Pl.qA (D.iface t1 d1)) (rd i64 (mrow x_1.snd.fst (rd (Ty.ref (0 : Nat)) (mrow (Pl.swO (Pl.swO x_1.snd.snd.fst r1 (↑(mrow x.snd.snd.snd.snd.fst x.fst).length : Int) x_1.fst) r2 (↑(mrow x.snd.snd.snd.snd.fst x.fst).length : Int) x_1.fst) r1) (↑(mrow x.snd.snd.snd.snd.fst x.fst).length : Int))) x.snd.fst)) ∧ Pl.preL (D.iface t2 d2) (Pl.scX (Pl.qA (D.iface t1 d1)) x_1.snd.fst (Pl.swO (Pl.swO x_1.snd.snd.fst r1 (↑(mrow x.snd.snd.snd.snd.fst x.fst).length : Int) x_1.fst) r2 (↑(mrow x.snd.snd.snd.snd.fst x.fst).length : Int) x_1.fst) r1 (↑(mrow x.snd.snd.snd.snd.fst x.fst).length : Int) (Pl.inv (Pl.qA (D.iface t1 d1)) (rd i64 (mrow x_1.snd.fst (rd (Ty.ref (0 : Nat)) (mrow (Pl.swO (Pl.swO x_1.snd.snd.fst r1 (↑(mrow x.snd.snd.snd.snd.fst x.fst).length : Int) x_1.fst) r2 (↑(mrow x.snd.snd.snd.snd.fst x.fst).length : Int) x_1.fst) r1) (↑(mrow x.snd.snd.snd.snd.fst x.fst).length : Int))) x.snd.fst))) (Pl.swO (Pl.swO x_1.snd.snd.fst r1 (↑(mrow x.snd.snd.snd.snd.fst x.fst).length : Int) x_1.fst) r2 (↑(mrow x.snd.snd.snd.snd.fst x.fst).length : Int) x_1.fst) r2 (↑(mrow x.snd.snd.snd.snd.fst x.fst).length : Int) (Pl.inv (Pl.qA (D.iface t1 d1)) (rd i64 (mrow x_1.snd.fst (rd (Ty.ref (0 : Nat)) (mrow (Pl.swO (Pl.swO x_1.snd.snd.fst r1 (↑(mrow x.snd.snd.snd.snd.fst x.fst).length : Int) x_1.fst) r2 (↑(mrow x.snd.snd.snd.snd.fst x.fst).length : Int) x_1.fst) r1) (↑(mrow x.snd.snd.snd.snd.fst x.fst).length : Int))) x.snd.fst))) ∧ mal (Pl.swO (Pl.swO x_1.snd.snd.fst r1 (↑(mrow x.snd.snd.snd.snd.fst x.fst).length : Int) x_1.fst) r2 (↑(mrow x.snd.snd.snd.snd.fst x.fst).length : Int) x_1.fst) r1 ∧ ∃ (n : Nat), itl (fun (G_2 : Int × List (Option (List Int)) × List (Option (List Nat)) × List (Option (List Int)) × PUnit → Prop) (x_2 : Int × List (Option (List Int)) × List (Option (List Nat)) × List (Option (List Int)) × PUnit) => Br (decide (x_2.fst < (↑(mrow (Pl.swO (Pl.swO x_1.snd.snd.fst r1 (↑(mrow x.snd.snd.snd.snd.fst x.fst).length : Int) x_1.fst) r2 (↑(mrow x.snd.snd.snd.snd.fst x.fst).length : Int) x_1.fst) r1).length : Int))) (Br (x_2.fst != (↑(mrow x.snd.snd.snd.snd.fst x.fst).length : Int)) (mal x_2.snd.snd.fst r1 ∧ (0 : Int) ≤ x_2.fst ∧ x_2.fst < (↑(mrow x_2.snd.snd.fst r1).length : Int) ∧ mal x_2.snd.snd.fst r1 ∧ (0 : Int) ≤ x_2.fst ∧ x_2.fst < (↑(mrow x_2.snd.snd.fst r1).length : Int) ∧ mal x_2.snd.fst (rd (Ty.ref (0 : Nat)) (mrow x_2.snd.snd.fst r1) x_2.fst) ∧ (0 : Int) ≤ x.snd.fst ∧ x.snd.fst < (↑(mrow x_2.snd.fst (rd (Ty.ref (0 : Nat)) (mrow x_2.snd.snd.fst r1) x_2.fst)).length : Int) ∧ mal x_2.snd.fst (rd (Ty.ref (0 : Nat)) (mrow x_2.snd.snd.fst r1) x_2.fst) ∧ (0 : Int) ≤ x.snd.fst ∧ x.snd.fst < (↑(mrow x_2.snd.fst (rd (Ty.ref (0 : Nat)) (mrow x_2.snd.snd.fst r1) x_2.fst)).length : Int) ∧ Br (rd i64 (mrow x_2.snd.fst (rd (Ty.ref (0 : Nat)) (mrow x_2.snd.snd.fst r1) x_2.fst)) x.snd.fst != (0 : Int)) (mal x_2.snd.snd.fst r1 ∧ (0 : Int) ≤ x_2.fst ∧ x_2.fst < (↑(mrow x_2.snd.snd.fst r1).length : Int) ∧ mal x_2.snd.snd.fst r1 ∧ (0 : Int) ≤ x_2.fst ∧ x_2.fst < (↑(mrow x_2.snd.snd.fst r1).length : Int) ∧ mal x_2.snd.fst (rd (Ty.ref (0 : Nat)) (mrow x_2.snd.snd.fst r1) x_2.fst) ∧ (0 : Int) ≤ x.snd.fst ∧ x.snd.fst < (↑(mrow x_2.snd.fst (rd (Ty.ref (0 : Nat)) (mrow x_2.snd.snd.fst r1) x_2.fst)).length : Int) ∧ mal x_2.snd.fst (rd (Ty.ref (0 : Nat)) (mrow x_2.snd.snd.fst r1) x_2.fst) ∧ (0 : Int) ≤ x.snd.fst ∧ x.snd.fst < (↑(mrow x_2.snd.fst (rd (Ty.ref (0 : Nat)) (mrow x_2.snd.snd.fst r1) x_2.fst)).length : Int) ∧ (Pl.preT (D.iface t1 d1) x_2.snd.fst x_2.snd.snd.fst r1 x_2.fst (↑(mrow x.snd.snd.snd.snd.fst x.fst).length : Int) (rd i64 (mrow x_2.snd.fst (rd (Ty.ref (0 : Nat)) (mrow x_2.snd.snd.fst r1) x_2.fst)) x.snd.fst) ∧ Pl.preT (D.iface t2 d2) (Pl.tkX (Pl.qA (D.iface t1 d1)) x_2.snd.fst x_2.snd.snd.fst r1 x_2.fst (↑(mrow x.snd.snd.snd.snd.fst x.fst).length : Int) (rd i64 (mrow x_2.snd.fst (rd (Ty.ref (0 : Nat)) (mrow x_2.snd.snd.fst r1) x_2.fst)) x.snd.fst)) x_2.snd.snd.fst r2 x_2.fst (↑(mrow x.snd.snd.snd.snd.fst x.fst).length : Int) (rd i64 (mrow x_2.snd.fst (rd (Ty.ref (0 : Nat)) (mrow x_2.snd.snd.fst r1) x_2.fst)) x.snd.fst)) ∧ G_2 (IntKind.i64.wrap (x_2.fst + (1 : Int)), mset (Pl.tkX (Pl.qA (D.iface t1 d1)) x_2.snd.fst x_2.snd.snd.fst r1 x_2.fst (↑(mrow x.snd.snd.snd.snd.fst x.fst).length : Int) (rd i64 (mrow x_2.snd.fst (rd (Ty.ref (0 : Nat)) (mrow x_2.snd.snd.fst r1) x_2.fst)) x.snd.fst)) (Pl.ri x_2.snd.snd.fst r2 x_2.fst) (Pl.tkl (Pl.qA (D.iface t2 d2)) (rd i64 (mrow x_2.snd.fst (rd (Ty.ref (0 : Nat)) (mrow x_2.snd.snd.fst r1) x_2.fst)) x.snd.fst) (mrow (Pl.tkX (Pl.qA (D.iface t1 d1)) x_2.snd.fst x_2.snd.snd.fst r1 x_2.fst (↑(mrow x.snd.snd.snd.snd.fst x.fst).length : Int) (rd i64 (mrow x_2.snd.fst (rd (Ty.ref (0 : Nat)) (mrow x_2.snd.snd.fst r1) x_2.fst)) x.snd.fst)) (Pl.ri x_2.snd.snd.fst r2 x_2.fst)) (mrow (Pl.tkX (Pl.qA (D.iface t1 d1)) x_2.snd.fst x_2.snd.snd.fst r1 x_2.fst (↑(mrow x.snd.snd.snd.snd.fst x.fst).length : Int) (rd i64 (mrow x_2.snd.fst (rd (Ty.ref (0 : Nat)) (mrow x_2.snd.snd.fst r1) x_2.fst)) x.snd.fst)) (Pl.ri x_2.snd.snd.fst r2 (↑(mrow x.snd.snd.snd.snd.fst x.fst).length : Int)))), x_2.snd.snd)) (G_2 (IntKind.i64.wrap (x_2.fst + (1 : Int)), x_2.snd))) (G_2 (IntKind.i64.wrap (x_2.fst + (1 : Int)), x_2.snd))) (mal x_2.snd.snd.snd.1 x.fst ∧ ((↑(mrow x_2.snd.snd.snd.1 x.fst).length : Int) + (↑[x.snd.fst].length : Int)) * (↑(nat_lit 8) : Int) ≤ (140737488355328 : Int) ∧ G (List.length x_2.snd.snd.snd.1 + (1 : Nat), IntKind.i64.wrap (x.snd.fst + (1 : Int)), x_2.snd.1, x_2.snd.snd.1, mnew (mkill x_2.snd.snd.snd.1 x.fst) (mrow x_2.snd.snd.snd.1 x.fst ++ [x.snd.fst]), ()))) n ((0 : Int), mset (Pl.scX (Pl.qA (D.iface t1 d1)) x_1.snd.fst (Pl.swO (Pl.swO x_1.snd.snd.fst r1 (↑(mrow x.snd.snd.snd.snd.fst x.fst).length : Int) x_1.fst) r2 (↑(mrow x.snd.snd.snd.snd.fst x.fst).length : Int) x_1.fst) r1 (↑(mrow x.snd.snd.snd.snd.fst x.fst).length : Int) (Pl.inv (Pl.qA (D.iface t1 d1)) (rd i64 (mrow x_1.snd.fst (rd (Ty.ref (0 : Nat)) (mrow (Pl.swO (Pl.swO x_1.snd.snd.fst r1 (↑(mrow x.snd.snd.snd.snd.fst x.fst).length : Int) x_1.fst) r2 (↑(mrow x.snd.snd.snd.snd.fst x.fst).length : Int) x_1.fst) r1) (↑(mrow x.snd.snd.snd.snd.fst x.fst).length : Int))) x.snd.fst))) (Pl.ri (Pl.swO (Pl.swO x_1.snd.snd.fst r1 (↑(mrow x.snd.snd.snd.snd.fst x.fst).length : Int) x_1.fst) r2 (↑(mrow x.snd.snd.snd.snd.fst x.fst).length : Int) x_1.fst) r2 (↑(mrow x.snd.snd.snd.snd.fst x.fst).length : Int)) (Pl.scl (Pl.qA (D.iface t2 d2)) (Pl.inv (Pl.qA (D.iface t1 d1)) (rd i64 (mrow x_1.snd.fst (rd (Ty.ref (0 : Nat)) (mrow (Pl.swO (Pl.swO x_1.snd.snd.fst r1 (↑(mrow x.snd.snd.snd.snd.fst x.fst).length : Int) x_1.fst) r2 (↑(mrow x.snd.snd.snd.snd.fst x.fst).length : Int) x_1.fst) r1) (↑(mrow x.snd.snd.snd.snd.fst x.fst).length : Int))) x.snd.fst)) (mrow (Pl.scX (Pl.qA (D.iface t1 d1)) x_1.snd.fst (Pl.swO (Pl.swO x_1.snd.snd.fst r1 (↑(mrow x.snd.snd.snd.snd.fst x.fst).length : Int) x_1.fst) r2 (↑(mrow x.snd.snd.snd.snd.fst x.fst).length : Int) x_1.fst) r1 (↑(mrow x.snd.snd.snd.snd.fst x.fst).length : Int) (Pl.inv (Pl.qA (D.iface t1 d1)) (rd i64 (mrow x_1.snd.fst (rd (Ty.ref (0 : Nat)) (mrow (Pl.swO (Pl.swO x_1.snd.snd.fst r1 (↑(mrow x.snd.snd.snd.snd.fst x.fst).length : Int) x_1.fst) r2 (↑(mrow x.snd.snd.snd.snd.fst x.fst).length : Int) x_1.fst) r1) (↑(mrow x.snd.snd.snd.snd.fst x.fst).length : Int))) x.snd.fst))) (Pl.ri (Pl.swO (Pl.swO x_1.snd.snd.fst r1 (↑(mrow x.snd.snd.snd.snd.fst x.fst).length : Int) x_1.fst) r2 (↑(mrow x.snd.snd.snd.snd.fst x.fst).length : Int) x_1.fst) r2 (↑(mrow x.snd.snd.snd.snd.fst x.fst).length : Int)))), mset (Pl.swO x_1.snd.snd.fst r1 (↑(mrow x.snd.snd.snd.snd.fst x.fst).length : Int) x_1.fst) r2 (Pl.swp (mrow (Pl.swO x_1.snd.snd.fst r1 (↑(mrow x.snd.snd.snd.snd.fst x.fst).length : Int) x_1.fst) r2) (↑(mrow x.snd.snd.snd.snd.fst x.fst).length : Int) x_1.fst), x_1.snd.snd.snd)))) (mal x_1.snd.snd.fst r1 ∧ Br (x_1.fst == (↑(mrow x_1.snd.snd.fst r1).length : Int)) (G (x.fst, IntKind.i64.wrap (x.snd.fst + (1 : Int)), x_1.snd)) ((Pl.preS x_1.snd.snd.fst r1 (↑(mrow x.snd.snd.snd.snd.fst x.fst).length : Int) x_1.fst ∧ Pl.preS (Pl.swO x_1.snd.snd.fst r1 (↑(mrow x.snd.snd.snd.snd.fst x.fst).length : Int) x_1.fst) r2 (↑(mrow x.snd.snd.snd.snd.fst x.fst).length : Int) x_1.fst) ∧ mal (Pl.swO (Pl.swO x_1.snd.snd.fst r1 (↑(mrow x.snd.snd.snd.snd.fst x.fst).length : Int) x_1.fst) r2 (↑(mrow x.snd.snd.snd.snd.fst x.fst).length : Int) x_1.fst) r1 ∧ (0 : Int) ≤ (↑(mrow x.snd.snd.snd.snd.fst x.fst).length : Int) ∧ (↑(mrow x.snd.snd.snd.snd.fst x.fst).length : Int) < (↑(mrow (Pl.swO (Pl.swO x_1.snd.snd.fst r1 (↑(mrow x.snd.snd.snd.snd.fst x.fst).length : Int) x_1.fst) r2 (↑(mrow x.snd.snd.snd.snd.fst x.fst).length : Int) x_1.fst) r1).length : Int) ∧ mal (Pl.swO (Pl.swO x_1.snd.snd.fst r1 (↑(mrow x.snd.snd.snd.snd.fst x.fst).length : Int) x_1.fst) r2 (↑(mrow x.snd.snd.snd.snd.fst x.fst).length : Int) x_1.fst) r1 ∧ (0 : Int) ≤ (↑(mrow x.snd.snd.snd.snd.fst x.fst).length : Int) ∧ (↑(mrow x.snd.snd.snd.snd.fst x.fst).length : Int) < (↑(mrow (Pl.swO (Pl.swO x_1.snd.snd.fst r1 (↑(mrow x.snd.snd.snd.snd.fst x.fst).length : Int) x_1.fst) r2 (↑(mrow x.snd.snd.snd.snd.fst x.fst).length : Int) x_1.fst) r1).length : Int) ∧ mal x_1.snd.fst (rd (Ty.ref (0 : Nat)) (mrow (Pl.swO (Pl.swO x_1.snd.snd.fst r1 (↑(mrow x.snd.snd.snd.snd.fst x.fst).length : Int) x_1.fst) r2 (↑(mrow x.snd.snd.snd.snd.fst x.fst).length : Int) x_1.fst) r1) (↑(mrow x.snd.snd.snd.snd.fst x.fst).length : Int)) ∧ (0 : Int) ≤ x.snd.fst ∧ x.snd.fst < (↑(mrow x_1.snd.fst (rd (Ty.ref (0 : Nat)) (mrow (Pl.swO (Pl.swO x_1.snd.snd.fst r1 (↑(mrow x.snd.snd.snd.snd.fst x.fst).length : Int) x_1.fst) r2 (↑(mrow x.snd.snd.snd.snd.fst x.fst).length : Int) x_1.fst) r1) (↑(mrow x.snd.snd.snd.snd.fst x.fst).length : Int))).length : Int) ∧ mal x_1.snd.fst (rd (Ty.ref (0 : Nat)) (mrow (Pl.swO (Pl.swO x_1.snd.snd.fst r1 (↑(mrow x.snd.snd.snd.snd.fst x.fst).length : Int) x_1.fst) r2 (↑(mrow x.snd.snd.snd.snd.fst x.fst).length : Int) x_1.fst) r1) (↑(mrow x.snd.snd.snd.snd.fst x.fst).length : Int)) ∧ (0 : Int) ≤ x.snd.fst ∧ x.snd.fst < (↑(mrow x_1.snd.fst (rd (Ty.ref (0 : Nat)) (mrow (Pl.swO (Pl.swO x_1.snd.snd.fst r1 (↑(mrow x.snd.snd.snd.snd.fst x.fst).length : Int) x_1.fst) r2 (↑(mrow x.snd.snd.snd.snd.fst x.fst).length : Int) x_1.fst) r1) (↑(mrow x.snd.snd.snd.snd.fst x.fst).length : Int))).length : Int) ∧ (Pl.okA (D.iface t1 d1) ∧ Pl.inQ (Pl.qA (D.iface t1 d1)) (rd i64 (mrow x_1.snd.fst (rd (Ty.ref (0 : Nat)) (mrow (Pl.swO (Pl.swO x_1.snd.snd.fst r1 (↑(mrow x.snd.snd.snd.snd.fst x.fst).length : Int) x_1.fst) r2 (↑(mrow x.snd.snd.snd.snd.fst x.fst).length : Int) x_1.fst) r1) (↑(mrow x.snd.snd.snd.snd.fst x.fst).length : Int))) x.snd.fst) ∧ rd i64 (mrow x_1.snd.fst (rd (Ty.ref (0 : Nat)) (mrow (Pl.swO (Pl.swO x_1.snd.snd.fst r1 (↑(mrow x.snd.snd.snd.snd.fst x.fst).length : Int) x_1.fst) r2 (↑(mrow x.snd.snd.snd.snd.fst x.fst).length : Int) x_1.fst) r1) (↑(mrow x.snd.snd.snd.snd.fst x.fst).length : Int))) x.snd.fst ≠ (0 : Int)) ∧ (Pl.preL (D.iface t1 d1) x_1.snd.fst (Pl.swO (Pl.swO x_1.snd.snd.fst r1 (↑(mrow x.snd.snd.snd.snd.fst x.fst).length : Int) x_1.fst) r2 (↑(mrow x.snd.snd.snd.snd.fst x.fst).length : Int) x_1.fst) r1 (↑(mrow x.snd.snd.snd.snd.fst x.fst).length : Int) (Pl.inv (Pl.qA (D.iface t1 d1)) (rd i64 (mrow x_1.snd.fst (rd (Ty.ref (0 : Nat)) (mrow (Pl.swO (Pl.swO x_1.snd.snd.fst r1 (↑(mrow x.snd.snd.snd.snd.fst x.fst).length : Int) x_1.fst) r2 (↑(mrow x.snd.snd.snd.snd.fst x.fst).length : Int) x_1.fst) r1) (↑(mrow x.snd.snd.snd.snd.fst x.fst).length : Int))) x.snd.fst)) ∧ Pl.preL (D.iface t2 d2) (Pl.scX (Pl.qA (D.iface t1 d1)) x_1.snd.fst (Pl.swO (Pl.swO x_1.snd.snd.fst r1 (↑(mrow x.snd.snd.snd.snd.fst x.fst).length : Int) x_1.fst) r2 (↑(mrow x.snd.snd.snd.snd.fst x.fst).length : Int) x_1.fst) r1 (↑(mrow x.snd.snd.snd.snd.fst x.fst).length : Int) (Pl.inv (Pl.qA (D.iface t1 d1)) (rd i64 (mrow x_1.snd.fst (rd (Ty.ref (0 : Nat)) (mrow (Pl.swO (Pl.swO x_1.snd.snd.fst r1 (↑(mrow x.snd.snd.snd.snd.fst x.fst).length : Int) x_1.fst) r2 (↑(mrow x.snd.snd.snd.snd.fst x.fst).length : Int) x_1.fst) r1) (↑(mrow x.snd.snd.snd.snd.fst x.fst).length : Int))) x.snd.fst))) (Pl.swO (Pl.swO x_1.snd.snd.fst r1 (↑(mrow x.snd.snd.snd.snd.fst x.fst).length : Int) x_1.fst) r2 (↑(mrow x.snd.snd.snd.snd.fst x.fst).length : Int) x_1.fst) r2 (↑(mrow x.snd.snd.snd.snd.fst x.fst).length : Int) (Pl.inv (Pl.qA (D.iface t1 d1)) (rd i64 (mrow x_1.snd.fst (rd (Ty.ref (0 : Nat)) (mrow (Pl.swO (Pl.swO x_1.snd.snd.fst r1 (↑(mrow x.snd.snd.snd.snd.fst x.fst).length : Int) x_1.fst) r2 (↑(mrow x.snd.snd.snd.snd.fst x.fst).length : Int) x_1.fst) r1) (↑(mrow x.snd.snd.snd.snd.fst x.fst).length : Int))) x.snd.fst))) ∧ mal (Pl.swO (Pl.swO x_1.snd.snd.fst r1 (↑(mrow x.snd.snd.snd.snd.fst x.fst).length : Int) x_1.fst) r2 (↑(mrow x.snd.snd.snd.snd.fst x.fst).length : Int) x_1.fst) r1 ∧ ∃ (n : Nat), itl (fun (G_2 : Int × List (Option (List Int)) × List (Option (List Nat)) × List (Option (List Int)) × PUnit → Prop) (x_2 : Int × List (Option (List Int)) × List (Option (List Nat)) × List (Option (List Int)) × PUnit) => Br (decide (x_2.fst < (↑(mrow (Pl.swO (Pl.swO x_1.snd.snd.fst r1 (↑(mrow x.snd.snd.snd.snd.fst x.fst).length : Int) x_1.fst) r2 (↑(mrow x.snd.snd.snd.snd.fst x.fst).length : Int) x_1.fst) r1).length : Int))) (Br (x_2.fst != (↑(mrow x.snd.snd.snd.snd.fst x.fst).length : Int)) (mal x_2.snd.snd.fst r1 ∧ (0 : Int) ≤ x_2.fst ∧ x_2.fst < (↑(mrow x_2.snd.snd.fst r1).length : Int) ∧ mal x_2.snd.snd.fst r1 ∧ (0 : Int) ≤ x_2.fst ∧ x_2.fst < (↑(mrow x_2.snd.snd.fst r1).length : Int) ∧ mal x_2.snd.fst (rd (Ty.ref (0 : Nat)) (mrow x_2.snd.snd.fst r1) x_2.fst) ∧ (0 : Int) ≤ x.snd.fst ∧ x.snd.fst < (↑(mrow x_2.snd.fst (rd (Ty.ref (0 : Nat)) (mrow x_2.snd.snd.fst r1) x_2.fst)).length : Int) ∧ mal x_2.snd.fst (rd (Ty.ref (0 : Nat)) (mrow x_2.snd.snd.fst r1) x_2.fst) ∧ (0 : Int) ≤ x.snd.fst ∧ x.snd.fst < (↑(mrow x_2.snd.fst (rd (Ty.ref (0 : Nat)) (mrow x_2.snd.snd.fst r1) x_2.fst)).length : Int) ∧ Br (rd i64 (mrow x_2.snd.fst (rd (Ty.ref (0 : Nat)) (mrow x_2.snd.snd.fst r1) x_2.fst)) x.snd.fst != (0 : Int)) (mal x_2.snd.snd.fst r1 ∧ (0 : Int) ≤ x_2.fst ∧ x_2.fst < (↑(mrow x_2.snd.snd.fst r1).length : Int) ∧ mal x_2.snd.snd.fst r1 ∧ (0 : Int) ≤ x_2.fst ∧ x_2.fst < (↑(mrow x_2.snd.snd.fst r1).length : Int) ∧ mal x_2.snd.fst (rd (Ty.ref (0 : Nat)) (mrow x_2.snd.snd.fst r1) x_2.fst) ∧ (0 : Int) ≤ x.snd.fst ∧ x.snd.fst < (↑(mrow x_2.snd.fst (rd (Ty.ref (0 : Nat)) (mrow x_2.snd.snd.fst r1) x_2.fst)).length : Int) ∧ mal x_2.snd.fst (rd (Ty.ref (0 : Nat)) (mrow x_2.snd.snd.fst r1) x_2.fst) ∧ (0 : Int) ≤ x.snd.fst ∧ x.snd.fst < (↑(mrow x_2.snd.fst (rd (Ty.ref (0 : Nat)) (mrow x_2.snd.snd.fst r1) x_2.fst)).length : Int) ∧ (Pl.preT (D.iface t1 d1) x_2.snd.fst x_2.snd.snd.fst r1 x_2.fst (↑(mrow x.snd.snd.snd.snd.fst x.fst).length : Int) (rd i64 (mrow x_2.snd.fst (rd (Ty.ref (0 : Nat)) (mrow x_2.snd.snd.fst r1) x_2.fst)) x.snd.fst) ∧ Pl.preT (D.iface t2 d2) (Pl.tkX (Pl.qA (D.iface t1 d1)) x_2.snd.fst x_2.snd.snd.fst r1 x_2.fst (↑(mrow x.snd.snd.snd.snd.fst x.fst).length : Int) (rd i64 (mrow x_2.snd.fst (rd (Ty.ref (0 : Nat)) (mrow x_2.snd.snd.fst r1) x_2.fst)) x.snd.fst)) x_2.snd.snd.fst r2 x_2.fst (↑(mrow x.snd.snd.snd.snd.fst x.fst).length : Int) (rd i64 (mrow x_2.snd.fst (rd (Ty.ref (0 : Nat)) (mrow x_2.snd.snd.fst r1) x_2.fst)) x.snd.fst)) ∧ G_2 (IntKind.i64.wrap (x_2.fst + (1 : Int)), mset (Pl.tkX (Pl.qA (D.iface t1 d1)) x_2.snd.fst x_2.snd.snd.fst r1 x_2.fst (↑(mrow x.snd.snd.snd.snd.fst x.fst).length : Int) (rd i64 (mrow x_2.snd.fst (rd (Ty.ref (0 : Nat)) (mrow x_2.snd.snd.fst r1) x_2.fst)) x.snd.fst)) (Pl.ri x_2.snd.snd.fst r2 x_2.fst) (Pl.tkl (Pl.qA (D.iface t2 d2)) (rd i64 (mrow x_2.snd.fst (rd (Ty.ref (0 : Nat)) (mrow x_2.snd.snd.fst r1) x_2.fst)) x.snd.fst) (mrow (Pl.tkX (Pl.qA (D.iface t1 d1)) x_2.snd.fst x_2.snd.snd.fst r1 x_2.fst (↑(mrow x.snd.snd.snd.snd.fst x.fst).length : Int) (rd i64 (mrow x_2.snd.fst (rd (Ty.ref (0 : Nat)) (mrow x_2.snd.snd.fst r1) x_2.fst)) x.snd.fst)) (Pl.ri x_2.snd.snd.fst r2 x_2.fst)) (mrow (Pl.tkX (Pl.qA (D.iface t1 d1)) x_2.snd.fst x_2.snd.snd.fst r1 x_2.fst (↑(mrow x.snd.snd.snd.snd.fst x.fst).length : Int) (rd i64 (mrow x_2.snd.fst (rd (Ty.ref (0 : Nat)) (mrow x_2.snd.snd.fst r1) x_2.fst)) x.snd.fst)) (Pl.ri x_2.snd.snd.fst r2 (↑(mrow x.snd.snd.snd.snd.fst x.fst).length : Int)))), x_2.snd.snd)) (G_2 (IntKind.i64.wrap (x_2.fst + (1 : Int)), x_2.snd))) (G_2 (IntKind.i64.wrap (x_2.fst + (1 : Int)), x_2.snd))) (mal x_2.snd.snd.snd.1 x.fst ∧ ((↑(mrow x_2.snd.snd.snd.1 x.fst).length : Int) + (↑[x.snd.fst].length : Int)) * (8 : Int) ≤ (140737488355328 : Int) ∧ G (List.length x_2.snd.snd.snd.1 + (1 : Nat), IntKind.i64.wrap (x.snd.fst + (1 : Int)), x_2.snd.1, x_2.snd.snd.1, mnew (mkill x_2.snd.snd.snd.1 x.fst) (mrow x_2.snd.snd.snd.1 x.fst ++ [x.snd.fst]), ()))) n ((0 : Int), mset (Pl.scX (Pl.qA (D.iface t1 d1)) x_1.snd.fst (Pl.swO (Pl.swO x_1.snd.snd.fst r1 (↑(mrow x.snd.snd.snd.snd.fst x.fst).length : Int) x_1.fst) r2 (↑(mrow x.snd.snd.snd.snd.fst x.fst).length : Int) x_1.fst) r1 (↑(mrow x.snd.snd.snd.snd.fst x.fst).length : Int) (Pl.inv (Pl.qA (D.iface t1 d1)) (rd i64 (mrow x_1.snd.fst (rd (Ty.ref (0 : Nat)) (mrow (Pl.swO (Pl.swO x_1.snd.snd.fst r1 (↑(mrow x.snd.snd.snd.snd.fst x.fst).length : Int) x_1.fst) r2 (↑(mrow x.snd.snd.snd.snd.fst x.fst).length : Int) x_1.fst) r1) (↑(mrow x.snd.snd.snd.snd.fst x.fst).length : Int))) x.snd.fst))) (Pl.ri (Pl.swO (Pl.swO x_1.snd.snd.fst r1 (↑(mrow x.snd.snd.snd.snd.fst x.fst).length : Int) x_1.fst) r2 (↑(mrow x.snd.snd.snd.snd.fst x.fst).length : Int) x_1.fst) r2 (↑(mrow x.snd.snd.snd.snd.fst x.fst).length : Int)) (Pl.scl (Pl.qA (D.iface t2 d2)) (Pl.inv (Pl.qA (D.iface t1 d1)) (rd i64 (mrow x_1.snd.fst (rd (Ty.ref (0 : Nat)) (mrow (Pl.swO (Pl.swO x_1.snd.snd.fst r1 (↑(mrow x.snd.snd.snd.snd.fst x.fst).length : Int) x_1.fst) r2 (↑(mrow x.snd.snd.snd.snd.fst x.fst).length : Int) x_1.fst) r1) (↑(mrow x.snd.snd.snd.snd.fst x.fst).length : Int))) x.snd.fst)) (mrow (Pl.scX (Pl.qA (D.iface t1 d1)) x_1.snd.fst (Pl.swO (Pl.swO x_1.snd.snd.fst r1 (↑(mrow x.snd.snd.snd.snd.fst x.fst).length : Int) x_1.fst) r2 (↑(mrow x.snd.snd.snd.snd.fst x.fst).length : Int) x_1.fst) r1 (↑(mrow x.snd.snd.snd.snd.fst x.fst).length : Int) (Pl.inv (Pl.qA (D.iface t1 d1)) (rd i64 (mrow x_1.snd.fst (rd (Ty.ref (0 : Nat)) (mrow (Pl.swO (Pl.swO x_1.snd.snd.fst r1 (↑(mrow x.snd.snd.snd.snd.fst x.fst).length : Int) x_1.fst) r2 (↑(mrow x.snd.snd.snd.snd.fst x.fst).length : Int) x_1.fst) r1) (↑(mrow x.snd.snd.snd.snd.fst x.fst).length : Int))) x.snd.fst))) (Pl.ri (Pl.swO (Pl.swO x_1.snd.snd.fst r1 (↑(mrow x.snd.snd.snd.snd.fst x.fst).length : Int) x_1.fst) r2 (↑(mrow x.snd.snd.snd.snd.fst x.fst).length : Int) x_1.fst) r2 (↑(mrow x.snd.snd.snd.snd.fst x.fst).length : Int)))), mset (Pl.swO x_1.snd.snd.fst r1 (↑(mrow x.snd.snd.snd.snd.fst x.fst).length : Int) x_1.fst) r2 (Pl.swp (mrow (Pl.swO x_1.snd.snd.fst r1 (↑(mrow x.snd.snd.snd.snd.fst x.fst).length : Int) x_1.fst) r2) (↑(mrow x.snd.snd.snd.snd.fst x.fst).length : Int) x_1.fst), x_1.snd.snd.snd)))) n ((↑(mrow x.snd.snd.snd.snd.fst x.fst).length : Int), x.snd.snd)) (x.fst = n ∧ x.snd.snd.1 = xs' ∧ x.snd.snd.snd.1 = os' ∧ x.snd.snd.snd.snd.1 = cs' ∧ True)) n_1 ((0 : Nat), (0 : Int), xs, os, [], ()))) (by kernel_rfl) ?_
  rw [e2]
  have hq := okA_q hA
  generalize hv : D.iface t1 d1 = v at *
  obtain ⟨q, hqv⟩ : ∃ q, Pl.qA v = q := ⟨_, rfl⟩
  rw [hqv] at hE h0 hq ⊢
  refine ⟨hm, Br_of (fun hz => ?_) (fun hz => ?_)⟩
  · have hz : Pl.len os r1 = 0 := by have := eq_of_beq hz; unfold Pl.len; omega
    unfold Pl.ech at hE
    rw [decide_eq_true hz, cond_true] at hE
    obtain ⟨hE1, rfl⟩ := Prod.mk.inj hE
    obtain ⟨rfl, rfl⟩ := Prod.mk.inj hE1
    subst hn hcs
    exact ⟨rfl, rfl, rfl, rfl, trivial⟩
  · have hz : Pl.len os r1 ≠ 0 := fun e => by unfold Pl.len at e; rw [e] at hz; cases hz
    rcases h0 with h0 | ⟨N, w, hN, R⟩
    · exact absurd h0 hz
    unfold Pl.ech at hE
    rw [decide_eq_false hz, cond_false] at hE
    have hl1 := R.l1
    have hri := ri_mem (os := os) (r := r1) (i := 0) (by omega) (by omega)
    obtain ⟨a1, a2, a3, a4⟩ := R.g1 _ hri
    rw [a3] at hE
    rw [rd_ri, a3]
    refine ⟨hm, by omega, by omega, hm, by omega, by omega, a1, itl_rule (fun s => ∃ (j : Nat) (xs0 : XS) (os0 : OS) (cl : List Int), j ≤ w ∧ Pl.cols q r1 r2 (xs, os) j = ((xs0, os0), cl) ∧ s = (cl.length, (j : Int), xs0, os0, Pl.cst cl, ()) ∧ Pl.Rec q r1 r2 N w xs0 os0 ∧ cl.length ≤ N) (fun s => w - s.2.1.toNat)
      ⟨0, xs, os, [], Nat.zero_le _, rfl, rfl, R, Nat.zero_le _⟩ ?_⟩
    rintro x G ⟨j, xs0, os0, cl, hj, hS, rfl, R0, hcl⟩ hG
    obtain ⟨k1, k2⟩ := cst_row cl
    simp only
    rw [k2]
    have hNN := R.nn
    have hww := R.ww
    refine Br_of (fun hlt => ?_) (fun hge => ?_)
    · have hlt : j < w := by have := of_decide_eq_true hlt; omega
      refine ⟨k1, itl_rule (fun s => ∃ k : Int, s = (k, xs0, os0, Pl.cst cl, ()) ∧ (cl.length : Int) ≤ k ∧ k ≤ N ∧ ∃ f : Nat, (N : Int) + 1 ≤ f + k ∧ Pl.kf xs0 os0 r1 j f k = Pl.colK r1 (xs0, os0) cl.length j) (fun s => ((N : Int) - s.1).toNat)
        ⟨_, rfl, Int.le_refl _, by omega, N + 1, by omega, by unfold Pl.colK Pl.len; rw [R0.l1]⟩ ?_⟩
      rintro x1 G1 ⟨k, rfl, ka, kN, f, hf, hk⟩ hG1
      simp only
      rw [R0.l1]
      have hlen : Pl.len os0 r1 = N := R0.l1
      refine ⟨R0.m1, Br_of (fun hk1 => ?_) (fun hk1 => ?_)⟩
      · have hk1 : k < N := of_decide_eq_true hk1
        obtain ⟨b1, b2, b3⟩ := Rec_ent R0 (i := k) (col := j) (by omega) hk1 (by omega) (by omega)
        rw [rd_ri, b2, rd_ent]
        refine ⟨R0.m1, by omega, hk1, R0.m1, by omega, hk1, b1, by omega, by omega, b1, by omega, by omega, Br_of (fun hz1 => ?_) (fun hz1 => ?_)⟩
        · have hz1 := eq_of_beq hz1
          rw [wrap_i64 (by omega) (by omega)]
          exact hG1 _ ⟨k + 1, rfl, by omega, by omega, f - 1, by omega, by rw [← hk, kf_go (by omega) (by rw [hlen]; exact hk1) hz1]⟩ (by simp only; omega)
        · have hz1 : Pl.ent xs0 os0 r1 k j ≠ 0 := fun e => by rw [e] at hz1; cases hz1
          have hK : Pl.colK r1 (xs0, os0) cl.length j = k := by rw [← hk]; exact kf_stop (by omega) (fun hh => hz1 hh.2)
          refine ⟨R0.m1, Br_of (fun hkN => absurd (eq_of_beq hkN) (by omega)) (fun _ => ?_)⟩
          obtain ⟨⟨P1, P2⟩, R1⟩ := Rec_sw R0 (i := cl.length) (k := k) (by omega) (by omega) (by omega) hk1
          have hent := ent_sw R0 (i := cl.length) (k := k) (by omega) (by omega) (by omega) hk1 j
          have hos : Pl.swO (Pl.swO os0 r1 cl.length k) r2 cl.length k = Pl.colO r1 r2 os0 cl.length k := rfl
          have hcol := col_yes (q := q) (r2 := r2) hK hlen (by omega)
          unfold Pl.colX at hcol
          rw [hos]
          rw [show mset (Pl.swO os0 r1 cl.length k) r2 (Pl.swp (mrow (Pl.swO os0 r1 cl.length k) r2) cl.length k) = Pl.colO r1 r2 os0 cl.length k from rfl]
          generalize Pl.colO r1 r2 os0 cl.length k = os1 at *
          obtain ⟨c1, c2, c3⟩ := Rec_ent R1 (i := cl.length) (col := j) (by omega) (by omega) (by omega) (by omega)
          rw [rd_ri, R1.l1, c2, rd_ent]
          have hne : Pl.ent xs0 os1 r1 cl.length j ≠ 0 := by rw [hent]; exact hz1
          generalize Pl.ent xs0 os1 r1 cl.length j = en at *
          obtain ⟨⟨L1, L2⟩, R2⟩ := Rec_sc hq hA hqv R1 (i := cl.length) (c := Pl.inv q en) (by omega) (by omega) (inv_inQ hq en)
          rw [show mset (Pl.scX q xs0 os1 r1 cl.length (Pl.inv q en)) (Pl.ri os1 r2 cl.length) (Pl.scl q (Pl.inv q en) (mrow (Pl.scX q xs0 os1 r1 cl.length (Pl.inv q en)) (Pl.ri os1 r2 cl.length))) = Pl.scX q (Pl.scX q xs0 os1 r1 cl.length (Pl.inv q en)) os1 r2 cl.length (Pl.inv q en) from rfl]
          generalize Pl.scX q (Pl.scX q xs0 os1 r1 cl.length (Pl.inv q en)) os1 r2 cl.length (Pl.inv q en) = X0 at *
          refine ⟨⟨P1, P2⟩, R1.m1, by omega, by omega, R1.m1, by omega, by omega, c1, by omega, by omega, c1, by omega, by omega, ⟨hA, c3, hne⟩, ⟨L1, L2⟩, R1.m1,
            itl_rule (fun s => ∃ (i : Nat) (X : XS), i ≤ N ∧ s = ((i : Int), X, os1, Pl.cst cl, ()) ∧ X = Pl.elim q r1 r2 os1 cl.length j i X0 ∧ Pl.Rec q r1 r2 N w X os1) (fun s => ((N : Int) - s.1).toNat) ⟨0, X0, Nat.zero_le _, rfl, rfl, R2⟩ ?_⟩
          rintro x2 G2 ⟨i, X, hi, rfl, hX, R3⟩ hG2
          simp only
          refine Br_of (fun hiN => ?_) (fun hiN => ?_)
          · have hiN : i < N := by have := of_decide_eq_true hiN; omega
            rw [wrap_i64 (by omega) (by omega)]
            have hstep : ∀ X', X' = Pl.elim1 q r1 r2 os1 cl.length j i X → Pl.Rec q r1 r2 N w X' os1 → G2 ((i : Int) + 1, X', os1, Pl.cst cl, ()) := fun X' hX' hR => hG2 _ ⟨i + 1, X', hiN, rfl, by rw [hX', hX]; rfl, hR⟩ (by simp only; omega)
            obtain ⟨d1, d2, d3⟩ := Rec_ent R3 (i := i) (col := j) (by omega) (by omega) (by omega) (by omega)
            refine Br_of (fun hia => ?_) (fun hia => ?_)
            · have hia : (i : Int) ≠ cl.length := by simpa using hia
              rw [rd_ri, R3.l1, d2, rd_ent]
              refine ⟨R3.m1, by omega, by omega, R3.m1, by omega, by omega, d1, by omega, by omega, d1, by omega, by omega, Br_of (fun hnz => ?_) (fun hnz => ?_)⟩
              · have hnz : Pl.ent X os1 r1 i j ≠ 0 := by simpa using hnz
                obtain ⟨T1, R4⟩ := Rec_tk hq hA hqv R3 (i := i) (k := cl.length) (c := Pl.ent X os1 r1 i j) (by omega) (by omega) (by omega) (by omega) hia d3
                exact ⟨R3.m1, by omega, by omega, R3.m1, by omega, by omega, d1, by omega, by omega, d1, by omega, by omega, T1, hstep _ (elim_yes hia hnz).symm R4⟩
              · have hnz : Pl.ent X os1 r1 i j = 0 := by simpa using hnz
                exact hstep _ (elim_no (.inr hnz)).symm R3
            · have hia : (i : Int) = cl.length := by simpa using hia
              exact hstep _ (elim_no (.inl hia)).symm R3
          · have hiN : i = N := by have := of_decide_eq_false hiN; omega
            subst hiN
            rw [k2, cst_len, cst_snoc, wrap_i64 (by omega) (by omega)]
            refine ⟨k1, by simp only [List.length_singleton]; omega, hG _ ⟨j + 1, X, os1, cl ++ [(j : Int)], hlt, ?_, ?_, R3, by simp; omega⟩ (by simp only; omega)⟩
            · rw [Pl.cols, hS]
              show Pl.col q r1 r2 (xs0, os0) cl j = _
              rw [hcol, hX]
            · rw [List.length_append]; rfl
      · have hk1 : k = N := by have := of_decide_eq_false hk1; omega
        subst hk1
        refine ⟨R0.m1, Br_of (fun _ => ?_) (fun hkN => absurd hkN (by simp))⟩
        rw [wrap_i64 (by omega) (by omega)]
        refine hG _ ⟨j + 1, xs0, os0, cl, hlt, ?_, rfl, R0, hcl⟩ (by simp only; omega)
        rw [Pl.cols, hS]
        refine col_no ?_
        rw [← hk]
        show _ = (Pl.len os0 r1 : Int)
        rw [hlen]
        exact kf_stop (by omega) (fun hh => by have := hh.1; rw [hlen] at this; omega)
    · have hge : j = w := by have := of_decide_eq_false hge; omega
      subst hge
      rw [hS] at hE
      obtain ⟨hE1, rfl⟩ := Prod.mk.inj hE
      obtain ⟨rfl, rfl⟩ := Prod.mk.inj hE1
      subst hn hcs
      exact ⟨rfl, rfl, rfl, rfl, trivial⟩
theorem snd91 : SoundPT Try.prog 91 pt91 := pt_sound (T := T91) (fn := Try.f91) (tokg (T := T91) trivial ⟨snd136, snd137, snd138, trivial⟩ trivial invsV noCv) Try.func91 (by kernel_rfl) H91 (fun avs h p v h' hf hp => by
  obtain ⟨s, cs, l, s', hs, h4, hf, rfl, rfl⟩ := ech91_some hf
  have e2 : upd (s.put h) 4 (some (.aren 3 i64 cs)) = h := by
    rw [put_get hs]
    funext id
    rw [upd_eq]
    by_cases e : id = 4
    · subst e; rw [if_pos rfl, h4]
    · rw [if_neg e]
  rw [← e2]
  obtain ⟨xs, os, t1, d1, l1, r1, t2, d2, l2, r2⟩ := s
  unfold echF at hf
  split at hf
  · rename_i r
    split at hf
    · have e := Option.some.inj hf
      obtain ⟨e1, e3⟩ := Prod.mk.inj e
      obtain ⟨e3, e4⟩ := Prod.mk.inj e3
      subst e1 e3 e4
      obtain ⟨hp1, rfl⟩ := hp
      exact vc91 xs os t1 d1 l1 r1 t2 d2 l2 r2 h _ _ _ _ _ hp1 rfl rfl rfl
    · cases hf
  · cases hf) (by kernel_rfl)
end Fd
end
section
/- A new record: contract; the echelon form and the solutions of equations: contracts. -/
set_option linter.unusedVariables false
set_option linter.unusedSimpArgs false
set_option maxRecDepth 100000
namespace Fd
open Go Fw Go.Proofs

def Pl.unitR (n i : Nat) : List Int := (List.replicate n 0).set i 1
def Pl.recX (m : List (List Int)) : Nat → XS
  | 0 => []
  | i + 1 => Pl.recX m i ++ [some (Pl.unitR m.length i), some (m.getD i [])]
def Pl.recR : Nat → List Nat
  | 0 => []
  | i + 1 => Pl.recR i ++ [2 * i + 2]
def Pl.recW : Nat → List Nat
  | 0 => []
  | i + 1 => Pl.recW i ++ [2 * i + 1]
def Pl.recO : Nat → OS
  | 0 => []
  | i + 1 => List.replicate (2 * i) none ++ [some (Pl.recR (i + 1)), some (Pl.recW (i + 1))]
def Pl.okMx (m : List (List Int)) : Prop := m.length ≤ 1000000 ∧ ∀ r ∈ m, r.length ≤ 1000000000
def base3 (h : Hp) : Hp := upd (upd (upd h 0 (some (.aren 3 i64 []))) 1 (some (.abox 107 []))) 2 (some (.aren 30 (.ref 0) []))
def new90 (avs : List AV) (h : Hp) : Option (Prop × AV × Hp) := match avs with
  | [.d (.rptr (.iface t d :: ls)), .d (.slc b (.slc (.int .i64)) m)] => (match h 0, h 1, h 2 with
    | some (.aren 3 (.int .i64) []), some (.abox 107 []), some (.aren 30 (.ref 0) []) => some (Pl.okMx m, .d (.ref 1 1), (MS.mk (Pl.recX m m.length) (Pl.recO m.length) t d ls (2 * m.length - 1) t d ls (2 * m.length)).put h)
    | _, _, _ => none)
  | _ => none
theorem new90_some {avs : List AV} {h h' : Hp} {p : Prop} {v : AV} (e : new90 avs h = some (p, v, h')) : ∃ t d ls b m, avs = [.d (.rptr (.iface t d :: ls)), .d (.slc b (.slc (.int .i64)) m)] ∧ h 0 = some (.aren 3 i64 []) ∧ h 1 = some (.abox 107 []) ∧ h 2 = some (.aren 30 (.ref 0) []) ∧
    p = Pl.okMx m ∧ v = .d (.ref 1 1) ∧ h' = (MS.mk (Pl.recX m m.length) (Pl.recO m.length) t d ls (2 * m.length - 1) t d ls (2 * m.length)).put h := by
  unfold new90 at e
  split at e
  · rename_i t d ls b m
    split at e
    · rename_i h0 h1 h2
      have e := Option.some.inj e
      obtain ⟨e1, e3⟩ := Prod.mk.inj e
      obtain ⟨e3, e4⟩ := Prod.mk.inj e3
      exact ⟨t, d, ls, b, m, rfl, h0, h1, h2, e1.symm, e3.symm, e4.symm⟩
    · cases e
  · cases e
def pt90 : PT where
  base := 4000000
  mods := [0, 1, 2]
  fn := new90
  ok := by
    intro avs h p v h' e
    obtain ⟨t, d, ls, b, m, _, e0, e1, e2, _, rfl, rfl⟩ := new90_some e
    refine ⟨fun id => ?_, fun id hid => ?_, rfl, fun id hid => ?_, fun K hK => ?_⟩
    · rw [put_eq]
      by_cases h2 : id = 2
      · subst h2; simp [e2]
      · rw [if_neg h2]
        by_cases h1 : id = 1
        · subst h1; simp [e1]
        · rw [if_neg h1]
          by_cases h0 : id = 0
          · subst h0; simp [e0]
          · rw [if_neg h0]
    · simp only [List.mem_cons, List.not_mem_nil, or_false, not_or] at hid
      rw [put_eq, if_neg hid.2.2, if_neg hid.2.1, if_neg hid.1]
    · simp only [List.mem_cons, List.not_mem_nil, or_false] at hid
      rcases hid with rfl | rfl | rfl
      · simp [e0]
      · simp [e1]
      · simp [e2]
    · obtain ⟨o, ho, ha⟩ := hK
      rw [put_eq] at ho
      by_cases h2 : K = 2
      · subst h2; exact ⟨_, e2, rfl⟩
      · rw [if_neg h2] at ho
        by_cases h1 : K = 1
        · subst h1; exact ⟨_, e1, rfl⟩
        · rw [if_neg h1] at ho
          by_cases h0 : K = 0
          · subst h0; exact ⟨_, e0, rfl⟩
          · rw [if_neg h0] at ho; exact ⟨o, ho, ha⟩
abbrev R2 : Ar := .ty (.ref 2)
def T90 : Ctx := ⟨tt, [(123, C123)], [], none, [], 4000000, [0, 1, 2], [], 0, [(14, 1), (24, 0), (35, 0), (37, 2), (49, 2)], [], [(30, 0)], [(107, [.raw, R2, .raw, R2])]⟩
def H90 : Hints := ⟨[14, 24, 35], [], [(0, ⟨[1, 5, 15, 16], [(17, si), (0, s0), (1, .ab 107 [.raw, R2, .raw, R2]), (2, sO)]⟩)], [], []⟩

end Fd
end
section
/- A new record. -/
set_option linter.unusedVariables false
set_option linter.unusedSimpArgs false
set_option maxRecDepth 100000
namespace Fd
open Go Fw Go.Proofs

theorem row_at {α : Type} {ms : List (Option (List α))} {j : Nat} {xs : List α} (h : ms[j]? = some (some xs)) : mal ms (j + 1) ∧ mrow ms (j + 1) = xs :=
  ⟨⟨xs, h⟩, by show (ms.getD j none).getD [] = xs; rw [List.getD_eq_getElem?_getD, h]; rfl⟩
theorem recX_len (m : List (List Int)) : ∀ i, (Pl.recX m i).length = 2 * i
  | 0 => rfl
  | i + 1 => by rw [Pl.recX, List.length_append, recX_len m i]; simp; omega
theorem recR_len : ∀ i, (Pl.recR i).length = i
  | 0 => rfl
  | i + 1 => by rw [Pl.recR, List.length_append, recR_len i]; simp
theorem recW_len : ∀ i, (Pl.recW i).length = i
  | 0 => rfl
  | i + 1 => by rw [Pl.recW, List.length_append, recW_len i]; simp
theorem recO_len : ∀ i, (Pl.recO i).length = 2 * i
  | 0 => rfl
  | i + 1 => by rw [Pl.recO, List.length_append, List.length_replicate]; simp; omega
theorem recO_1 (i : Nat) : mal (Pl.recO i) (2 * i - 1) ∧ mrow (Pl.recO i) (2 * i - 1) = Pl.recR i := by
  cases i with
  | zero => exact ⟨trivial, rfl⟩
  | succ k =>
    rw [show 2 * (k + 1) - 1 = 2 * k + 1 by omega, Pl.recO]
    exact row_at (by rw [List.getElem?_append_right (by simp)]; simp)
theorem recO_2 (i : Nat) (R : List Nat) : mal (mkill (Pl.recO i) (2 * i - 1) ++ [some R]) (2 * i) ∧ mrow (mkill (Pl.recO i) (2 * i - 1) ++ [some R]) (2 * i) = Pl.recW i ∧ (mkill (Pl.recO i) (2 * i - 1) ++ [some R]).length = 2 * i + 1 ∧
    ∀ W, mkill (mkill (Pl.recO i) (2 * i - 1) ++ [some R]) (2 * i) ++ [some W] = List.replicate (2 * i) none ++ [some R, some W] := by
  cases i with
  | zero => exact ⟨trivial, rfl, rfl, fun W => rfl⟩
  | succ k =>
    have e : mkill (Pl.recO (k + 1)) (2 * (k + 1) - 1) ++ [some R] = List.replicate (2 * k) none ++ [none, some (Pl.recW (k + 1)), some R] := by
      rw [show 2 * (k + 1) - 1 = 2 * k + 1 by omega, Pl.recO]
      show (List.replicate (2 * k) none ++ [some (Pl.recR (k + 1)), some (Pl.recW (k + 1))]).set (2 * k) none ++ [some R] = _
      rw [List.set_append_right _ _ (by simp), List.length_replicate, Nat.sub_self]
      simp
    rw [e, show 2 * (k + 1) = (2 * k + 1) + 1 by omega]
    obtain ⟨a1, a2⟩ := row_at (ms := List.replicate (2 * k) none ++ [none, some (Pl.recW (k + 1)), some R]) (j := 2 * k + 1) (xs := Pl.recW (k + 1)) (by rw [List.getElem?_append_right (by simp)]; simp)
    refine ⟨a1, a2, by simp, fun W => ?_⟩
    show (List.replicate (2 * k) none ++ [none, some (Pl.recW (k + 1)), some R]).set (2 * k + 1) none ++ [some W] = _
    rw [List.set_append_right _ _ (by simp), List.length_replicate, show 2 * k + 1 - 2 * k = 1 by omega, show 2 * k + 1 + 1 = 2 * k + 2 from rfl, show List.replicate (2 * k + 2) (none : Option (List Nat)) = List.replicate (2 * k) none ++ [none, none] by rw [show 2 * k + 2 = (2 * k + 1) + 1 from rfl, List.replicate_succ', List.replicate_succ', List.append_assoc]; rfl]
    simp
theorem vc90 : ∀ (t : Nat) (d : D) (ls : List D) (b : Bool) (m : List (List Int)) (h : Hp) (xs' : XS) (os' : OS) (r1 r2 : Nat), Pl.okMx m → xs' = Pl.recX m m.length → os' = Pl.recO m.length → r1 = 2 * m.length - 1 → r2 = 2 * m.length →
    VCP T90 H90 Try.f90 pt90 [.d (.rptr (.iface t d :: ls)), .d (.slc b (.slc i64) m)] (base3 h) (.d (.ref 1 1)) ((MS.mk xs' os' t d ls r1 t d ls r2).put (base3 h)) := by
  rintro t d ls b m h xs' os' r1 r2 ⟨hm1, hm2⟩ hx' ho' hr1 hr2
  refine cast (α := [D.rptr (D.iface t d :: ls), D.ref (2 : Nat) (0 : Nat), D.rptr (D.iface t d :: ls), D.ref (2 : Nat) (0 : Nat)] = [D.rptr (D.iface t d :: ls), D.ref (2 : Nat) (0 : Nat), D.rptr (D.iface t d :: ls), D.ref (2 : Nat) (0 : Nat)] ∧ ∃ (n : Nat), itl (fun (G : Int × List (Option (List Int)) × (D × Nat × D × Nat × PUnit) × List (Option (List Nat)) × PUnit → Prop) (x : Int × List (Option (List Int)) × (D × Nat × D × Nat × PUnit) × List (Option (List Nat)) × PUnit) => Br (decide (x.fst < (↑m.length : Int))) ((0 : Int) ≤ x.fst ∧ x.fst < (↑m.length : Int) ∧ (0 : Int) ≤ (↑m.length : Int) ∧ (↑m.length : Int) = (↑m.length : Int) ∧ (↑m.length : Int) * (8 : Int) ≤ (140737488355328 : Int) ∧ mal (mnew x.snd.1 (List.replicate (↑m.length : Int).toNat (0 : Int))) (List.length x.snd.1 + (1 : Nat)) ∧ (0 : Int) ≤ x.fst ∧ x.fst < (↑(mrow (mnew x.snd.1 (List.replicate (↑m.length : Int).toNat (0 : Int))) (List.length x.snd.1 + (1 : Nat))).length : Int) ∧ mal (mnew x.snd.1 (List.replicate (↑m.length : Int).toNat (0 : Int))) (List.length x.snd.1 + (1 : Nat)) ∧ (0 : Int) ≤ x.fst ∧ x.fst < (↑(mrow (mnew x.snd.1 (List.replicate (↑m.length : Int).toNat (0 : Int))) (List.length x.snd.1 + (1 : Nat))).length : Int) ∧ List.length (rd i64.slc m x.fst) ≤ (1000000000 : Nat) ∧ mal x.snd.snd.snd.1 x.snd.snd.fst.snd.fst ∧ ((↑(mrow x.snd.snd.snd.1 x.snd.snd.fst.snd.fst).length : Int) + (↑[((mnew x.snd.1 (List.replicate (↑m.length : Int).toNat (0 : Int))).set (List.length x.snd.1) (some ((mrow (mnew x.snd.1 (List.replicate (↑m.length : Int).toNat (0 : Int))) (List.length x.snd.1 + (1 : Nat))).set (Int.toNat x.fst) (1 : Int)))).length + (1 : Nat)].length : Int)) * (24 : Int) ≤ (140737488355328 : Int) ∧ mal ((mkill x.snd.snd.snd.1 x.snd.snd.fst.snd.fst).append [some (mrow x.snd.snd.snd.1 x.snd.snd.fst.snd.fst ++ [((mnew x.snd.1 (List.replicate (↑m.length : Int).toNat (0 : Int))).set (List.length x.snd.1) (some ((mrow (mnew x.snd.1 (List.replicate (↑m.length : Int).toNat (0 : Int))) (List.length x.snd.1 + (1 : Nat))).set (Int.toNat x.fst) (1 : Int)))).length + (1 : Nat)])]) x.snd.snd.fst.snd.snd.snd.fst ∧ ((↑(mrow ((mkill x.snd.snd.snd.1 x.snd.snd.fst.snd.fst).append [some (mrow x.snd.snd.snd.1 x.snd.snd.fst.snd.fst ++ [((mnew x.snd.1 (List.replicate (↑m.length : Int).toNat (0 : Int))).set (List.length x.snd.1) (some ((mrow (mnew x.snd.1 (List.replicate (↑m.length : Int).toNat (0 : Int))) (List.length x.snd.1 + (1 : Nat))).set (Int.toNat x.fst) (1 : Int)))).length + (1 : Nat)])]) x.snd.snd.fst.snd.snd.snd.fst).length : Int) + (↑[List.length x.snd.1 + (1 : Nat)].length : Int)) * (24 : Int) ≤ (140737488355328 : Int) ∧ [Ar.raw.enc (Ar.raw.enc x.snd.snd.fst.fst), D.ref (2 : Nat) (List.length x.snd.snd.snd.1 + (1 : Nat)), Ar.raw.enc (Ar.raw.enc x.snd.snd.fst.snd.snd.fst), D.ref (2 : Nat) (((mkill x.snd.snd.snd.1 x.snd.snd.fst.snd.fst).append [some (mrow x.snd.snd.snd.1 x.snd.snd.fst.snd.fst ++ [((mnew x.snd.1 (List.replicate (↑m.length : Int).toNat (0 : Int))).set (List.length x.snd.1) (some ((mrow (mnew x.snd.1 (List.replicate (↑m.length : Int).toNat (0 : Int))) (List.length x.snd.1 + (1 : Nat))).set (Int.toNat x.fst) (1 : Int)))).length + (1 : Nat)])]).length + (1 : Nat))] = [Ar.raw.enc x.snd.snd.fst.fst, D.ref (2 : Nat) (List.length x.snd.snd.snd.1 + (1 : Nat)), Ar.raw.enc x.snd.snd.fst.snd.snd.fst, D.ref (2 : Nat) (((mkill x.snd.snd.snd.1 x.snd.snd.fst.snd.fst).append [some (mrow x.snd.snd.snd.1 x.snd.snd.fst.snd.fst ++ [((mnew x.snd.1 (List.replicate (↑m.length : Int).toNat (0 : Int))).set (List.length x.snd.1) (some ((mrow (mnew x.snd.1 (List.replicate (↑m.length : Int).toNat (0 : Int))) (List.length x.snd.1 + (1 : Nat))).set (Int.toNat x.fst) (1 : Int)))).length + (1 : Nat)])]).length + (1 : Nat))] ∧ G (IntKind.i64.wrap (x.fst + (1 : Int)), ((mnew x.snd.1 (List.replicate (↑m.length : Int).toNat (0 : Int))).set (List.length x.snd.1) (some ((mrow (mnew x.snd.1 (List.replicate (↑m.length : Int).toNat (0 : Int))) (List.length x.snd.1 + (1 : Nat))).set (Int.toNat x.fst) (1 : Int)))).append [some (rd i64.slc m x.fst)], (Ar.raw.enc x.snd.snd.fst.fst, List.length x.snd.snd.snd.1 + (1 : Nat), Ar.raw.enc x.snd.snd.fst.snd.snd.fst, ((mkill x.snd.snd.snd.1 x.snd.snd.fst.snd.fst).append [some (mrow x.snd.snd.snd.1 x.snd.snd.fst.snd.fst ++ [((mnew x.snd.1 (List.replicate (↑m.length : Int).toNat (0 : Int))).set (List.length x.snd.1) (some ((mrow (mnew x.snd.1 (List.replicate (↑m.length : Int).toNat (0 : Int))) (List.length x.snd.1 + (1 : Nat))).set (Int.toNat x.fst) (1 : Int)))).length + (1 : Nat)])]).length + (1 : Nat), ()), (mkill ((mkill x.snd.snd.snd.1 x.snd.snd.fst.snd.fst).append [some (mrow x.snd.snd.snd.1 x.snd.snd.fst.snd.fst ++ [((mnew x.snd.1 (List.replicate (↑m.length : Int).toNat (0 : Int))).set (List.length x.snd.1) (some ((mrow (mnew x.snd.1 (List.replicate (↑m.length : Int).toNat (0 : Int))) (List.length x.snd.1 + (1 : Nat))).set (Int.toNat x.fst) (1 : Int)))).length + (1 : Nat)])]) x.snd.snd.fst.snd.snd.snd.fst).append [some (mrow ((mkill x.snd.snd.snd.1 x.snd.snd.fst.snd.fst).append [some (mrow x.snd.snd.snd.1 x.snd.snd.fst.snd.fst ++ [((mnew x.snd.1 (List.replicate (↑m.length : Int).toNat (0 : Int))).set (List.length x.snd.1) (some ((mrow (mnew x.snd.1 (List.replicate (↑m.length : Int).toNat (0 : Int))) (List.length x.snd.1 + (1 : Nat))).set (Int.toNat x.fst) (1 : Int)))).length + (1 : Nat)])]) x.snd.snd.fst.snd.snd.snd.fst ++ [List.length x.snd.1 + (1 : Nat)])], ())) (([] : List Int).length + (1 : Nat) = (1 : Nat) ∧ x.snd.1 = xs' ∧ [some [Ar.raw.enc x.snd.snd.fst.fst, D.ref (2 : Nat) x.snd.snd.fst.snd.fst, Ar.raw.enc x.snd.snd.fst.snd.snd.fst, D.ref (2 : Nat) x.snd.snd.fst.snd.snd.snd.fst]] = [some ((fun (s : MS) => [D.rptr (D.iface s.t1 s.d1 :: s.l1), D.ref (2 : Nat) s.r1, D.rptr (D.iface s.t2 s.d2 :: s.l2), D.ref (2 : Nat) s.r2]) { xs := xs', os := os', t1 := t, d1 := d, l1 := ls, r1 := r1, t2 := t, d2 := d, l2 := ls, r2 := r2 })] ∧ x.snd.snd.snd.1 = os' ∧ True)) n ((0 : Int), [], (D.rptr (D.iface t d :: ls), (0 : Nat), D.rptr (D.iface t d :: ls), (0 : Nat), ()), [], ())) (by kernel_rfl) ?_
  refine ⟨rfl, itl_rule (fun s => ∃ i : Nat, i ≤ m.length ∧ s = ((i : Int), Pl.recX m i, (D.rptr (.iface t d :: ls), 2 * i - 1, D.rptr (.iface t d :: ls), 2 * i, ()), Pl.recO i, ())) (fun s => m.length - s.1.toNat) ⟨0, Nat.zero_le _, rfl⟩ ?_⟩
  rintro x G ⟨i, hi, rfl⟩ hG
  simp only
  refine Br_of (fun hlt => ?_) (fun hge => ?_)
  · have hlt : i < m.length := by have := of_decide_eq_true hlt; omega
    have hXl := recX_len m i
    have hOl := recO_len i
    obtain ⟨o1, o2⟩ := recO_1 i
    rw [o2]
    have hZ : mnew (Pl.recX m i) (List.replicate (m.length : Int).toNat (0 : Int)) = Pl.recX m i ++ [some (List.replicate m.length 0)] := by rw [Int.toNat_natCast]; rfl
    rw [hZ]
    obtain ⟨z1, z2⟩ := row_at (ms := Pl.recX m i ++ [some (List.replicate m.length (0 : Int))]) (j := (Pl.recX m i).length) (xs := List.replicate m.length 0) (by rw [List.getElem?_append_right (Nat.le_refl _)]; simp)
    rw [z2]
    have hset : (Pl.recX m i ++ [some (List.replicate m.length (0 : Int))]).set (Pl.recX m i).length (some ((List.replicate m.length (0 : Int)).set (Int.toNat (i : Int)) (1 : Int))) = Pl.recX m i ++ [some (Pl.unitR m.length i)] := by
      rw [List.set_append_right _ _ (Nat.le_refl _), Nat.sub_self, Int.toNat_natCast]; rfl
    rw [hset]
    have hl1 : (Pl.recX m i ++ [some (Pl.unitR m.length i)]).length + 1 = 2 * i + 2 := by rw [List.length_append, hXl]; rfl
    rw [hl1, hXl, hOl]
    obtain ⟨p1, p2, p3, p4⟩ := recO_2 i (Pl.recR i ++ [2 * i + 2])
    have p1 : mal ((mkill (Pl.recO i) (2 * i - 1)).append [some (Pl.recR i ++ [2 * i + 2])]) (2 * i) := p1
    have p2 : mrow ((mkill (Pl.recO i) (2 * i - 1)).append [some (Pl.recR i ++ [2 * i + 2])]) (2 * i) = Pl.recW i := p2
    have p3 : ((mkill (Pl.recO i) (2 * i - 1)).append [some (Pl.recR i ++ [2 * i + 2])]).length = 2 * i + 1 := p3
    have p4 : (mkill ((mkill (Pl.recO i) (2 * i - 1)).append [some (Pl.recR i ++ [2 * i + 2])]) (2 * i)).append [some (Pl.recW i ++ [2 * i + 1])] = Pl.recO (i + 1) := p4 _
    rw [p2, p3, p4, wrap_i64 (by omega) (by omega)]
    have hrl : rd i64.slc m (i : Int) = m.getD i [] := rfl
    rw [hrl, recR_len, recW_len, List.length_replicate]
    rw [hXl] at z1
    refine ⟨by omega, by omega, by omega, trivial, by omega, z1, by omega, by omega, z1, by omega, by omega, hm2 _ (by rw [List.getD_eq_getElem?_getD, List.getElem?_eq_getElem hlt]; exact List.getElem_mem hlt), o1, by simp only [List.length_singleton]; omega, p1, by simp only [List.length_singleton]; omega, rfl, hG _ ⟨i + 1, hlt, ?_⟩ (by simp only; omega)⟩
    have e1 : (Pl.recX m i ++ [some (Pl.unitR m.length i)]).append [some (m.getD i [])] = Pl.recX m (i + 1) := by
      show (Pl.recX m i ++ [some (Pl.unitR m.length i)]) ++ [some (m.getD i [])] = _
      rw [List.append_assoc]; rfl
    rw [e1]
    rfl
  · have hge : i = m.length := by have := of_decide_eq_false hge; omega
    subst hge hx' ho' hr1 hr2
    exact ⟨rfl, rfl, rfl, rfl, trivial⟩
theorem snd90 : SoundPT Try.prog 90 pt90 := pt_sound (T := T90) (fn := Try.f90) (tokg (T := T90) ⟨snd123, trivial⟩ trivial trivial noInv noCv) Try.func90 (by kernel_rfl) H90 (fun avs h p v h' hf hp => by
  obtain ⟨t, d, ls, b, m, rfl, e0, e1, e2, rfl, rfl, rfl⟩ := new90_some hf
  have e : base3 h = h := by
    unfold base3
    funext id
    rw [upd_eq, upd_eq, upd_eq]
    by_cases h2 : id = 2
    · subst h2; rw [if_pos rfl, e2]
    · rw [if_neg h2]
      by_cases h1 : id = 1
      · subst h1; rw [if_pos rfl, e1]
      · rw [if_neg h1]
        by_cases h0 : id = 0
        · subst h0; rw [if_pos rfl, e0]
        · rw [if_neg h0]
  rw [← e]
  exact vc90 t d ls b m h _ _ _ _ hp rfl rfl rfl rfl) (by kernel_rfl)
end Fd
end
section
/- The field's methods: contracts. -/
set_option linter.unusedVariables false
set_option linter.unusedSimpArgs false
set_option maxRecDepth 100000
namespace Fd
open Go Fw Go.Proofs

def C95 : Con := ⟨[.raw, I], [I], fun (x : D × Int × Unit) => Pl.okF x.1, fun (x : D × Int × Unit) => (x.2.1 % Pl.qF x.1, ()), none⟩
def Cf2 (f : Int → Int → Int → Int) : Con := ⟨[.raw, I, I], [I], fun (x : D × Int × Int × Unit) => Pl.okF x.1, fun (x : D × Int × Int × Unit) => (f (Pl.qF x.1) (x.2.1 % Pl.qF x.1) (x.2.2.1 % Pl.qF x.1), ()), none⟩
def C30 : Con := Cf2 Pl.add
def C32 : Con := Cf2 Pl.sub
def C34 : Con := Cf2 Pl.mul
def TF (fs : List (Nat × Con)) : Ctx := TV fs VV
def T30 : Ctx := TF [(95, C95)]
def Pl.div (q a b : Int) : Int × Int := bif decide (b = 0) then (0, 6) else (Pl.mul q a (Pl.inv q b), 0)
def C36 : Con := ⟨[.raw, I, I], [I, I], fun (x : D × Int × Int × Unit) => Pl.okF x.1, fun (x : D × Int × Int × Unit) =>
  ((Pl.div (Pl.qF x.1) (x.2.1 % Pl.qF x.1) (x.2.2.1 % Pl.qF x.1)).1, (Pl.div (Pl.qF x.1) (x.2.1 % Pl.qF x.1) (x.2.2.1 % Pl.qF x.1)).2, ()), none⟩
def C42 : Con := ⟨[.raw], [I], fun (x : D × Unit) => Pl.okF x.1, fun (x : D × Unit) => (Pl.gen (Pl.qF x.1), ()), none⟩
def C80 : Con := ⟨[.raw], [L], fun (x : D × Unit) => Pl.okF x.1, fun (x : D × Unit) => (Pl.md (Pl.qF x.1), ()), none⟩
def C51 : Con := ⟨[.raw], [I, I], fun (x : D × Unit) => Pl.okF x.1, fun (x : D × Unit) => (Pl.lpf (Pl.qF x.1), Pl.K (Pl.qF x.1), ()), none⟩
def C52 : Con := ⟨[.raw], [I], fun (x : D × Unit) => Pl.okF x.1, fun (x : D × Unit) => (Pl.qF x.1, ()), none⟩
def Pl.conj (q : Int) : Nat → Int → List Int
  | 0, _ => []
  | n + 1, a => a :: Pl.conj q n (Pl.pow q a (Pl.lpf q))
def Pl.cjs (q a : Int) : List Int := Pl.conj q (Pl.K q).toNat a
def C104 : Con := ⟨[.raw, I], [L], fun (x : D × Int × Unit) => Pl.okF x.1 ∧ Pl.inQ (Pl.qF x.1) x.2.1, fun (x : D × Int × Unit) => (Pl.cjs (Pl.qF x.1) x.2.1, ()), none⟩
def H104 : Hints := lo [(0, ⟨[0, 9], [(1, si), (5, so), (10, si)]⟩)]
def T104 : Ctx := TT [(100, C100)]
def Pl.trace (q a : Int) : Int := (Pl.cjs q a).foldl (Pl.add q) 0
def Pl.norm (q a : Int) : Int := (Pl.cjs q a).foldl (Pl.mul q) 1
def C55 : Con := ⟨[.raw, I], [I], fun (x : D × Int × Unit) => Pl.okF x.1, fun (x : D × Int × Unit) => (Pl.trace (Pl.qF x.1) (x.2.1 % Pl.qF x.1), ()), none⟩
def C57 : Con := ⟨[.raw, I], [I], fun (x : D × Int × Unit) => Pl.okF x.1, fun (x : D × Int × Unit) => (Pl.norm (Pl.qF x.1) (x.2.1 % Pl.qF x.1), ()), none⟩
def H55 : Hints := lo [(0, ⟨[0, 14, 15], [(5, si), (16, si)]⟩)]
def T55 : Ctx := TF [(95, C95), (104, C104)]
def Pl.dotL (q : Int) : Int → List Int → List Int → Int
  | s, a :: l, b :: m => Pl.dotL q (Pl.add q s (Pl.mul q a b)) l m
  | s, _, _ => s
def Pl.dot (q : Int) (a b : List Int) : Int := Pl.dotL q 0 a b
def C94 : Con := ⟨[.raw, L, L], [I], fun (x : D × List Int × List Int × Unit) => Pl.okF x.1 ∧ Pl.inAll (Pl.qF x.1) x.2.1 ∧ Pl.inAll (Pl.qF x.1) x.2.2.1 ∧ x.2.1.length ≤ x.2.2.1.length, fun (x : D × List Int × List Int × Unit) => (Pl.dot (Pl.qF x.1) x.2.1 x.2.2.1, ()), none⟩
def H94 : Hints := lo [(0, ⟨[0, 2, 10, 11], [(7, si), (12, si)]⟩)]
def Pl.els (q : Int) (l : List Int) : Bool := l.all fun a => decide (0 ≤ a) && decide (a < q)
def C93 : Con := ⟨[.raw, L], [B], fun (x : D × List Int × Unit) => Pl.okF x.1 ∧ x.2.1.length ≤ 1000000000, fun (x : D × List Int × Unit) => (Pl.els (Pl.qF x.1) x.2.1, ()), none⟩
def Hz2 : Hints := ⟨[], [(1, [2])], [], [], []⟩
def T93 : Ctx := TT [(139, C139)]
/-! ### Matrices -/
def C135 : Con := ⟨[L, .raw], [B], fun (x : List Int × D × Unit) => (∃ f, Pl.okF f ∧ x.2.1 = .rptr [f]) ∧ x.1.length ≤ 1000000000, fun (x : List Int × D × Unit) => (!Pl.els (Pl.qF (match x.2.1 with | .rptr [f] => f | _ => .rptr [])) x.1, ()), none⟩
def badC (f : D) : D := .clo 135 [.rptr [f]]
def Pl.bad (v : D) (l : List Int) : Bool := match v with
  | .clo 135 [.rptr [f]] => !Pl.els (Pl.qF f) l
  | _ => false
def Vbad : Con := ⟨[.raw, L], [B], fun (x : D × List Int × Unit) => (∃ f, Pl.okF f ∧ x.1 = badC f) ∧ x.2.1.length ≤ 1000000000, fun (x : D × List Int × Unit) => (Pl.bad x.1 x.2.1, ()), none⟩
def Pl.idxR (p : List Int → Bool) : List (List Int) → Int → Int
  | [], _ => -1
  | x :: l, i => bif p x then i else Pl.idxR p l (i + 1)
def Pl.okBd (m : List (List Int)) (v : D) : Prop := (∃ f, Pl.okF f ∧ v = badC f) ∧ m.length ≤ 1000000000 ∧ ∀ r ∈ m, r.length ≤ 1000000000
def C160 : Con := ⟨[LL, .raw], [I], fun (x : List (List Int) × D × Unit) => Pl.okBd x.1 x.2.1, fun (x : List (List Int) × D × Unit) => (Pl.idxR (Pl.bad x.2.1) x.1 0, ()), none⟩
def H160 : Hints := lo [(0, ⟨[0, 1, 7], [(8, si)]⟩)]
def T160 : Ctx := TC [] Vbad
def C134 : Con := ⟨[LL, .raw], [B], fun (x : List (List Int) × D × Unit) => Pl.okBd x.1 x.2.1, fun (x : List (List Int) × D × Unit) => (x.1.any (Pl.bad x.2.1), ()), none⟩
def T134 : Ctx := TT [(160, C160)]
def T135 : Ctx := TT [(93, C93)]
def Pl.wide (m : List (List Int)) : Nat := (m.getD 0 []).length
def Pl.shape (q : Int) (m : List (List Int)) : Int :=
  bif decide (m.length > 64) || (decide (m.length > 0) && decide (Pl.wide m > 64)) then 2 else
  bif m.any (fun r => decide (r.length ≠ Pl.wide m)) then 7 else bif m.any (fun r => !Pl.els q r) then 1 else 0
def Pl.okMM (m : List (List Int)) : Prop := m.length ≤ 1000000000 ∧ ∀ r ∈ m, r.length ≤ 1000000000
def C89 : Con := ⟨[.raw, LL], [I], fun (x : D × List (List Int) × Unit) => Pl.okF x.1 ∧ Pl.okMM x.2.1, fun (x : D × List (List Int) × Unit) => (Pl.shape (Pl.qF x.1) x.2.1, ()), none⟩
def H89 : Hints := ⟨[], [(1, [2])], [(0, ⟨[1, 2, 24, 25], [(26, si)]⟩)], [], []⟩
def T89 : Ctx := TT [(134, C134)]
def Pl.sys (q : Int) (m : List (List Int)) (b : List Int) : Int :=
  bif decide (Pl.shape q m ≠ 0) then Pl.shape q m else bif decide (b.length ≠ m.length) then 7 else bif Pl.els q b then 0 else 1
def C92 : Con := ⟨[.raw, LL, L], [I], fun (x : D × List (List Int) × List Int × Unit) => Pl.okF x.1 ∧ Pl.okMM x.2.1 ∧ x.2.2.1.length ≤ 1000000000, fun (x : D × List (List Int) × List Int × Unit) => (Pl.sys (Pl.qF x.1) x.2.1 x.2.2.1, ()), none⟩
def T92 : Ctx := TT [(89, C89), (93, C93)]

end Fd
end
section
/- The field's methods. -/
set_option linter.unusedVariables false
set_option linter.unusedSimpArgs false
set_option maxRecDepth 100000
namespace Fd
open Go Fw Go.Proofs

theorem drop_cons {α : Type} {l : List α} {i : Nat} (d : α) (h : i < l.length) : l.drop i = l.getD i d :: l.drop (i + 1) := by
  rw [List.drop_eq_getElem_cons h, List.getD_eq_getElem?_getD, List.getElem?_eq_getElem h]; rfl
theorem qF_f (q : Int) : Pl.qF (D.rptr (fieldC q)) = q := rfl
theorem qF_d (q : Int) : Pl.qF (fieldD q) = q := rfl
theorem okF_f {q : Int} (hq : isQ q) : Pl.okF (D.rptr (fieldC q)) := ⟨q, hq, rfl⟩
theorem okF_d {q : Int} (hq : isQ q) : Pl.okF (fieldD q) := ⟨q, hq, rfl⟩
theorem okA_ar {q : Int} (hq : isQ q) : Pl.okA (arD q) := ⟨q, hq, rfl⟩
theorem okM_ar {q : Int} (hq : isQ q) : Pl.okM (arD q) := ⟨q, hq, .inl rfl⟩
theorem okM_f {q : Int} (hq : isQ q) : Pl.okM (D.iface 23 (D.rptr (fieldC q))) := ⟨q, hq, .inr (.inr (.inr rfl))⟩
theorem qA_f (q : Int) : Pl.qA (D.iface 23 (D.rptr (fieldC q))) = q := rfl
theorem okF_nr {v : D} (h : Pl.okF v) : v.nr := by
  obtain ⟨q, hq, rfl⟩ := h
  exact nr_field hq
theorem wrap_mod {q a : Int} (q2 : 2 ≤ q) (q6 : q ≤ 65536) : (IntKind.i64.wrap (a.tmod q + q)).tmod q = a % q := by
  have h1 := Int.tmod_lt_of_pos a (show 0 < q by omega)
  have h2 := Int.lt_tmod_of_pos a (show 0 < q by omega)
  rw [wrap_i64 (by omega) (by omega), tmod_pos (by omega), Int.add_emod_right]
  rcases ilt a 0 with h | h
  · have h3 := Int.emod_add_mul_ediv a q
    have h4 := Int.tmod_add_mul_tdiv a q
    have e : a.tmod q = a - q * a.tdiv q := by omega
    rw [e, Int.sub_mul_emod_self_left]
  · rw [Int.tmod_eq_emod_of_nonneg h, Int.emod_emod]
theorem vc95 : ∀ x, C95.pre x → VC (TT []) H0 Try.f95 C95 x := by
  rintro ⟨v, (a : Int), ⟨⟩⟩ ⟨q, hq, (rfl : v = _)⟩
  show q ≠ (0 : Int) ∧ q ≠ (0 : Int) ∧ ((IntKind.i64.wrap (a.tmod q + q)).tmod q, ()) = C95.post (fieldD q, a, ())
  have q2 := hq.1
  have q6 := hq.2.1
  refine ⟨by omega, by omega, ?_⟩
  rw [wrap_mod q2 q6]; rfl
theorem vcA {f : Int → Int → Int → Int} {q a b : Int} : (f q (a % q) (b % q), ()) = (Cf2 f).post (fieldD q, a, b, ()) := rfl
theorem vc30 : ∀ x, C30.pre x → VC T30 H0 Try.f30 C30 x := by
  rintro ⟨v, (a : Int), (b : Int), ⟨⟩⟩ ⟨q, hq, (rfl : v = _)⟩
  show Pl.okF (D.rptr (fieldC q)) ∧ Pl.okF (D.rptr (fieldC q)) ∧ (Pl.okA (arD q) ∧ Pl.inQ (Pl.qA (arD q)) (a % Pl.qF (D.rptr (fieldC q))) ∧ Pl.inQ (Pl.qA (arD q)) (b % Pl.qF (D.rptr (fieldC q)))) ∧ (Pl.add (Pl.qA (arD q)) (a % Pl.qF (D.rptr (fieldC q))) (b % Pl.qF (D.rptr (fieldC q))), ()) = C30.post (fieldD q, a, b, ())
  rw [qF_f, qA_ar hq]
  exact ⟨okF_f hq, okF_f hq, ⟨okA_ar hq, emod_inQ hq a, emod_inQ hq b⟩, rfl⟩
theorem vc32 : ∀ x, C32.pre x → VC T30 H0 Try.f32 C32 x := by
  rintro ⟨v, (a : Int), (b : Int), ⟨⟩⟩ ⟨q, hq, (rfl : v = _)⟩
  show Pl.okF (D.rptr (fieldC q)) ∧ Pl.okF (D.rptr (fieldC q)) ∧ (Pl.okA (arD q) ∧ Pl.inQ (Pl.qA (arD q)) (a % Pl.qF (D.rptr (fieldC q))) ∧ Pl.inQ (Pl.qA (arD q)) (b % Pl.qF (D.rptr (fieldC q)))) ∧ (Pl.sub (Pl.qA (arD q)) (a % Pl.qF (D.rptr (fieldC q))) (b % Pl.qF (D.rptr (fieldC q))), ()) = C32.post (fieldD q, a, b, ())
  rw [qF_f, qA_ar hq]
  exact ⟨okF_f hq, okF_f hq, ⟨okA_ar hq, emod_inQ hq a, emod_inQ hq b⟩, rfl⟩
theorem vc34 : ∀ x, C34.pre x → VC T30 H0 Try.f34 C34 x := by
  rintro ⟨v, (a : Int), (b : Int), ⟨⟩⟩ ⟨q, hq, (rfl : v = _)⟩
  show Pl.okF (D.rptr (fieldC q)) ∧ Pl.okF (D.rptr (fieldC q)) ∧ (Pl.okM (arD q) ∧ Pl.inQ (Pl.qA (arD q)) (a % Pl.qF (D.rptr (fieldC q))) ∧ Pl.inQ (Pl.qA (arD q)) (b % Pl.qF (D.rptr (fieldC q)))) ∧ (Pl.mul (Pl.qA (arD q)) (a % Pl.qF (D.rptr (fieldC q))) (b % Pl.qF (D.rptr (fieldC q))), ()) = C34.post (fieldD q, a, b, ())
  rw [qF_f, qA_ar hq]
  exact ⟨okF_f hq, okF_f hq, ⟨okM_ar hq, emod_inQ hq a, emod_inQ hq b⟩, rfl⟩
theorem vc36 : ∀ x, C36.pre x → VC T30 H0 Try.f36 C36 x := by
  rintro ⟨v, (a : Int), (b : Int), ⟨⟩⟩ ⟨q, hq, (rfl : v = _)⟩
  show Pl.okF (D.rptr (fieldC q)) ∧ Br (b % Pl.qF (D.rptr (fieldC q)) == (0 : Int)) (((0 : Int), (6 : Int), ()) = C36.post (fieldD q, a, b, ())) (Pl.okF (D.rptr (fieldC q)) ∧ Pl.okF (D.rptr (fieldC q)) ∧ (Pl.okA (arD q) ∧ Pl.inQ (Pl.qA (arD q)) (b % Pl.qF (D.rptr (fieldC q))) ∧ b % Pl.qF (D.rptr (fieldC q)) ≠ (0 : Int)) ∧ (Pl.okM (arD q) ∧ Pl.inQ (Pl.qA (arD q)) (a % Pl.qF (D.rptr (fieldC q))) ∧ Pl.inQ (Pl.qA (arD q)) (Pl.inv (Pl.qA (arD q)) (b % Pl.qF (D.rptr (fieldC q))))) ∧ (Pl.mul (Pl.qA (arD q)) (a % Pl.qF (D.rptr (fieldC q))) (Pl.inv (Pl.qA (arD q)) (b % Pl.qF (D.rptr (fieldC q)))), (0 : Int), ()) = C36.post (fieldD q, a, b, ()))
  rw [qF_f, qA_ar hq]
  have hp : C36.post (fieldD q, a, b, ()) = ((Pl.div q (a % q) (b % q)).1, (Pl.div q (a % q) (b % q)).2, ()) := rfl
  rw [hp]
  unfold Pl.div
  refine ⟨okF_f hq, Br_of (fun h => ?_) (fun h => ?_)⟩
  · rw [decide_eq_true (eq_of_beq h)]; rfl
  · have h : b % q ≠ 0 := by simpa using h
    rw [decide_eq_false h]
    exact ⟨okF_f hq, okF_f hq, ⟨okA_ar hq, emod_inQ hq b, h⟩, ⟨okM_ar hq, emod_inQ hq a, inv_inQ hq _⟩, rfl⟩
theorem vc42 : ∀ x, C42.pre x → VC (TT []) H0 Try.f42 C42 x := by
  rintro ⟨v, ⟨⟩⟩ ⟨q, hq, (rfl : v = _)⟩
  show (Pl.gen q, ()) = C42.post (fieldD q, ())
  rfl
theorem vc51 : ∀ x, C51.pre x → VC (TT []) H0 Try.f51 C51 x := by
  rintro ⟨v, ⟨⟩⟩ ⟨q, hq, (rfl : v = _)⟩
  show (Pl.lpf q, Pl.K q, ()) = C51.post (fieldD q, ())
  rfl
theorem vc52 : ∀ x, C52.pre x → VC (TT []) H0 Try.f52 C52 x := by
  rintro ⟨v, ⟨⟩⟩ ⟨q, hq, (rfl : v = _)⟩
  show (q, ()) = C52.post (fieldD q, ())
  rfl
theorem vc80 : ∀ x, C80.pre x → VC (TT [(123, C123)]) H0 Try.f80 C80 x := by
  rintro ⟨v, ⟨⟩⟩ ⟨q, hq, (rfl : v = _)⟩
  show (Pl.md q).length ≤ (1000000000 : Nat) ∧ (Pl.md q, ()) = C80.post (fieldD q, ())
  refine ⟨?_, rfl⟩
  have := (md_spec hq).1
  have := isQ.K64 hq
  omega
theorem conj_len (q : Int) : ∀ (n : Nat) (a : Int), (Pl.conj q n a).length = n
  | 0, _ => rfl
  | n + 1, a => by rw [Pl.conj, List.length_cons, conj_len]
theorem conj_in {q : Int} (hq : isQ q) : ∀ (n : Nat) (a : Int), Pl.inQ q a → ∀ x ∈ Pl.conj q n a, Pl.inQ q x
  | 0, _, _, x, hx => by cases hx
  | n + 1, a, ha, x, hx => by
    rw [Pl.conj] at hx
    rcases List.mem_cons.1 hx with rfl | hx
    · exact ha
    · exact conj_in hq n _ (pow_inQ hq _ _) x hx
theorem vc104 : ∀ x, C104.pre x → VC T104 H104 Try.f104 C104 x := by
  rintro ⟨v, (a : Int), ⟨⟩⟩ ⟨⟨q, hq, (rfl : v = _)⟩, (ha : Pl.inQ (Pl.qF (fieldD q)) a)⟩
  rw [qF_d] at ha
  show ∃ (n : Nat), itl (fun (G : Int × List Int × Int × PUnit → Prop) (x : Int × List Int × Int × PUnit) => Br (decide (x.snd.snd.fst < Pl.K q)) (((↑(List.length x.snd.fst) : Int) + (↑[x.fst].length : Int)) * (8 : Int) ≤ (140737488355328 : Int) ∧ (Pl.okM (D.iface (23 : Nat) (D.rptr (fieldC q))) ∧ Pl.inQ (Pl.qA (D.iface (23 : Nat) (D.rptr (fieldC q)))) x.fst ∧ (0 : Int) ≤ Pl.lpf q ∧ Pl.lpf q ≤ (4611686018427387904 : Int)) ∧ G (Pl.pow (Pl.qA (D.iface (23 : Nat) (D.rptr (fieldC q)))) x.fst (Pl.lpf q), List.append x.snd.fst [x.fst], IntKind.i64.wrap (x.snd.snd.fst + (1 : Int)), ())) ((x.snd.1, ()) = C104.post (fieldD q, a, ()))) n (a, [], (0 : Int), ())
  rw [qA_f]
  have hp : C104.post (fieldD q, a, ()) = (Pl.cjs q a, ()) := rfl
  rw [hp]
  have hK := isQ.K64 hq
  have hK1 := hq.2.2
  have hl2 := hq.prime.1
  have hl6 := (lpf_spec hq.1 hq.2.1).2.1
  have hq6 := hq.2.1
  refine itl_rule (fun s => ∃ i : Nat, s.2.2.1 = (i : Int) ∧ i ≤ (Pl.K q).toNat ∧ Pl.inQ q s.1 ∧ s.2.1.length = i ∧ s.2.1 ++ Pl.conj q ((Pl.K q).toNat - i) s.1 = Pl.cjs q a) (fun s => (Pl.K q - s.2.2.1).toNat) ⟨0, rfl, Nat.zero_le _, ha, rfl, rfl⟩ ?_
  rintro ⟨z, out, i0, ⟨⟩⟩ G ⟨i, e, hi, hz, ho, hc⟩ hG
  simp only at e hz ho hc hG ⊢
  subst e
  refine Br_of (fun h => ?_) (fun h => ?_)
  · have h : (i : Int) < Pl.K q := of_decide_eq_true h
    rw [wrap_i64 (by omega) (by omega)]
    refine ⟨by simp only [List.length_singleton]; omega, ⟨okM_f hq, hz, by omega, by omega⟩, hG _ ⟨i + 1, rfl, by omega, pow_inQ hq _ _, ?_, ?_⟩ (by simp only; omega)⟩
    · show (out ++ [z]).length = i + 1
      rw [List.length_append, ho]; rfl
    · show (out ++ [z]) ++ Pl.conj q ((Pl.K q).toNat - (i + 1)) (Pl.pow q z (Pl.lpf q)) = _
      rw [← hc, List.append_assoc, show (Pl.K q).toNat - i = ((Pl.K q).toNat - (i + 1)) + 1 by omega]; rfl
  · have h : ¬ (i : Int) < Pl.K q := of_decide_eq_false h
    rw [show (Pl.K q).toNat - i = 0 by omega] at hc
    rw [← hc]
    show (out, ()) = (out ++ [], ())
    rw [List.append_nil]
theorem cjs_len {q : Int} (hq : isQ q) (a : Int) : (Pl.cjs q a).length < 17 := by
  unfold Pl.cjs; rw [conj_len]; exact isQ.K64 hq
theorem cjs_in {q : Int} (hq : isQ q) {a : Int} (ha : Pl.inQ q a) : ∀ x ∈ Pl.cjs q a, Pl.inQ q x := conj_in hq _ a ha
theorem rd_i (l : List Int) (i : Nat) : rd i64 l (i : Int) = l.getD i 0 := rfl
theorem vc55 : ∀ x, C55.pre x → VC T55 H55 Try.f55 C55 x := by
  rintro ⟨v, (a : Int), ⟨⟩⟩ ⟨q, hq, (rfl : v = _)⟩
  show Pl.okF (D.rptr (fieldC q)) ∧ (Pl.okF (D.rptr (fieldC q)) ∧ Pl.inQ (Pl.qF (D.rptr (fieldC q))) (a % Pl.qF (D.rptr (fieldC q)))) ∧ ∃ (n : Nat), itl (fun (G : Int × Int × PUnit → Prop) (x : Int × Int × PUnit) => Br (decide (x.snd.fst < (↑(Pl.cjs (Pl.qF (D.rptr (fieldC q))) (a % Pl.qF (D.rptr (fieldC q)))).length : Int))) ((0 : Int) ≤ x.snd.fst ∧ x.snd.fst < (↑(Pl.cjs (Pl.qF (D.rptr (fieldC q))) (a % Pl.qF (D.rptr (fieldC q)))).length : Int) ∧ (Pl.okA (arD q) ∧ Pl.inQ (Pl.qA (arD q)) x.fst ∧ Pl.inQ (Pl.qA (arD q)) (rd i64 (Pl.cjs (Pl.qF (D.rptr (fieldC q))) (a % Pl.qF (D.rptr (fieldC q)))) x.snd.fst)) ∧ G (Pl.add (Pl.qA (arD q)) x.fst (rd i64 (Pl.cjs (Pl.qF (D.rptr (fieldC q))) (a % Pl.qF (D.rptr (fieldC q)))) x.snd.fst), IntKind.i64.wrap (x.snd.fst + (1 : Int)), ())) ((x.fst, ()) = C55.post (fieldD q, a, ()))) n ((0 : Int), (0 : Int), ())
  rw [qF_f, qA_ar hq]
  have hp : C55.post (fieldD q, a, ()) = ((Pl.cjs q (a % q)).foldl (Pl.add q) 0, ()) := rfl
  rw [hp]
  have hl := cjs_len hq (a % q)
  have hin := cjs_in hq (emod_inQ hq a)
  generalize Pl.cjs q (a % q) = l at *
  refine ⟨okF_f hq, ⟨okF_f hq, emod_inQ hq a⟩, itl_rule (fun s => ∃ i : Nat, s.2.1 = (i : Int) ∧ i ≤ l.length ∧ Pl.inQ q s.1 ∧ (l.drop i).foldl (Pl.add q) s.1 = l.foldl (Pl.add q) 0) (fun s => ((l.length : Int) - s.2.1).toNat) ⟨0, rfl, Nat.zero_le _, zero_inQ hq, rfl⟩ ?_⟩
  rintro ⟨s, i0, ⟨⟩⟩ G ⟨i, e, hi, hs, hf⟩ hG
  simp only at e hs hf hG ⊢
  subst e
  refine Br_of (fun h => ?_) (fun h => ?_)
  · have h : i < l.length := by have := of_decide_eq_true h; omega
    rw [rd_i, wrap_i64 (by omega) (by omega)]
    rw [drop_cons 0 h, List.foldl_cons] at hf
    exact ⟨by omega, by omega, ⟨okA_ar hq, hs, getD_inQ hin h⟩, hG _ ⟨i + 1, rfl, by omega, add_inQ hq _ _, hf⟩ (by simp only; omega)⟩
  · have h : i = l.length := by have := of_decide_eq_false h; omega
    subst h
    rw [List.drop_length] at hf
    rw [← hf]; rfl
theorem vc57 : ∀ x, C57.pre x → VC T55 H55 Try.f57 C57 x := by
  rintro ⟨v, (a : Int), ⟨⟩⟩ ⟨q, hq, (rfl : v = _)⟩
  show Pl.okF (D.rptr (fieldC q)) ∧ (Pl.okF (D.rptr (fieldC q)) ∧ Pl.inQ (Pl.qF (D.rptr (fieldC q))) (a % Pl.qF (D.rptr (fieldC q)))) ∧ ∃ (n : Nat), itl (fun (G : Int × Int × PUnit → Prop) (x : Int × Int × PUnit) => Br (decide (x.snd.fst < (↑(Pl.cjs (Pl.qF (D.rptr (fieldC q))) (a % Pl.qF (D.rptr (fieldC q)))).length : Int))) ((0 : Int) ≤ x.snd.fst ∧ x.snd.fst < (↑(Pl.cjs (Pl.qF (D.rptr (fieldC q))) (a % Pl.qF (D.rptr (fieldC q)))).length : Int) ∧ (Pl.okM (arD q) ∧ Pl.inQ (Pl.qA (arD q)) x.fst ∧ Pl.inQ (Pl.qA (arD q)) (rd i64 (Pl.cjs (Pl.qF (D.rptr (fieldC q))) (a % Pl.qF (D.rptr (fieldC q)))) x.snd.fst)) ∧ G (Pl.mul (Pl.qA (arD q)) x.fst (rd i64 (Pl.cjs (Pl.qF (D.rptr (fieldC q))) (a % Pl.qF (D.rptr (fieldC q)))) x.snd.fst), IntKind.i64.wrap (x.snd.fst + (1 : Int)), ())) ((x.fst, ()) = C57.post (fieldD q, a, ()))) n ((1 : Int), (0 : Int), ())
  rw [qF_f, qA_ar hq]
  have hp : C57.post (fieldD q, a, ()) = ((Pl.cjs q (a % q)).foldl (Pl.mul q) 1, ()) := rfl
  rw [hp]
  have hl := cjs_len hq (a % q)
  have hin := cjs_in hq (emod_inQ hq a)
  generalize Pl.cjs q (a % q) = l at *
  refine ⟨okF_f hq, ⟨okF_f hq, emod_inQ hq a⟩, itl_rule (fun s => ∃ i : Nat, s.2.1 = (i : Int) ∧ i ≤ l.length ∧ Pl.inQ q s.1 ∧ (l.drop i).foldl (Pl.mul q) s.1 = l.foldl (Pl.mul q) 1) (fun s => ((l.length : Int) - s.2.1).toNat) ⟨0, rfl, Nat.zero_le _, one_inQ hq, rfl⟩ ?_⟩
  rintro ⟨s, i0, ⟨⟩⟩ G ⟨i, e, hi, hs, hf⟩ hG
  simp only at e hs hf hG ⊢
  subst e
  refine Br_of (fun h => ?_) (fun h => ?_)
  · have h : i < l.length := by have := of_decide_eq_true h; omega
    rw [rd_i, wrap_i64 (by omega) (by omega)]
    rw [drop_cons 0 h, List.foldl_cons] at hf
    exact ⟨by omega, by omega, ⟨okM_ar hq, hs, getD_inQ hin h⟩, hG _ ⟨i + 1, rfl, by omega, mul_inQ hq _ _, hf⟩ (by simp only; omega)⟩
  · have h : i = l.length := by have := of_decide_eq_false h; omega
    subst h
    rw [List.drop_length] at hf
    rw [← hf]; rfl
theorem vc94 : ∀ x, C94.pre x → VC (TF []) H94 Try.f94 C94 x := by
  rintro ⟨v, (a : List Int), (b : List Int), ⟨⟩⟩ ⟨⟨q, hq, (rfl : v = _)⟩, (ha : Pl.inAll (Pl.qF (fieldD q)) a), (hb : Pl.inAll (Pl.qF (fieldD q)) b), (hl : a.length ≤ b.length)⟩
  rw [qF_d] at ha hb
  show ∃ (n : Nat), itl (fun (G : Int × Int × PUnit → Prop) (x : Int × Int × PUnit) => Br (decide (x.snd.fst < (↑a.length : Int))) ((0 : Int) ≤ x.snd.fst ∧ x.snd.fst < (↑a.length : Int) ∧ (0 : Int) ≤ x.snd.fst ∧ x.snd.fst < (↑b.length : Int) ∧ (Pl.okM (arD q) ∧ Pl.inQ (Pl.qA (arD q)) (rd i64 a x.snd.fst) ∧ Pl.inQ (Pl.qA (arD q)) (rd i64 b x.snd.fst)) ∧ (Pl.okA (arD q) ∧ Pl.inQ (Pl.qA (arD q)) x.fst ∧ Pl.inQ (Pl.qA (arD q)) (Pl.mul (Pl.qA (arD q)) (rd i64 a x.snd.fst) (rd i64 b x.snd.fst))) ∧ G (Pl.add (Pl.qA (arD q)) x.fst (Pl.mul (Pl.qA (arD q)) (rd i64 a x.snd.fst) (rd i64 b x.snd.fst)), IntKind.i64.wrap (x.snd.fst + (1 : Int)), ())) ((x.fst, ()) = C94.post (fieldD q, a, b, ()))) n ((0 : Int), (0 : Int), ())
  rw [qA_ar hq]
  have hp : C94.post (fieldD q, a, b, ()) = (Pl.dotL q 0 a b, ()) := rfl
  rw [hp]
  obtain ⟨ha, hal⟩ := ha
  obtain ⟨hb, hbl⟩ := hb
  refine itl_rule (fun s => ∃ i : Nat, s.2.1 = (i : Int) ∧ i ≤ a.length ∧ Pl.inQ q s.1 ∧ Pl.dotL q s.1 (a.drop i) (b.drop i) = Pl.dotL q 0 a b) (fun s => ((a.length : Int) - s.2.1).toNat) ⟨0, rfl, Nat.zero_le _, zero_inQ hq, rfl⟩ ?_
  rintro ⟨s, i0, ⟨⟩⟩ G ⟨i, e, hi, hs, hf⟩ hG
  simp only at e hs hf hG ⊢
  subst e
  refine Br_of (fun h => ?_) (fun h => ?_)
  · have h : i < a.length := by have := of_decide_eq_true h; omega
    rw [rd_i, rd_i, wrap_i64 (by omega) (by omega)]
    rw [drop_cons 0 h, drop_cons 0 (show i < b.length by omega), Pl.dotL] at hf
    exact ⟨by omega, by omega, by omega, by omega, ⟨okM_ar hq, getD_inQ ha h, getD_inQ hb (by omega)⟩, ⟨okA_ar hq, hs, mul_inQ hq _ _⟩, hG _ ⟨i + 1, rfl, by omega, add_inQ hq _ _, hf⟩ (by simp only; omega)⟩
  · have h : i = a.length := by have := of_decide_eq_false h; omega
    subst h
    rw [List.drop_length] at hf
    rw [← hf]; rfl
theorem nr_out {q : Int} (hq : isQ q) : (D.clo 140 [D.rptr [D.rptr (fieldC q)]]).nr := ⟨⟨nr_field hq, trivial⟩, trivial⟩
theorem vc93 : ∀ x, C93.pre x → VC T93 Hz2 Try.f93 C93 x := by
  rintro ⟨v, (l : List Int), ⟨⟩⟩ ⟨⟨q, hq, (rfl : v = _)⟩, (hl : l.length ≤ 1000000000)⟩
  show Pl.okTl l (D.clo (140 : Nat) [D.rptr [D.rptr (fieldC q)]]) ∧
      (!l.any (Pl.tells (D.clo (140 : Nat) [D.rptr [D.rptr (fieldC q)]])), ()) = C93.post (fieldD q, l, ())
  refine ⟨⟨hl, nr_out hq, .inr (.inr ⟨fieldC q, rfl, q, _, _, rfl, nr_ar hq, trivial, trivial, rfl, trivial, trivial⟩)⟩, ?_⟩
  show _ = (Pl.els q l, ())
  congr 1
  unfold Pl.els
  rw [List.not_any_eq_all_not]
  congr 1
  funext a
  show (!(decide (a < 0) || decide (a ≥ q))) = _
  by_cases h1 : 0 ≤ a <;> by_cases h2 : a < q
  · rw [decide_eq_false (show ¬ a < 0 by omega), decide_eq_false (show ¬ a ≥ q by omega), decide_eq_true h1, decide_eq_true h2]; rfl
  · rw [decide_eq_true (show a ≥ q by omega), decide_eq_false h2]; simp
  · rw [decide_eq_true (show a < 0 by omega), decide_eq_false h1]; rfl
  · rw [decide_eq_true (show a < 0 by omega), decide_eq_false h1]; rfl
theorem vc135 : ∀ x, C135.pre x → VC T135 H0 Try.f135 C135 x := by
  rintro ⟨(l : List Int), v, ⟨⟩⟩ ⟨⟨f, ⟨q, hq, (rfl : f = _)⟩, (rfl : v = _)⟩, (hl : l.length ≤ 1000000000)⟩
  show (Pl.okF (fieldD q) ∧ l.length ≤ (1000000000 : Nat)) ∧
      (!Pl.els (Pl.qF (fieldD q)) l, ()) = C135.post (l, D.rptr [fieldD q], ())
  exact ⟨⟨okF_d hq, hl⟩, rfl⟩
theorem rd_r (m : List (List Int)) (i : Nat) : rd i64.slc m (i : Int) = m.getD i [] := rfl
theorem rd_r0 (m : List (List Int)) : rd i64.slc m (0 : Int) = m.getD 0 [] := rfl
theorem rowD_mem {m : List (List Int)} {i : Nat} (h : i < m.length) : m.getD i [] ∈ m := by
  rw [List.getD_eq_getElem?_getD, List.getElem?_eq_getElem h]; exact List.getElem_mem h
theorem idxR_le (p : List Int → Bool) : ∀ (m : List (List Int)) (k : Int), 0 ≤ k → (Pl.idxR p m k = -1 ∧ m.any p = false) ∨ (0 ≤ Pl.idxR p m k ∧ m.any p = true)
  | [], k, hk => .inl ⟨rfl, rfl⟩
  | x :: m, k, hk => by
    rw [Pl.idxR, List.any_cons]
    cases hp : p x with
    | true => exact .inr ⟨hk, rfl⟩
    | false => exact idxR_le p m (k + 1) (by omega)
theorem vc160 : ∀ x, C160.pre x → VC T160 H160 Try.f160 C160 x := by
  rintro ⟨(m : List (List Int)), v, ⟨⟩⟩ ⟨⟨f, ⟨q, hq, (rfl : f = _)⟩, (rfl : v = _)⟩, (hl : m.length ≤ 1000000000), (hr : ∀ r ∈ m, r.length ≤ 1000000000)⟩
  show ∃ (n : Nat), itl (fun (G : Int × PUnit → Prop) (x : Int × PUnit) => Br (decide (x.fst < (↑m.length : Int))) ((0 : Int) ≤ x.fst ∧ x.fst < (↑m.length : Int) ∧ ((∃ (f : D), Pl.okF f ∧ D.clo (135 : FuncId) [D.rptr [fieldD q]] = badC f) ∧ List.length (rd i64.slc m x.fst) ≤ (1000000000 : Nat)) ∧ Br (Pl.bad (D.clo (135 : FuncId) [D.rptr [fieldD q]]) (rd i64.slc m x.fst)) (x = C160.post (m, badC (fieldD q), ())) (G (IntKind.i64.wrap (x.fst + (1 : Int)), ()))) (((-1 : Int), ()) = C160.post (m, badC (fieldD q), ()))) n ((0 : Int), ())
  have hp : C160.post (m, badC (fieldD q), ()) = (Pl.idxR (Pl.bad (badC (fieldD q))) m 0, ()) := rfl
  rw [hp]
  have hb : D.clo (135 : FuncId) [D.rptr [fieldD q]] = badC (fieldD q) := rfl
  rw [hb]
  refine itl_rule (fun s => ∃ i : Nat, s.1 = (i : Int) ∧ i ≤ m.length ∧ Pl.idxR (Pl.bad (badC (fieldD q))) (m.drop i) (i : Int) = Pl.idxR (Pl.bad (badC (fieldD q))) m 0) (fun s => ((m.length : Int) - s.1).toNat) ⟨0, rfl, Nat.zero_le _, rfl⟩ ?_
  rintro ⟨i0, ⟨⟩⟩ G ⟨i, e, hi, hf⟩ hG
  simp only at e hf hG ⊢
  subst e
  refine Br_of (fun h => ?_) (fun h => ?_)
  · have h : i < m.length := by have := of_decide_eq_true h; omega
    rw [rd_r, wrap_i64 (by omega) (by omega)]
    rw [drop_cons [] h, Pl.idxR] at hf
    refine ⟨by omega, by omega, ⟨⟨_, okF_d hq, rfl⟩, hr _ (rowD_mem h)⟩, Br_of (fun h1 => ?_) (fun h1 => ?_)⟩
    · rw [h1, cond_true] at hf
      rw [← hf]
    · rw [h1, cond_false] at hf
      exact hG _ ⟨i + 1, rfl, by omega, hf⟩ (by simp only; omega)
  · have h : i = m.length := by have := of_decide_eq_false h; omega
    subst h
    rw [List.drop_length] at hf
    rw [← hf]; rfl
theorem vc134 : ∀ x, C134.pre x → VC T134 H0 Try.f134 C134 x := by
  rintro ⟨(m : List (List Int)), v, ⟨⟩⟩ (h0 : Pl.okBd m v)
  have h1 := h0
  obtain ⟨⟨f, ⟨q, hq, (rfl : f = _)⟩, (rfl : v = _)⟩, _, _⟩ := h1
  show Pl.okBd m (D.clo (135 : FuncId) [D.rptr [fieldD q]]) ∧
      (decide (Pl.idxR (Pl.bad (D.clo (135 : FuncId) [D.rptr [fieldD q]])) m (0 : Int) ≥ (0 : Int)), ()) =
        C134.post (m, badC (fieldD q), ())
  refine ⟨h0, ?_⟩
  show _ = (m.any (Pl.bad (badC (fieldD q))), ())
  have hb : D.clo (135 : FuncId) [D.rptr [fieldD q]] = badC (fieldD q) := rfl
  rw [hb]
  rcases idxR_le (Pl.bad (badC (fieldD q))) m 0 (Int.le_refl _) with ⟨h1, h2⟩ | ⟨h1, h2⟩
  · rw [h1, h2]; rfl
  · rw [h2, decide_eq_true h1]
theorem vc89 : ∀ x, C89.pre x → VC T89 H89 Try.f89 C89 x := by
  rintro ⟨v, (m : List (List Int)), ⟨⟩⟩ ⟨⟨q, hq, (rfl : v = _)⟩, (hl : m.length ≤ 1000000000), (hr : ∀ r ∈ m, r.length ≤ 1000000000)⟩
  show Br (decide ((↑m.length : Int) > (64 : Int))) (((2 : Int), ()) = C89.post (fieldD q, m, ())) (Br (decide ((↑m.length : Int) > (0 : Int))) ((0 : Int) ≤ (0 : Int) ∧ (0 : Int) < (↑m.length : Int) ∧ Br (decide ((↑(List.length (rd i64.slc m (0 : Int))) : Int) > (64 : Int))) (((2 : Int), ()) = C89.post (fieldD q, m, ())) (∃ (n : Nat), itl (fun (G : Int × PUnit → Prop) (x : Int × PUnit) => Br (decide (x.fst < (↑m.length : Int))) ((0 : Int) ≤ x.fst ∧ x.fst < (↑m.length : Int) ∧ (0 : Int) ≤ (0 : Int) ∧ (0 : Int) < (↑m.length : Int) ∧ Br ((↑(List.length (rd i64.slc m x.fst)) : Int) != (↑(List.length (rd i64.slc m (0 : Int))) : Int)) (((7 : Int), ()) = C89.post (fieldD q, m, ())) (G (IntKind.i64.wrap (x.fst + (1 : Int)), ()))) (Pl.okBd m (D.clo (135 : Nat) [D.rptr [D.rptr (fieldC q)]]) ∧ Br (m.any (Pl.bad (D.clo (135 : Nat) [D.rptr [D.rptr (fieldC q)]]))) (((1 : Int), ()) = C89.post (fieldD q, m, ())) (((0 : Int), ()) = C89.post (fieldD q, m, ())))) n ((0 : Int), ()))) (∃ (n : Nat), itl (fun (G : Int × PUnit → Prop) (x : Int × PUnit) => Br (decide (x.fst < (↑m.length : Int))) ((0 : Int) ≤ x.fst ∧ x.fst < (↑m.length : Int) ∧ (0 : Int) ≤ (0 : Int) ∧ (0 : Int) < (↑m.length : Int) ∧ Br ((↑(List.length (rd i64.slc m x.fst)) : Int) != (↑(List.length (rd i64.slc m (0 : Int))) : Int)) (((7 : Int), ()) = C89.post (fieldD q, m, ())) (G (IntKind.i64.wrap (x.fst + (1 : Int)), ()))) (Pl.okBd m (D.clo (135 : Nat) [D.rptr [D.rptr (fieldC q)]]) ∧ Br (m.any (Pl.bad (D.clo (135 : Nat) [D.rptr [D.rptr (fieldC q)]]))) (((1 : Int), ()) = C89.post (fieldD q, m, ())) (((0 : Int), ()) = C89.post (fieldD q, m, ())))) n ((0 : Int), ())))
  have hp : C89.post (fieldD q, m, ()) = (Pl.shape q m, ()) := rfl
  rw [hp, rd_r0]
  have hb : D.clo (135 : Nat) [D.rptr [D.rptr (fieldC q)]] = badC (fieldD q) := rfl
  rw [hb]
  have hbad : Pl.bad (badC (fieldD q)) = fun r => !Pl.els q r := rfl
  rw [hbad]
  refine Br_of (fun h => ?_) (fun h => ?_)
  · unfold Pl.shape
    have h : m.length > 64 := by have := of_decide_eq_true h; omega
    rw [decide_eq_true h]; rfl
  have h : ¬ m.length > 64 := by have := of_decide_eq_false h; omega
  have rest : ¬ (m.length > 0 ∧ Pl.wide m > 64) → ∃ n, itl (fun (G : Int × Unit → Prop) (x : Int × Unit) => Br (decide (x.1 < (m.length : Int))) ((0 : Int) ≤ x.1 ∧ x.1 < (m.length : Int) ∧ (0 : Int) ≤ (0 : Int) ∧ (0 : Int) < (m.length : Int) ∧ Br (((rd i64.slc m x.1).length : Int) != ((m.getD 0 []).length : Int)) (((7 : Int), ()) = (Pl.shape q m, ())) (G (IntKind.i64.wrap (x.1 + (1 : Int)), ())))
      (Pl.okBd m (badC (fieldD q)) ∧ Br (m.any fun r => !Pl.els q r) (((1 : Int), ()) = (Pl.shape q m, ())) (((0 : Int), ()) = (Pl.shape q m, ())))) n ((0 : Int), ()) := fun hw => by
    refine itl_rule (fun s => ∃ i : Nat, s.1 = (i : Int) ∧ i ≤ m.length ∧ (m.drop i).any (fun r => decide (r.length ≠ Pl.wide m)) = m.any (fun r => decide (r.length ≠ Pl.wide m))) (fun s => ((m.length : Int) - s.1).toNat) ⟨0, rfl, Nat.zero_le _, rfl⟩ ?_
    have hs : Pl.shape q m = bif m.any (fun r => decide (r.length ≠ Pl.wide m)) then 7 else bif m.any (fun r => !Pl.els q r) then 1 else 0 := by
      unfold Pl.shape
      have e : (decide (m.length > 64) || (decide (m.length > 0) && decide (Pl.wide m > 64))) = false := by
        rw [decide_eq_false h]
        by_cases c1 : m.length > 0
        · rw [decide_eq_false (fun c2 => hw ⟨c1, c2⟩)]; simp
        · rw [decide_eq_false c1]; rfl
      rw [e]; rfl
    rintro ⟨i0, ⟨⟩⟩ G ⟨i, e, hi, hf⟩ hG
    simp only at e hf hG ⊢
    subst e
    refine Br_of (fun h => ?_) (fun h => ?_)
    · have h : i < m.length := by have := of_decide_eq_true h; omega
      rw [rd_r, wrap_i64 (by omega) (by omega)]
      rw [drop_cons [] h, List.any_cons] at hf
      refine ⟨by omega, by omega, by omega, by omega, Br_of (fun h1 => ?_) (fun h1 => ?_)⟩
      · have h1 : (m.getD i []).length ≠ Pl.wide m := by
          have : ((m.getD i []).length : Int) ≠ ((m.getD 0 []).length : Int) := by simpa using h1
          unfold Pl.wide; omega
        rw [decide_eq_true h1, Bool.true_or] at hf
        rw [hs, ← hf]; rfl
      · have h1 : (m.getD i []).length = Pl.wide m := by
          have : ((m.getD i []).length : Int) = ((m.getD 0 []).length : Int) := by simpa using h1
          unfold Pl.wide; omega
        rw [decide_eq_false (not_not_intro h1), Bool.false_or] at hf
        exact hG _ ⟨i + 1, rfl, by omega, hf⟩ (by simp only; omega)
    · have h : i = m.length := by have := of_decide_eq_false h; omega
      subst h
      rw [List.drop_length] at hf
      rw [hs, ← hf]
      exact ⟨⟨⟨_, okF_d hq, rfl⟩, hl, hr⟩, Br_of (fun h => by rw [h]; rfl) (fun h => by rw [h]; rfl)⟩
  refine Br_of (fun h2 => ?_) (fun h2 => ?_)
  · have h2 : m.length > 0 := by have := of_decide_eq_true h2; omega
    refine ⟨by omega, by omega, Br_of (fun h3 => ?_) (fun h3 => ?_)⟩
    · have h3 : Pl.wide m > 64 := by have := of_decide_eq_true h3; unfold Pl.wide; omega
      unfold Pl.shape
      rw [decide_eq_true h2, decide_eq_true h3, decide_eq_false h]; rfl
    · have h3 : ¬ Pl.wide m > 64 := by have := of_decide_eq_false h3; unfold Pl.wide; omega
      exact rest (fun hh => h3 hh.2)
  · have h2 : ¬ m.length > 0 := by have := of_decide_eq_false h2; omega
    exact rest (fun hh => h2 hh.1)
theorem vc92 : ∀ x, C92.pre x → VC T92 H0 Try.f92 C92 x := by
  rintro ⟨v, (m : List (List Int)), (b : List Int), ⟨⟩⟩ ⟨⟨q, hq, (rfl : v = _)⟩, (hm : Pl.okMM m), (hb : b.length ≤ 1000000000)⟩
  show (Pl.okF (D.rptr (fieldC q)) ∧ Pl.okMM m) ∧ Br (Pl.shape (Pl.qF (D.rptr (fieldC q))) m != (0 : Int)) ((Pl.shape (Pl.qF (D.rptr (fieldC q))) m, ()) = C92.post (fieldD q, m, b, ())) (Br ((↑b.length : Int) != (↑m.length : Int)) (((7 : Int), ()) = C92.post (fieldD q, m, b, ())) ((Pl.okF (D.rptr (fieldC q)) ∧ b.length ≤ (1000000000 : Nat)) ∧ Br (!Pl.els (Pl.qF (D.rptr (fieldC q))) b) (((1 : Int), ()) = C92.post (fieldD q, m, b, ())) (((0 : Int), ()) = C92.post (fieldD q, m, b, ()))))
  have hp : C92.post (fieldD q, m, b, ()) = (Pl.sys q m b, ()) := rfl
  rw [hp, qF_f]
  unfold Pl.sys
  refine ⟨⟨okF_f hq, hm⟩, Br_of (fun h => ?_) (fun h => ?_)⟩
  · have h : Pl.shape q m ≠ 0 := by simpa using h
    rw [decide_eq_true h]; rfl
  · have h : Pl.shape q m = 0 := by simpa using h
    rw [decide_eq_false (not_not_intro h), cond_false]
    refine Br_of (fun h1 => ?_) (fun h1 => ?_)
    · have h1 : b.length ≠ m.length := by have : (b.length : Int) ≠ m.length := by simpa using h1
                                          omega
      rw [decide_eq_true h1]; rfl
    · have h1 : b.length = m.length := by have : (b.length : Int) = m.length := by simpa using h1
                                          omega
      rw [decide_eq_false (not_not_intro h1), cond_false]
      refine ⟨⟨okF_f hq, hb⟩, Br_of (fun h2 => ?_) (fun h2 => ?_)⟩
      · have h2 : Pl.els q b = false := by simpa using h2
        rw [h2]; rfl
      · have h2 : Pl.els q b = true := by simpa using h2
        rw [h2]; rfl

/-! ### Sound -/
theorem nrc95 : NRC C95 := ⟨fun x hx => ⟨okF_nr hx, trivial, trivial⟩, fun x hx => ⟨trivial, trivial⟩⟩
theorem nrcF {f : Int → Int → Int → Int} : NRC (Cf2 f) := ⟨fun x hx => ⟨okF_nr hx, trivial, trivial, trivial⟩, fun x hx => ⟨trivial, trivial⟩⟩
theorem nrc36 : NRC C36 := ⟨fun x hx => ⟨okF_nr hx, trivial, trivial, trivial⟩, fun x hx => ⟨trivial, trivial, trivial⟩⟩
theorem nrc42 : NRC C42 := ⟨fun x hx => ⟨okF_nr hx, trivial⟩, fun x hx => ⟨trivial, trivial⟩⟩
theorem nrc51 : NRC C51 := ⟨fun x hx => ⟨okF_nr hx, trivial⟩, fun x hx => ⟨trivial, trivial, trivial⟩⟩
theorem nrc52 : NRC C52 := ⟨fun x hx => ⟨okF_nr hx, trivial⟩, fun x hx => ⟨trivial, trivial⟩⟩
theorem nrc80 : NRC C80 := ⟨fun x hx => ⟨okF_nr hx, trivial⟩, fun x hx => ⟨rfl, trivial⟩⟩
theorem nrc104 : NRC C104 := ⟨fun x hx => ⟨okF_nr hx.1, trivial, trivial⟩, fun x hx => ⟨rfl, trivial⟩⟩
theorem nrc55 : NRC C55 := ⟨fun x hx => ⟨okF_nr hx, trivial, trivial⟩, fun x hx => ⟨trivial, trivial⟩⟩
theorem nrc57 : NRC C57 := ⟨fun x hx => ⟨okF_nr hx, trivial, trivial⟩, fun x hx => ⟨trivial, trivial⟩⟩
theorem nrc94 : NRC C94 := ⟨fun x hx => ⟨okF_nr hx.1, rfl, rfl, trivial⟩, fun x hx => ⟨trivial, trivial⟩⟩
theorem nrc93 : NRC C93 := ⟨fun x hx => ⟨okF_nr hx.1, rfl, trivial⟩, fun x hx => ⟨trivial, trivial⟩⟩
theorem nrc135 : NRC C135 := by
  refine ⟨?_, fun x hx => ⟨trivial, trivial⟩⟩
  rintro ⟨l, v, ⟨⟩⟩ ⟨⟨f, hf, (rfl : v = _)⟩, _⟩
  exact ⟨rfl, ⟨okF_nr hf, trivial⟩, trivial⟩
theorem nr_bad {f : D} (hf : Pl.okF f) : (badC f).nr := ⟨⟨okF_nr hf, trivial⟩, trivial⟩
theorem nrc160 : NRC C160 := by
  refine ⟨?_, fun x hx => ⟨trivial, trivial⟩⟩
  rintro ⟨l, v, ⟨⟩⟩ ⟨⟨f, hf, (rfl : v = _)⟩, _⟩
  exact ⟨rfl, nr_bad hf, trivial⟩
theorem nrc134 : NRC C134 := by
  refine ⟨?_, fun x hx => ⟨trivial, trivial⟩⟩
  rintro ⟨l, v, ⟨⟩⟩ ⟨⟨f, hf, (rfl : v = _)⟩, _⟩
  exact ⟨rfl, nr_bad hf, trivial⟩
theorem nrc89 : NRC C89 := ⟨fun x hx => ⟨okF_nr hx.1, rfl, trivial⟩, fun x hx => ⟨trivial, trivial⟩⟩
theorem nrc92 : NRC C92 := ⟨fun x hx => ⟨okF_nr hx.1, rfl, rfl, trivial⟩, fun x hx => ⟨trivial, trivial⟩⟩
theorem tokF {fs : List (Nat × Con)} (h : AllS Try.prog fs) : Tok Try.prog (TF fs) := tokg (T := TF fs) h trivial trivial invsV noCv
theorem snd95 : Sound Try.prog 95 C95 := fn_sound (T := TT []) (fn := Try.f95) (tok0 trivial) Try.func95 (by kernel_rfl) H0 vc95 (by kernel_rfl) (hC := nrc95)
theorem snd30 : Sound Try.prog 30 C30 := fn_sound (T := T30) (fn := Try.f30) (tokF ⟨snd95, trivial⟩) Try.func30 (by kernel_rfl) H0 vc30 (by kernel_rfl) (hC := nrcF)
theorem snd32 : Sound Try.prog 32 C32 := fn_sound (T := T30) (fn := Try.f32) (tokF ⟨snd95, trivial⟩) Try.func32 (by kernel_rfl) H0 vc32 (by kernel_rfl) (hC := nrcF)
theorem snd34 : Sound Try.prog 34 C34 := fn_sound (T := T30) (fn := Try.f34) (tokF ⟨snd95, trivial⟩) Try.func34 (by kernel_rfl) H0 vc34 (by kernel_rfl) (hC := nrcF)
theorem snd36 : Sound Try.prog 36 C36 := fn_sound (T := T30) (fn := Try.f36) (tokF ⟨snd95, trivial⟩) Try.func36 (by kernel_rfl) H0 vc36 (by kernel_rfl) (hC := nrc36)
theorem snd42 : Sound Try.prog 42 C42 := fn_sound (T := TT []) (fn := Try.f42) (tok0 trivial) Try.func42 (by kernel_rfl) H0 vc42 (by kernel_rfl) (hC := nrc42)
theorem snd51 : Sound Try.prog 51 C51 := fn_sound (T := TT []) (fn := Try.f51) (tok0 trivial) Try.func51 (by kernel_rfl) H0 vc51 (by kernel_rfl) (hC := nrc51)
theorem snd52 : Sound Try.prog 52 C52 := fn_sound (T := TT []) (fn := Try.f52) (tok0 trivial) Try.func52 (by kernel_rfl) H0 vc52 (by kernel_rfl) (hC := nrc52)
theorem snd80 : Sound Try.prog 80 C80 := fn_sound (T := TT [(123, C123)]) (fn := Try.f80) (tok0 ⟨snd123, trivial⟩) Try.func80 (by kernel_rfl) H0 vc80 (by kernel_rfl) (hC := nrc80)
theorem snd104 : Sound Try.prog 104 C104 := fn_sound (T := T104) (fn := Try.f104) (tok0 ⟨snd100, trivial⟩) Try.func104 (by kernel_rfl) H104 vc104 (by kernel_rfl) (hC := nrc104)
theorem snd55 : Sound Try.prog 55 C55 := fn_sound (T := T55) (fn := Try.f55) (tokF ⟨snd95, snd104, trivial⟩) Try.func55 (by kernel_rfl) H55 vc55 (by kernel_rfl) (hC := nrc55)
theorem snd57 : Sound Try.prog 57 C57 := fn_sound (T := T55) (fn := Try.f57) (tokF ⟨snd95, snd104, trivial⟩) Try.func57 (by kernel_rfl) H55 vc57 (by kernel_rfl) (hC := nrc57)
theorem snd94 : Sound Try.prog 94 C94 := fn_sound (T := TF []) (fn := Try.f94) (tokF trivial) Try.func94 (by kernel_rfl) H94 vc94 (by kernel_rfl) (hC := nrc94)
theorem snd93 : Sound Try.prog 93 C93 := fn_sound (T := T93) (fn := Try.f93) (tok0 ⟨snd139, trivial⟩) Try.func93 (by kernel_rfl) Hz2 vc93 (by kernel_rfl) (hC := nrc93)
theorem snd135 : Sound Try.prog 135 C135 := fn_sound (T := T135) (fn := Try.f135) (tok0 ⟨snd93, trivial⟩) Try.func135 (by kernel_rfl) H0 vc135 (by kernel_rfl) (hC := nrc135)
theorem sndVbad : SoundCv Try.prog Vbad := cv_of fun x hx => by
  obtain ⟨v, (l : List Int), ⟨⟩⟩ := x
  obtain ⟨⟨f, hf, (hv : v = badC f)⟩, hl⟩ := hx
  subst hv
  exact ⟨135, [.rptr [f]], [.slc false i64 l], C135, (l, .rptr [f], ()), snd135, .inl ⟨rfl, rfl⟩, ⟨⟨f, hf, rfl⟩, hl⟩, rfl, rfl⟩
theorem snd160 : Sound Try.prog 160 C160 := fn_sound (T := T160) (fn := Try.f160) (tokg (T := T160) trivial trivial trivial noInv (fun C h => by injection h with h; subst h; exact sndVbad)) Try.func160 (by kernel_rfl) H160 vc160 (by kernel_rfl) (hC := nrc160)
theorem snd134 : Sound Try.prog 134 C134 := fn_sound (T := T134) (fn := Try.f134) (tok0 ⟨snd160, trivial⟩) Try.func134 (by kernel_rfl) H0 vc134 (by kernel_rfl) (hC := nrc134)
theorem snd89 : Sound Try.prog 89 C89 := fn_sound (T := T89) (fn := Try.f89) (tok0 ⟨snd134, trivial⟩) Try.func89 (by kernel_rfl) H89 vc89 (by kernel_rfl) (hC := nrc89)
theorem snd92 : Sound Try.prog 92 C92 := fn_sound (T := T92) (fn := Try.f92) (tok0 ⟨snd89, snd93, trivial⟩) Try.func92 (by kernel_rfl) H0 vc92 (by kernel_rfl) (hC := nrc92)
end Fd
end
section
/- Echelon forms, solutions, denials: contracts. -/
set_option linter.unusedVariables false
set_option linter.unusedSimpArgs false
set_option maxRecDepth 100000
namespace Fd
open Go Fw Go.Proofs

def Pl.recS (q : Int) (m : List (List Int)) : XO × List Int := Pl.ech q (2 * m.length - 1) (2 * m.length) (Pl.recX m m.length, Pl.recO m.length)
def Pl.rowsO (xo : XO) (r : Nat) : List (List Int) := (mrow xo.2 r).map (mrow xo.1)
def Pl.echR (q : Int) (m : List (List Int)) : List (List Int) := Pl.rowsO (Pl.recS q m).1 (2 * m.length - 1)
def Pl.echD (q : Int) (m : List (List Int)) : List (List Int) := Pl.rowsO (Pl.recS q m).1 (2 * m.length)
def Pl.echC (q : Int) (m : List (List Int)) : List Int := (Pl.recS q m).2
def Pl.echelon (q : Int) (m : List (List Int)) : List (List Int) := (Pl.echR q m).take (Pl.echC q m).length
def C22 : Con := ⟨[.raw, LL], [LL, I], fun (x : D × List (List Int) × Unit) => Pl.okF x.1 ∧ Pl.okMM x.2.1, fun (x : D × List (List Int) × Unit) =>
  (bif decide (Pl.shape (Pl.qF x.1) x.2.1 ≠ 0) then [] else Pl.echelon (Pl.qF x.1) x.2.1, Pl.shape (Pl.qF x.1) x.2.1, ()), none⟩
def ars4 : List (Nat × Fw.Obj) := [(0, .aren 3 i64 []), (1, .abox 107 []), (2, .aren 30 (.ref 0) []), (4, .aren 3 i64 [])]
def T22 : Ctx := ⟨tt, [(89, C89)], [], none, [(90, pt90), (91, pt91)], 100, [0, 1, 2, 4], [], 0, [], ars4, [], []⟩
def H22 : Hints := ⟨[], [], [], [90, 91], [(6, ([7], [0, 1, 2, 4]))]⟩
/-- The first row from a list that is not 0 against the right sides. -/
def Pl.denL (q : Int) (b : List Int) : List (List Int) → Option (List Int)
  | [] => none
  | w :: l => bif decide (Pl.dot q w b ≠ 0) then some w else Pl.denL q b l
def Pl.den (q : Int) (m : List (List Int)) (b : List Int) : Option (List Int) := Pl.denL q b ((Pl.echD q m).drop (Pl.echC q m).length)
def Pl.solL (q : Int) (b : List Int) : List Int → List (List Int) → List Int → List Int
  | c :: cs, r :: rs, x => Pl.solL q b cs rs (x.set c.toNat (Pl.dot q r b))
  | _, _, x => x
def Pl.sol (q : Int) (m : List (List Int)) (b : List Int) : List Int := Pl.solL q b (Pl.echC q m) (Pl.echD q m) (List.replicate (Pl.wide m) 0)
def Pl.okSy (x : D × List (List Int) × List Int × Unit) : Prop := Pl.okF x.1 ∧ Pl.okMM x.2.1 ∧ x.2.2.1.length ≤ 1000000000
def C101s : Con := ⟨[.raw, LL, L], [L, .raw], fun (x : D × List (List Int) × List Int × Unit) => Pl.okSy x ∧ Pl.sys (Pl.qF x.1) x.2.1 x.2.2.1 = 0 ∧ Pl.den (Pl.qF x.1) x.2.1 x.2.2.1 = none, fun (x : D × List (List Int) × List Int × Unit) => (Pl.sol (Pl.qF x.1) x.2.1 x.2.2.1, .val (.slice none 0 0), ()), none⟩
def Pl.denW (q : Int) (m : List (List Int)) (b : List Int) : List Int := (Pl.den q m b).getD []
def C101d : Con := ⟨[.raw, LL, L], [L, L], fun (x : D × List (List Int) × List Int × Unit) => Pl.okSy x ∧ Pl.sys (Pl.qF x.1) x.2.1 x.2.2.1 = 0 ∧ Pl.den (Pl.qF x.1) x.2.1 x.2.2.1 ≠ none, fun (x : D × List (List Int) × List Int × Unit) => ([], Pl.denW (Pl.qF x.1) x.2.1 x.2.2.1, ()), none⟩
def T101 : Ctx := ⟨tt, [(94, C94)], [], none, [(90, pt90), (91, pt91)], 100, [0, 1, 2, 4], [], 0, [], ars4, [], []⟩
def H101 : Hints := ⟨[], [], [(0, ⟨[0, 1, 2, 8, 9, 26, 27], [(6, so), (28, si), (0, s0), (1, .ad 107), (2, sO), (4, s0)]⟩), (2, ⟨[0, 2, 8, 47, 48], [(6, so), (49, si), (0, s0), (1, .ad 107), (2, sO), (4, s0)]⟩)], [90, 91], [(3, ([8, 9], [0, 1, 2, 4]))]⟩
def T46 (C : Con) : Ctx := TT [(92, C92), (101, C)]
def Pl.deny (q : Int) (m : List (List Int)) (b : List Int) : List Int × Bool := bif decide (Pl.sys q m b ≠ 0) then ([], false) else (match Pl.den q m b with
  | some w => (w, true)
  | none => ([], false))
def Pl.solve (q : Int) (m : List (List Int)) (b : List Int) : List Int × Int := bif decide (Pl.sys q m b ≠ 0) then ([], Pl.sys q m b) else (match Pl.den q m b with
  | some w => ([], 4)
  | none => (Pl.sol q m b, 0))
def Cdeny (p : D × List (List Int) × List Int × Unit → Prop) : Con := ⟨[.raw, LL, L], [L, B], fun (x : D × List (List Int) × List Int × Unit) => Pl.okSy x ∧ p x, fun (x : D × List (List Int) × List Int × Unit) => ((Pl.deny (Pl.qF x.1) x.2.1 x.2.2.1).1, (Pl.deny (Pl.qF x.1) x.2.1 x.2.2.1).2, ()), none⟩
def Csolve (p : D × List (List Int) × List Int × Unit → Prop) : Con := ⟨[.raw, LL, L], [L, I], fun (x : D × List (List Int) × List Int × Unit) => Pl.okSy x ∧ p x, fun (x : D × List (List Int) × List Int × Unit) => ((Pl.solve (Pl.qF x.1) x.2.1 x.2.2.1).1, (Pl.solve (Pl.qF x.1) x.2.1 x.2.2.1).2, ()), none⟩
def Pl.isS (x : D × List (List Int) × List Int × Unit) : Prop := Pl.sys (Pl.qF x.1) x.2.1 x.2.2.1 = 0 → Pl.den (Pl.qF x.1) x.2.1 x.2.2.1 = none
def Pl.isD (x : D × List (List Int) × List Int × Unit) : Prop := Pl.sys (Pl.qF x.1) x.2.1 x.2.2.1 = 0 ∧ Pl.den (Pl.qF x.1) x.2.1 x.2.2.1 ≠ none
def C46s : Con := Cdeny Pl.isS
def C46d : Con := Cdeny Pl.isD
def C46 : Con := Cdeny fun _ => True
def C45s : Con := Csolve Pl.isS
def C45d : Con := Csolve Pl.isD
def C45 : Con := Csolve fun _ => True

end Fd
end
section
/- The echelon form of a record: what it keeps. -/
set_option linter.unusedVariables false
set_option linter.unusedSimpArgs false
set_option linter.unusedSectionVars false
set_option maxRecDepth 100000
namespace Fd
open Go Fw Go.Proofs

section
variable {q : Int} {r1 r2 n w : Nat} {xs : XS} {os : OS}
theorem kf_bound {col : Int} {N : Nat} (hl : Pl.len os r1 = N) : ∀ (f : Nat) (k : Int), k ≤ N → k ≤ Pl.kf xs os r1 col f k ∧ Pl.kf xs os r1 col f k ≤ N
  | 0, k, h => ⟨Int.le_refl _, h⟩
  | f + 1, k, h => by
    rw [Pl.kf]
    cases hb : (decide (k < (Pl.len os r1 : Int)) && decide (Pl.ent xs os r1 k col = 0)) with
    | false => exact ⟨Int.le_refl _, h⟩
    | true =>
      have h1 : k < (Pl.len os r1 : Int) := by simp at hb; exact hb.1
      rw [hl] at h1
      have := kf_bound (col := col) hl f (k + 1) (by omega)
      rw [cond_true]
      exact ⟨by omega, this.2⟩
theorem Rec_okv (hq : isQ q) : Pl.okA (arD q) ∧ Pl.qA (arD q) = q := ⟨okA_ar hq, qA_ar hq⟩
theorem Rec_elim1 (hq : isQ q) (h : Pl.Rec q r1 r2 n w xs os) {at_ col i : Int} (a0 : 0 ≤ at_) (a1 : at_ < n) (c0 : 0 ≤ col) (c1 : col < w) (i0 : 0 ≤ i) (i1 : i < n) : Pl.Rec q r1 r2 n w (Pl.elim1 q r1 r2 os at_ col i xs) os := by
  by_cases h1 : i = at_
  · rw [elim_no (.inl h1)]; exact h
  · by_cases h2 : Pl.ent xs os r1 i col = 0
    · rw [elim_no (.inr h2)]; exact h
    · rw [elim_yes h1 h2]
      obtain ⟨v1, v2⟩ := Rec_okv hq
      exact (Rec_tk hq v1 v2 h i0 i1 a0 a1 h1 (Rec_ent h i0 i1 c0 c1).2.2).2
theorem Rec_elim (hq : isQ q) {at_ col : Int} (a0 : 0 ≤ at_) (a1 : at_ < n) (c0 : 0 ≤ col) (c1 : col < w) : ∀ (m : Nat) {xs : XS}, m ≤ n → Pl.Rec q r1 r2 n w xs os → Pl.Rec q r1 r2 n w (Pl.elim q r1 r2 os at_ col m xs) os
  | 0, xs, _, h => h
  | m + 1, xs, hm, h => Rec_elim1 hq (Rec_elim hq a0 a1 c0 c1 m (by omega) h) a0 a1 c0 c1 (by omega) (by omega)
theorem Rec_col (hq : isQ q) (h : Pl.Rec q r1 r2 n w xs os) {cs : List Int} {col : Int} (hcs : cs.length ≤ n) (c0 : 0 ≤ col) (c1 : col < w) :
    Pl.Rec q r1 r2 n w (Pl.col q r1 r2 (xs, os) cs col).1.1 (Pl.col q r1 r2 (xs, os) cs col).1.2 ∧ (Pl.col q r1 r2 (xs, os) cs col).2.length ≤ n ∧ ((Pl.col q r1 r2 (xs, os) cs col).2 = cs ∨ (Pl.col q r1 r2 (xs, os) cs col).2 = cs ++ [col]) := by
  have hl : Pl.len os r1 = n := h.l1
  have hk := kf_bound (xs := xs) (col := col) hl (Pl.len os r1 + 1) cs.length (by omega)
  by_cases e : Pl.colK r1 (xs, os) cs.length col = (Pl.len os r1 : Int)
  · rw [col_no e]; exact ⟨h, hcs, .inl rfl⟩
  · obtain ⟨k, hkk⟩ : ∃ k, Pl.colK r1 (xs, os) cs.length col = k := ⟨_, rfl⟩
    rw [col_yes (n := n) hkk hl (by rw [← hkk, ← hl]; exact e)]
    rw [hl] at e
    have e1 : Pl.colK r1 (xs, os) cs.length col = Pl.kf xs os r1 col (Pl.len os r1 + 1) cs.length := rfl
    have h2 := (Rec_sw h (i := cs.length) (k := k) (by omega) (by omega) (by omega) (by omega)).2
    obtain ⟨v1, v2⟩ := Rec_okv hq
    have h3 := (Rec_sc hq v1 v2 h2 (i := cs.length) (c := Pl.inv q (Pl.ent xs (Pl.colO r1 r2 os cs.length k) r1 cs.length col)) (by omega) (by omega) (inv_inQ hq _)).2
    exact ⟨Rec_elim hq (by omega) (by omega) c0 c1 n (Nat.le_refl _) h3, by rw [List.length_append]; simp; omega, .inr rfl⟩
theorem Rec_cols (hq : isQ q) (h : Pl.Rec q r1 r2 n w xs os) : ∀ (j : Nat), j ≤ w → Pl.Rec q r1 r2 n w (Pl.cols q r1 r2 (xs, os) j).1.1 (Pl.cols q r1 r2 (xs, os) j).1.2 ∧ (Pl.cols q r1 r2 (xs, os) j).2.length ≤ n ∧ ∀ c ∈ (Pl.cols q r1 r2 (xs, os) j).2, 0 ≤ c ∧ c < w
  | 0, _ => ⟨h, Nat.zero_le _, fun c hc => by cases hc⟩
  | j + 1, hj => by
    obtain ⟨h1, h2, h3⟩ := Rec_cols hq h j (by omega)
    rw [Pl.cols]
    obtain ⟨k1, k2, k3⟩ := Rec_col hq h1 (cs := (Pl.cols q r1 r2 (xs, os) j).2) (col := (j : Int)) h2 (by omega) (by omega)
    refine ⟨k1, k2, fun c hc => ?_⟩
    rcases k3 with k3 | k3
    · have hc' : c ∈ (Pl.col q r1 r2 (Pl.cols q r1 r2 (xs, os) j).1 (Pl.cols q r1 r2 (xs, os) j).2 (j : Int)).2 := hc
      rw [show Pl.col q r1 r2 (Pl.cols q r1 r2 (xs, os) j).1 = Pl.col q r1 r2 ((Pl.cols q r1 r2 (xs, os) j).1.1, (Pl.cols q r1 r2 (xs, os) j).1.2) from rfl, k3] at hc'
      exact h3 c hc'
    · have hc' : c ∈ (Pl.col q r1 r2 (Pl.cols q r1 r2 (xs, os) j).1 (Pl.cols q r1 r2 (xs, os) j).2 (j : Int)).2 := hc
      rw [show Pl.col q r1 r2 (Pl.cols q r1 r2 (xs, os) j).1 = Pl.col q r1 r2 ((Pl.cols q r1 r2 (xs, os) j).1.1, (Pl.cols q r1 r2 (xs, os) j).1.2) from rfl, k3] at hc'
      rcases List.mem_append.1 hc' with hc' | hc'
      · exact h3 c hc'
      · have : c = (j : Int) := by simpa using hc'
        subst this
        omega
end
/-! ### New records -/
theorem recX_get (m : List (List Int)) : ∀ (n i : Nat), i < n → (Pl.recX m n)[2 * i]? = some (some (Pl.unitR m.length i)) ∧ (Pl.recX m n)[2 * i + 1]? = some (some (m.getD i []))
  | 0, i, h => by omega
  | n + 1, i, h => by
    have hl := recX_len m n
    rw [Pl.recX]
    by_cases e : i = n
    · subst e
      rw [List.getElem?_append_right (by omega), List.getElem?_append_right (by omega), hl, Nat.sub_self, show 2 * i + 1 - 2 * i = 1 by omega]
      exact ⟨rfl, rfl⟩
    · rw [List.getElem?_append_left (by omega), List.getElem?_append_left (by omega)]
      exact recX_get m n i (by omega)
theorem recR_mem : ∀ {n r : Nat}, r ∈ Pl.recR n ↔ ∃ i, i < n ∧ r = 2 * i + 2
  | 0, r => by simp [Pl.recR]
  | n + 1, r => by
    rw [Pl.recR, List.mem_append, recR_mem (n := n), List.mem_singleton]
    constructor
    · rintro (⟨i, h, rfl⟩ | rfl)
      · exact ⟨i, by omega, rfl⟩
      · exact ⟨n, by omega, rfl⟩
    · rintro ⟨i, h, rfl⟩
      by_cases e : i = n
      · subst e; exact .inr rfl
      · exact .inl ⟨i, by omega, rfl⟩
theorem recW_mem : ∀ {n r : Nat}, r ∈ Pl.recW n ↔ ∃ i, i < n ∧ r = 2 * i + 1
  | 0, r => by simp [Pl.recW]
  | n + 1, r => by
    rw [Pl.recW, List.mem_append, recW_mem (n := n), List.mem_singleton]
    constructor
    · rintro (⟨i, h, rfl⟩ | rfl)
      · exact ⟨i, by omega, rfl⟩
      · exact ⟨n, by omega, rfl⟩
    · rintro ⟨i, h, rfl⟩
      by_cases e : i = n
      · subst e; exact .inr rfl
      · exact .inl ⟨i, by omega, rfl⟩
theorem recR_nd : ∀ n, (Pl.recR n).Nodup
  | 0 => List.nodup_nil
  | n + 1 => by
    rw [Pl.recR, List.nodup_append]
    refine ⟨recR_nd n, by simp, fun a ha b hb => ?_⟩
    obtain ⟨i, hi, rfl⟩ := recR_mem.1 ha
    have := List.mem_singleton.1 hb
    omega
theorem recW_nd : ∀ n, (Pl.recW n).Nodup
  | 0 => List.nodup_nil
  | n + 1 => by
    rw [Pl.recW, List.nodup_append]
    refine ⟨recW_nd n, by simp, fun a ha b hb => ?_⟩
    obtain ⟨i, hi, rfl⟩ := recW_mem.1 ha
    have := List.mem_singleton.1 hb
    omega
theorem recO_rows {n : Nat} (h : 0 < n) : (mal (Pl.recO n) (2 * n - 1) ∧ mrow (Pl.recO n) (2 * n - 1) = Pl.recR n) ∧ mal (Pl.recO n) (2 * n) ∧ mrow (Pl.recO n) (2 * n) = Pl.recW n := by
  obtain ⟨k, rfl⟩ : ∃ k, n = k + 1 := ⟨n - 1, by omega⟩
  refine ⟨recO_1 _, ?_⟩
  rw [show 2 * (k + 1) = (2 * k + 1) + 1 by omega, Pl.recO]
  exact row_at (by rw [List.getElem?_append_right (by simp)]; simp)
theorem Rec_new {q : Int} (hq : isQ q) {m : List (List Int)} {w : Nat} (h0 : 0 < m.length) (hn : m.length ≤ 1000000) (hw : w ≤ 1000000000) (hr : ∀ r ∈ m, r.length = w ∧ ∀ x ∈ r, Pl.inQ q x) : Pl.Rec q (2 * m.length - 1) (2 * m.length) m.length w (Pl.recX m m.length) (Pl.recO m.length) := by
  obtain ⟨⟨a1, a2⟩, b1, b2⟩ := recO_rows h0
  refine ⟨a1, b1, by omega, by omega, by omega, by rw [a2, recR_len], by rw [b2, recW_len], ?_, ?_, ?_, by omega, hw⟩
  · rw [a2, b2, List.nodup_append]
    refine ⟨recR_nd _, recW_nd _, fun a ha b hb => ?_⟩
    obtain ⟨i, _, rfl⟩ := recR_mem.1 ha
    obtain ⟨j, _, rfl⟩ := recW_mem.1 hb
    omega
  · rw [a2]
    intro r hr'
    obtain ⟨i, hi, rfl⟩ := recR_mem.1 hr'
    obtain ⟨c1, c2⟩ := row_at (recX_get m m.length i hi).2
    obtain ⟨d1, d2⟩ := hr _ (rowD_mem hi)
    exact ⟨c1, by omega, by rw [c2]; exact d1, by rw [c2]; exact d2⟩
  · rw [b2]
    intro r hr'
    obtain ⟨i, hi, rfl⟩ := recW_mem.1 hr'
    obtain ⟨c1, c2⟩ := row_at (recX_get m m.length i hi).1
    refine ⟨c1, by omega, by rw [c2]; unfold Pl.unitR; rw [List.length_set, List.length_replicate], ?_⟩
    rw [c2]
    unfold Pl.unitR
    intro x hx
    rcases List.mem_or_eq_of_mem_set hx with h | rfl
    · rw [List.eq_of_mem_replicate h]; exact zero_inQ hq
    · exact one_inQ hq
/-- What a valid matrix is. -/
theorem els_in {q : Int} {l : List Int} (h : Pl.els q l = true) : ∀ x ∈ l, Pl.inQ q x := by
  intro x hx
  unfold Pl.els at h
  have := List.all_eq_true.1 h x hx
  simp at this
  exact this
theorem shape_0 {q : Int} {m : List (List Int)} (h : Pl.shape q m = 0) : m.length ≤ 64 ∧ Pl.wide m ≤ 64 ∧ ∀ r ∈ m, r.length = Pl.wide m ∧ ∀ x ∈ r, Pl.inQ q x := by
  unfold Pl.shape at h
  by_cases h1 : m.length > 64
  · rw [decide_eq_true h1] at h; simp at h
  rw [decide_eq_false h1, Bool.false_or] at h
  have h2 : ¬ (m.length > 0 ∧ Pl.wide m > 64) := fun hh => by rw [decide_eq_true hh.1, decide_eq_true hh.2] at h; simp at h
  have e : (decide (m.length > 0) && decide (Pl.wide m > 64)) = false := by
    by_cases c1 : m.length > 0
    · rw [decide_eq_false (fun c2 => h2 ⟨c1, c2⟩)]; simp
    · rw [decide_eq_false c1]; rfl
  rw [e, cond_false] at h
  cases h3 : m.any fun r => decide (r.length ≠ Pl.wide m) with
  | true => rw [h3] at h; simp at h
  | false =>
    rw [h3, cond_false] at h
    cases h4 : m.any fun r => !Pl.els q r with
    | true => rw [h4] at h; simp at h
    | false =>
      refine ⟨by omega, ?_, fun r hr => ⟨?_, ?_⟩⟩
      · by_cases c1 : m.length > 0
        · omega
        · have : m = [] := List.length_eq_zero_iff.1 (by omega)
          subst this; exact Nat.zero_le _
      · have := List.any_eq_false.1 h3 r hr
        simpa using this
      · have := List.any_eq_false.1 h4 r hr
        exact els_in (by simpa using this)
structure Pl.Fin (q : Int) (m : List (List Int)) : Prop where
  m1 : mal (Pl.recS q m).1.2 (2 * m.length - 1)
  m2 : mal (Pl.recS q m).1.2 (2 * m.length)
  a1 : ∀ i ∈ mrow (Pl.recS q m).1.2 (2 * m.length - 1), mal (Pl.recS q m).1.1 i
  a2 : ∀ i ∈ mrow (Pl.recS q m).1.2 (2 * m.length), mal (Pl.recS q m).1.1 i
  lR : (Pl.echR q m).length = m.length
  lD : (Pl.echD q m).length = m.length
  rR : ∀ r ∈ Pl.echR q m, r.length = Pl.wide m ∧ ∀ x ∈ r, Pl.inQ q x
  rD : ∀ r ∈ Pl.echD q m, r.length = m.length ∧ ∀ x ∈ r, Pl.inQ q x
  lC : (Pl.echC q m).length ≤ m.length
  cC : ∀ c ∈ Pl.echC q m, 0 ≤ c ∧ c < Pl.wide m
theorem rows_good {q : Int} {xs : XS} {w : Nat} {l : List Nat} (h : Pl.good q xs w l) : ∀ r ∈ l.map (mrow xs), r.length = w ∧ ∀ x ∈ r, Pl.inQ q x := by
  intro r hr
  obtain ⟨i, hi, rfl⟩ := List.mem_map.1 hr
  exact (h i hi).2.2
theorem pre_new {q : Int} (hq : isQ q) {m : List (List Int)} (hs : Pl.shape q m = 0) : Pl.okMx m ∧ Pl.preE (Pl.tyA q) (Pl.tyA q) (Pl.datA q) (Pl.datA q) (2 * m.length - 1) (2 * m.length) (Pl.recX m m.length) (Pl.recO m.length) ∧ Pl.Fin q m := by
  obtain ⟨h1, h2, h3⟩ := shape_0 hs
  have hM : Pl.okMx m := ⟨by omega, fun r hr => by rw [(h3 r hr).1]; omega⟩
  refine ⟨hM, ?_⟩
  by_cases h0 : 0 < m.length
  · have hR := Rec_new hq h0 (by omega) (show Pl.wide m ≤ 1000000000 by omega) h3
    have hqA : Pl.qA (.iface (Pl.tyA q) (Pl.datA q)) = q := qA_ar hq
    refine ⟨⟨okA_ar hq, rfl, hR.m1, .inr ⟨_, _, h0, by rw [hqA]; exact hR⟩⟩, ?_⟩
    have hl : Pl.len (Pl.recO m.length) (2 * m.length - 1) ≠ 0 := by show (mrow _ _).length ≠ 0; rw [hR.l1]; omega
    have hw0 : (mrow (Pl.recX m m.length) (Pl.ri (Pl.recO m.length) (2 * m.length - 1) 0)).length = Pl.wide m := (hR.g1 _ (ri_mem (by omega) (by rw [hR.l1]; omega))).2.2.1
    have hE : Pl.recS q m = Pl.cols q (2 * m.length - 1) (2 * m.length) (Pl.recX m m.length, Pl.recO m.length) (Pl.wide m) := by
      unfold Pl.recS Pl.ech
      rw [decide_eq_false hl, cond_false, hw0]
    obtain ⟨k1, k2, k3⟩ := Rec_cols hq hR (Pl.wide m) (Nat.le_refl _)
    rw [← hE] at k1 k2 k3
    exact ⟨k1.m1, k1.m2, fun i hi => (k1.g1 i hi).1, fun i hi => (k1.g2 i hi).1, by unfold Pl.echR Pl.rowsO; rw [List.length_map, k1.l1], by unfold Pl.echD Pl.rowsO; rw [List.length_map, k1.l2], rows_good k1.g1, rows_good k1.g2, k2, k3⟩
  · have e : m = [] := List.length_eq_zero_iff.1 (by omega)
    subst e
    refine ⟨⟨okA_ar hq, rfl, trivial, .inl rfl⟩, ?_⟩
    have hE : Pl.recS q [] = (([], []), []) := rfl
    exact ⟨by rw [hE]; exact trivial, by rw [hE]; exact trivial, (fun i hi => by (rw [hE] at hi; cases hi)), (fun i hi => by (rw [hE] at hi; cases hi)), (by unfold Pl.echR Pl.rowsO; rw [hE]; rfl), (by unfold Pl.echD Pl.rowsO; rw [hE]; rfl),
      (fun r hr => by (unfold Pl.echR Pl.rowsO at hr; rw [hE] at hr; cases hr)), (fun r hr => by (unfold Pl.echD Pl.rowsO at hr; rw [hE] at hr; cases hr)), (by unfold Pl.echC; rw [hE]; exact Nat.zero_le _), (fun c hc => by (unfold Pl.echC at hc; rw [hE] at hc; cases hc))⟩
end Fd
end
section
/- Echelon forms, solutions, denials. -/
set_option linter.unusedVariables false
set_option linter.unusedSimpArgs false
set_option maxRecDepth 100000
namespace Fd
open Go Fw Go.Proofs

theorem recS_eq {q : Int} (hq : isQ q) (m : List (List Int)) : Pl.ech (Pl.qA (D.iface (Pl.tyA q) (Pl.datA q))) (2 * m.length - 1) (2 * m.length) (Pl.recX m m.length, Pl.recO m.length) = Pl.recS q m := by
  rw [show Pl.qA (D.iface (Pl.tyA q) (Pl.datA q)) = q from qA_ar hq]; rfl
theorem rowsR_eq (q : Int) (m : List (List Int)) : List.map (mrow (Pl.recS q m).1.1) (mrow (Pl.recS q m).1.2 (2 * m.length - 1)) = Pl.echR q m := rfl
theorem rowsD_eq (q : Int) (m : List (List Int)) : List.map (mrow (Pl.recS q m).1.1) (mrow (Pl.recS q m).1.2 (2 * m.length)) = Pl.echD q m := rfl
theorem vc22 : ∀ x, C22.pre x → VC T22 H22 Try.f22 C22 x := by
  rintro ⟨v, (m : List (List Int)), ⟨⟩⟩ ⟨⟨q, hq, (rfl : v = _)⟩, (hm : Pl.okMM m)⟩
  refine cast (α := (Pl.okF (D.rptr (fieldC q)) ∧ Pl.okMM m) ∧ Br (Pl.shape (Pl.qF (D.rptr (fieldC q))) m != (0 : Int)) (([], Pl.shape (Pl.qF (D.rptr (fieldC q))) m, ()) = C22.post (fieldD q, m, ())) (Pl.okMx m ∧ (Pl.preE (Pl.tyA q) (Pl.tyA q) (Pl.datA q) (Pl.datA q) ((2 : Nat) * m.length - (1 : Nat)) ((2 : Nat) * m.length) (Pl.recX m m.length) (Pl.recO m.length) ∧ ([] : List (Option (List Int))) = []) ∧ mal (Pl.cst (Pl.ech (Pl.qA (D.iface (Pl.tyA q) (Pl.datA q))) ((2 : Nat) * m.length - (1 : Nat)) ((2 : Nat) * m.length) (Pl.recX m m.length, Pl.recO m.length)).snd) (Pl.ech (Pl.qA (D.iface (Pl.tyA q) (Pl.datA q))) ((2 : Nat) * m.length - (1 : Nat)) ((2 : Nat) * m.length) (Pl.recX m m.length, Pl.recO m.length)).snd.length ∧ mal (Pl.ech (Pl.qA (D.iface (Pl.tyA q) (Pl.datA q))) ((2 : Nat) * m.length - (1 : Nat)) ((2 : Nat) * m.length) (Pl.recX m m.length, Pl.recO m.length)).fst.snd ((2 : Nat) * m.length - (1 : Nat)) ∧ (∀ (i : (Ty.ref (0 : Nat)).El), i ∈ mrow (Pl.ech (Pl.qA (D.iface (Pl.tyA q) (Pl.datA q))) ((2 : Nat) * m.length - (1 : Nat)) ((2 : Nat) * m.length) (Pl.recX m m.length, Pl.recO m.length)).fst.snd ((2 : Nat) * m.length - (1 : Nat)) → mal (Pl.ech (Pl.qA (D.iface (Pl.tyA q) (Pl.datA q))) ((2 : Nat) * m.length - (1 : Nat)) ((2 : Nat) * m.length) (Pl.recX m m.length, Pl.recO m.length)).fst.fst i) ∧ mal (Pl.ech (Pl.qA (D.iface (Pl.tyA q) (Pl.datA q))) ((2 : Nat) * m.length - (1 : Nat)) ((2 : Nat) * m.length) (Pl.recX m m.length, Pl.recO m.length)).fst.snd ((2 : Nat) * m.length) ∧ (∀ (i : (Ty.ref (0 : Nat)).El), i ∈ mrow (Pl.ech (Pl.qA (D.iface (Pl.tyA q) (Pl.datA q))) ((2 : Nat) * m.length - (1 : Nat)) ((2 : Nat) * m.length) (Pl.recX m m.length, Pl.recO m.length)).fst.snd ((2 : Nat) * m.length) → mal (Pl.ech (Pl.qA (D.iface (Pl.tyA q) (Pl.datA q))) ((2 : Nat) * m.length - (1 : Nat)) ((2 : Nat) * m.length) (Pl.recX m m.length, Pl.recO m.length)).fst.fst i) ∧ (0 : Int) ≤ (↑(mrow (Pl.cst (Pl.ech (Pl.qA (D.iface (Pl.tyA q) (Pl.datA q))) ((2 : Nat) * m.length - (1 : Nat)) ((2 : Nat) * m.length) (Pl.recX m m.length, Pl.recO m.length)).snd) (Pl.ech (Pl.qA (D.iface (Pl.tyA q) (Pl.datA q))) ((2 : Nat) * m.length - (1 : Nat)) ((2 : Nat) * m.length) (Pl.recX m m.length, Pl.recO m.length)).snd.length).length : Int) ∧ (↑(mrow (Pl.cst (Pl.ech (Pl.qA (D.iface (Pl.tyA q) (Pl.datA q))) ((2 : Nat) * m.length - (1 : Nat)) ((2 : Nat) * m.length) (Pl.recX m m.length, Pl.recO m.length)).snd) (Pl.ech (Pl.qA (D.iface (Pl.tyA q) (Pl.datA q))) ((2 : Nat) * m.length - (1 : Nat)) ((2 : Nat) * m.length) (Pl.recX m m.length, Pl.recO m.length)).snd.length).length : Int) ≤ (↑(List.map (mrow (Pl.ech (Pl.qA (D.iface (Pl.tyA q) (Pl.datA q))) ((2 : Nat) * m.length - (1 : Nat)) ((2 : Nat) * m.length) (Pl.recX m m.length, Pl.recO m.length)).fst.fst) (mrow (Pl.ech (Pl.qA (D.iface (Pl.tyA q) (Pl.datA q))) ((2 : Nat) * m.length - (1 : Nat)) ((2 : Nat) * m.length) (Pl.recX m m.length, Pl.recO m.length)).fst.snd ((2 : Nat) * m.length - (1 : Nat)))).length : Int) ∧ (↑(mrow (Pl.cst (Pl.ech (Pl.qA (D.iface (Pl.tyA q) (Pl.datA q))) ((2 : Nat) * m.length - (1 : Nat)) ((2 : Nat) * m.length) (Pl.recX m m.length, Pl.recO m.length)).snd) (Pl.ech (Pl.qA (D.iface (Pl.tyA q) (Pl.datA q))) ((2 : Nat) * m.length - (1 : Nat)) ((2 : Nat) * m.length) (Pl.recX m m.length, Pl.recO m.length)).snd.length).length : Int) = (↑(mrow (Pl.cst (Pl.ech (Pl.qA (D.iface (Pl.tyA q) (Pl.datA q))) ((2 : Nat) * m.length - (1 : Nat)) ((2 : Nat) * m.length) (Pl.recX m m.length, Pl.recO m.length)).snd) (Pl.ech (Pl.qA (D.iface (Pl.tyA q) (Pl.datA q))) ((2 : Nat) * m.length - (1 : Nat)) ((2 : Nat) * m.length) (Pl.recX m m.length, Pl.recO m.length)).snd.length).length : Int) ∧ (sub (List.map (mrow (Pl.ech (Pl.qA (D.iface (Pl.tyA q) (Pl.datA q))) ((2 : Nat) * m.length - (1 : Nat)) ((2 : Nat) * m.length) (Pl.recX m m.length, Pl.recO m.length)).fst.fst) (mrow (Pl.ech (Pl.qA (D.iface (Pl.tyA q) (Pl.datA q))) ((2 : Nat) * m.length - (1 : Nat)) ((2 : Nat) * m.length) (Pl.recX m m.length, Pl.recO m.length)).fst.snd ((2 : Nat) * m.length - (1 : Nat)))) (0 : Int) (↑(mrow (Pl.cst (Pl.ech (Pl.qA (D.iface (Pl.tyA q) (Pl.datA q))) ((2 : Nat) * m.length - (1 : Nat)) ((2 : Nat) * m.length) (Pl.recX m m.length, Pl.recO m.length)).snd) (Pl.ech (Pl.qA (D.iface (Pl.tyA q) (Pl.datA q))) ((2 : Nat) * m.length - (1 : Nat)) ((2 : Nat) * m.length) (Pl.recX m m.length, Pl.recO m.length)).snd.length).length : Int), (0 : Int), ()) = C22.post (fieldD q, m, ()))) (by kernel_rfl) ?_
  rw [recS_eq hq, qF_f]
  have hp : C22.post (fieldD q, m, ()) = (bif decide (Pl.shape q m ≠ 0) then [] else Pl.echelon q m, Pl.shape q m, ()) := rfl
  rw [hp]
  refine ⟨⟨okF_f hq, hm⟩, Br_of (fun h => ?_) (fun h => ?_)⟩
  · have h : Pl.shape q m ≠ 0 := by simpa using h
    rw [decide_eq_true h]; rfl
  · have h : Pl.shape q m = 0 := by simpa using h
    obtain ⟨p1, p2, F⟩ := pre_new hq h
    obtain ⟨c1, c2⟩ := cst_row (Pl.recS q m).2
    rw [c2, rowsR_eq, h]
    have hlC := F.lC
    have hlR := F.lR
    unfold Pl.echC at hlC
    refine ⟨p1, ⟨p2, rfl⟩, c1, F.m1, F.a1, F.m2, F.a2, by omega, by omega, rfl, ?_⟩
    rw [decide_eq_false (by simp), cond_false]
    unfold Pl.echelon Pl.echC sub
    simp
theorem den_sys {q : Int} {m : List (List Int)} {b : List Int} (h : Pl.sys q m b = 0) : Pl.shape q m = 0 ∧ b.length = m.length ∧ ∀ x ∈ b, Pl.inQ q x := by
  unfold Pl.sys at h
  by_cases h1 : Pl.shape q m = 0
  · rw [decide_eq_false (not_not_intro h1), cond_false] at h
    by_cases h2 : b.length = m.length
    · rw [decide_eq_false (not_not_intro h2), cond_false] at h
      cases h3 : Pl.els q b with
      | false => rw [h3] at h; simp at h
      | true => exact ⟨h1, h2, els_in h3⟩
    · rw [decide_eq_true h2] at h; simp at h
  · rw [decide_eq_true h1, cond_true] at h; exact absurd h h1
theorem sub_drop {α : Type} (l : List α) (k : Nat) : sub l (k : Int) (l.length : Int) = l.drop k := by
  unfold sub
  simp
theorem solL_len (q : Int) (b : List Int) : ∀ (cs : List Int) (rs : List (List Int)) (x : List Int), (Pl.solL q b cs rs x).length = x.length
  | [], _, x => by rw [Pl.solL]; simp
  | _ :: _, [], x => by rw [Pl.solL]; simp
  | c :: cs, r :: rs, x => by rw [Pl.solL, solL_len]; simp
theorem solL_nil (q : Int) (b : List Int) (rs : List (List Int)) (x : List Int) : Pl.solL q b [] rs x = x := by
  cases rs <;> rfl
theorem rd_rr (m : List (List Int)) (i : Nat) : rd i64.slc m (i : Int) = m.getD i [] := rfl
theorem vc101s : ∀ x, C101s.pre x → VC T101 H101 Try.f101 C101s x := by
  rintro ⟨v, (m : List (List Int)), (b : List Int), ⟨⟩⟩ ⟨⟨⟨q, hq, (rfl : v = _)⟩, (hm : Pl.okMM m), (hb : b.length ≤ 1000000000)⟩, (hs : Pl.sys (Pl.qF (fieldD q)) m b = 0), (hd : Pl.den (Pl.qF (fieldD q)) m b = none)⟩
  rw [qF_d] at hs hd
  obtain ⟨s1, s2, s3⟩ := den_sys hs
  obtain ⟨p1, p2, F⟩ := pre_new hq s1
  obtain ⟨c1, c2⟩ := cst_row (Pl.recS q m).2
  have hp : C101s.post (fieldD q, m, b, ()) = (Pl.sol q m b, .val (.slice none 0 0), ()) := rfl
  refine cast (α := Pl.okMx m ∧ (Pl.preE (Pl.tyA q) (Pl.tyA q) (Pl.datA q) (Pl.datA q) ((2 : Nat) * m.length - (1 : Nat)) ((2 : Nat) * m.length) (Pl.recX m m.length) (Pl.recO m.length) ∧ ([] : List (Option (List Int))) = []) ∧ mal (Pl.ech (Pl.qA (D.iface (Pl.tyA q) (Pl.datA q))) ((2 : Nat) * m.length - (1 : Nat)) ((2 : Nat) * m.length) (Pl.recX m m.length, Pl.recO m.length)).fst.snd ((2 : Nat) * m.length - (1 : Nat)) ∧ (∀ (i : (Ty.ref (0 : Nat)).El), i ∈ mrow (Pl.ech (Pl.qA (D.iface (Pl.tyA q) (Pl.datA q))) ((2 : Nat) * m.length - (1 : Nat)) ((2 : Nat) * m.length) (Pl.recX m m.length, Pl.recO m.length)).fst.snd ((2 : Nat) * m.length - (1 : Nat)) → mal (Pl.ech (Pl.qA (D.iface (Pl.tyA q) (Pl.datA q))) ((2 : Nat) * m.length - (1 : Nat)) ((2 : Nat) * m.length) (Pl.recX m m.length, Pl.recO m.length)).fst.fst i) ∧ mal (Pl.ech (Pl.qA (D.iface (Pl.tyA q) (Pl.datA q))) ((2 : Nat) * m.length - (1 : Nat)) ((2 : Nat) * m.length) (Pl.recX m m.length, Pl.recO m.length)).fst.snd ((2 : Nat) * m.length) ∧ (∀ (i : (Ty.ref (0 : Nat)).El), i ∈ mrow (Pl.ech (Pl.qA (D.iface (Pl.tyA q) (Pl.datA q))) ((2 : Nat) * m.length - (1 : Nat)) ((2 : Nat) * m.length) (Pl.recX m m.length, Pl.recO m.length)).fst.snd ((2 : Nat) * m.length) → mal (Pl.ech (Pl.qA (D.iface (Pl.tyA q) (Pl.datA q))) ((2 : Nat) * m.length - (1 : Nat)) ((2 : Nat) * m.length) (Pl.recX m m.length, Pl.recO m.length)).fst.fst i) ∧ mal (Pl.cst (Pl.ech (Pl.qA (D.iface (Pl.tyA q) (Pl.datA q))) ((2 : Nat) * m.length - (1 : Nat)) ((2 : Nat) * m.length) (Pl.recX m m.length, Pl.recO m.length)).snd) (Pl.ech (Pl.qA (D.iface (Pl.tyA q) (Pl.datA q))) ((2 : Nat) * m.length - (1 : Nat)) ((2 : Nat) * m.length) (Pl.recX m m.length, Pl.recO m.length)).snd.length ∧ (0 : Int) ≤ (↑(mrow (Pl.cst (Pl.ech (Pl.qA (D.iface (Pl.tyA q) (Pl.datA q))) ((2 : Nat) * m.length - (1 : Nat)) ((2 : Nat) * m.length) (Pl.recX m m.length, Pl.recO m.length)).snd) (Pl.ech (Pl.qA (D.iface (Pl.tyA q) (Pl.datA q))) ((2 : Nat) * m.length - (1 : Nat)) ((2 : Nat) * m.length) (Pl.recX m m.length, Pl.recO m.length)).snd.length).length : Int) ∧ (↑(mrow (Pl.cst (Pl.ech (Pl.qA (D.iface (Pl.tyA q) (Pl.datA q))) ((2 : Nat) * m.length - (1 : Nat)) ((2 : Nat) * m.length) (Pl.recX m m.length, Pl.recO m.length)).snd) (Pl.ech (Pl.qA (D.iface (Pl.tyA q) (Pl.datA q))) ((2 : Nat) * m.length - (1 : Nat)) ((2 : Nat) * m.length) (Pl.recX m m.length, Pl.recO m.length)).snd.length).length : Int) ≤ (↑(List.map (mrow (Pl.ech (Pl.qA (D.iface (Pl.tyA q) (Pl.datA q))) ((2 : Nat) * m.length - (1 : Nat)) ((2 : Nat) * m.length) (Pl.recX m m.length, Pl.recO m.length)).fst.fst) (mrow (Pl.ech (Pl.qA (D.iface (Pl.tyA q) (Pl.datA q))) ((2 : Nat) * m.length - (1 : Nat)) ((2 : Nat) * m.length) (Pl.recX m m.length, Pl.recO m.length)).fst.snd ((2 : Nat) * m.length))).length : Int) ∧ ∃ (n : Nat), itl (fun (G : List Int × Int × List (Option (List Int)) × PUnit × List (Option (List Nat)) × List (Option (List Int)) × PUnit → Prop) (x : List Int × Int × List (Option (List Int)) × PUnit × List (Option (List Nat)) × List (Option (List Int)) × PUnit) => Br (decide (x.snd.fst < (↑(sub (List.map (mrow (Pl.ech (Pl.qA (D.iface (Pl.tyA q) (Pl.datA q))) ((2 : Nat) * m.length - (1 : Nat)) ((2 : Nat) * m.length) (Pl.recX m m.length, Pl.recO m.length)).fst.fst) (mrow (Pl.ech (Pl.qA (D.iface (Pl.tyA q) (Pl.datA q))) ((2 : Nat) * m.length - (1 : Nat)) ((2 : Nat) * m.length) (Pl.recX m m.length, Pl.recO m.length)).fst.snd ((2 : Nat) * m.length))) (↑(mrow (Pl.cst (Pl.ech (Pl.qA (D.iface (Pl.tyA q) (Pl.datA q))) ((2 : Nat) * m.length - (1 : Nat)) ((2 : Nat) * m.length) (Pl.recX m m.length, Pl.recO m.length)).snd) (Pl.ech (Pl.qA (D.iface (Pl.tyA q) (Pl.datA q))) ((2 : Nat) * m.length - (1 : Nat)) ((2 : Nat) * m.length) (Pl.recX m m.length, Pl.recO m.length)).snd.length).length : Int) (↑(List.map (mrow (Pl.ech (Pl.qA (D.iface (Pl.tyA q) (Pl.datA q))) ((2 : Nat) * m.length - (1 : Nat)) ((2 : Nat) * m.length) (Pl.recX m m.length, Pl.recO m.length)).fst.fst) (mrow (Pl.ech (Pl.qA (D.iface (Pl.tyA q) (Pl.datA q))) ((2 : Nat) * m.length - (1 : Nat)) ((2 : Nat) * m.length) (Pl.recX m m.length, Pl.recO m.length)).fst.snd ((2 : Nat) * m.length))).length : Int)).length : Int))) ((0 : Int) ≤ x.snd.fst ∧ x.snd.fst < (↑(sub (List.map (mrow (Pl.ech (Pl.qA (D.iface (Pl.tyA q) (Pl.datA q))) ((2 : Nat) * m.length - (1 : Nat)) ((2 : Nat) * m.length) (Pl.recX m m.length, Pl.recO m.length)).fst.fst) (mrow (Pl.ech (Pl.qA (D.iface (Pl.tyA q) (Pl.datA q))) ((2 : Nat) * m.length - (1 : Nat)) ((2 : Nat) * m.length) (Pl.recX m m.length, Pl.recO m.length)).fst.snd ((2 : Nat) * m.length))) (↑(mrow (Pl.cst (Pl.ech (Pl.qA (D.iface (Pl.tyA q) (Pl.datA q))) ((2 : Nat) * m.length - (1 : Nat)) ((2 : Nat) * m.length) (Pl.recX m m.length, Pl.recO m.length)).snd) (Pl.ech (Pl.qA (D.iface (Pl.tyA q) (Pl.datA q))) ((2 : Nat) * m.length - (1 : Nat)) ((2 : Nat) * m.length) (Pl.recX m m.length, Pl.recO m.length)).snd.length).length : Int) (↑(List.map (mrow (Pl.ech (Pl.qA (D.iface (Pl.tyA q) (Pl.datA q))) ((2 : Nat) * m.length - (1 : Nat)) ((2 : Nat) * m.length) (Pl.recX m m.length, Pl.recO m.length)).fst.fst) (mrow (Pl.ech (Pl.qA (D.iface (Pl.tyA q) (Pl.datA q))) ((2 : Nat) * m.length - (1 : Nat)) ((2 : Nat) * m.length) (Pl.recX m m.length, Pl.recO m.length)).fst.snd ((2 : Nat) * m.length))).length : Int)).length : Int) ∧ (Pl.okF (D.rptr (fieldC q)) ∧ Pl.inAll (Pl.qF (D.rptr (fieldC q))) (rd i64.slc (sub (List.map (mrow (Pl.ech (Pl.qA (D.iface (Pl.tyA q) (Pl.datA q))) ((2 : Nat) * m.length - (1 : Nat)) ((2 : Nat) * m.length) (Pl.recX m m.length, Pl.recO m.length)).fst.fst) (mrow (Pl.ech (Pl.qA (D.iface (Pl.tyA q) (Pl.datA q))) ((2 : Nat) * m.length - (1 : Nat)) ((2 : Nat) * m.length) (Pl.recX m m.length, Pl.recO m.length)).fst.snd ((2 : Nat) * m.length))) (↑(mrow (Pl.cst (Pl.ech (Pl.qA (D.iface (Pl.tyA q) (Pl.datA q))) ((2 : Nat) * m.length - (1 : Nat)) ((2 : Nat) * m.length) (Pl.recX m m.length, Pl.recO m.length)).snd) (Pl.ech (Pl.qA (D.iface (Pl.tyA q) (Pl.datA q))) ((2 : Nat) * m.length - (1 : Nat)) ((2 : Nat) * m.length) (Pl.recX m m.length, Pl.recO m.length)).snd.length).length : Int) (↑(List.map (mrow (Pl.ech (Pl.qA (D.iface (Pl.tyA q) (Pl.datA q))) ((2 : Nat) * m.length - (1 : Nat)) ((2 : Nat) * m.length) (Pl.recX m m.length, Pl.recO m.length)).fst.fst) (mrow (Pl.ech (Pl.qA (D.iface (Pl.tyA q) (Pl.datA q))) ((2 : Nat) * m.length - (1 : Nat)) ((2 : Nat) * m.length) (Pl.recX m m.length, Pl.recO m.length)).fst.snd ((2 : Nat) * m.length))).length : Int)) x.snd.fst) ∧ Pl.inAll (Pl.qF (D.rptr (fieldC q))) b ∧ List.length (rd i64.slc (sub (List.map (mrow (Pl.ech (Pl.qA (D.iface (Pl.tyA q) (Pl.datA q))) ((2 : Nat) * m.length - (1 : Nat)) ((2 : Nat) * m.length) (Pl.recX m m.length, Pl.recO m.length)).fst.fst) (mrow (Pl.ech (Pl.qA (D.iface (Pl.tyA q) (Pl.datA q))) ((2 : Nat) * m.length - (1 : Nat)) ((2 : Nat) * m.length) (Pl.recX m m.length, Pl.recO m.length)).fst.snd ((2 : Nat) * m.length))) (↑(mrow (Pl.cst (Pl.ech (Pl.qA (D.iface (Pl.tyA q) (Pl.datA q))) ((2 : Nat) * m.length - (1 : Nat)) ((2 : Nat) * m.length) (Pl.recX m m.length, Pl.recO m.length)).snd) (Pl.ech (Pl.qA (D.iface (Pl.tyA q) (Pl.datA q))) ((2 : Nat) * m.length - (1 : Nat)) ((2 : Nat) * m.length) (Pl.recX m m.length, Pl.recO m.length)).snd.length).length : Int) (↑(List.map (mrow (Pl.ech (Pl.qA (D.iface (Pl.tyA q) (Pl.datA q))) ((2 : Nat) * m.length - (1 : Nat)) ((2 : Nat) * m.length) (Pl.recX m m.length, Pl.recO m.length)).fst.fst) (mrow (Pl.ech (Pl.qA (D.iface (Pl.tyA q) (Pl.datA q))) ((2 : Nat) * m.length - (1 : Nat)) ((2 : Nat) * m.length) (Pl.recX m m.length, Pl.recO m.length)).fst.snd ((2 : Nat) * m.length))).length : Int)) x.snd.fst) ≤ b.length) ∧ Br (Pl.dot (Pl.qF (D.rptr (fieldC q))) (rd i64.slc (sub (List.map (mrow (Pl.ech (Pl.qA (D.iface (Pl.tyA q) (Pl.datA q))) ((2 : Nat) * m.length - (1 : Nat)) ((2 : Nat) * m.length) (Pl.recX m m.length, Pl.recO m.length)).fst.fst) (mrow (Pl.ech (Pl.qA (D.iface (Pl.tyA q) (Pl.datA q))) ((2 : Nat) * m.length - (1 : Nat)) ((2 : Nat) * m.length) (Pl.recX m m.length, Pl.recO m.length)).fst.snd ((2 : Nat) * m.length))) (↑(mrow (Pl.cst (Pl.ech (Pl.qA (D.iface (Pl.tyA q) (Pl.datA q))) ((2 : Nat) * m.length - (1 : Nat)) ((2 : Nat) * m.length) (Pl.recX m m.length, Pl.recO m.length)).snd) (Pl.ech (Pl.qA (D.iface (Pl.tyA q) (Pl.datA q))) ((2 : Nat) * m.length - (1 : Nat)) ((2 : Nat) * m.length) (Pl.recX m m.length, Pl.recO m.length)).snd.length).length : Int) (↑(List.map (mrow (Pl.ech (Pl.qA (D.iface (Pl.tyA q) (Pl.datA q))) ((2 : Nat) * m.length - (1 : Nat)) ((2 : Nat) * m.length) (Pl.recX m m.length, Pl.recO m.length)).fst.fst) (mrow (Pl.ech (Pl.qA (D.iface (Pl.tyA q) (Pl.datA q))) ((2 : Nat) * m.length - (1 : Nat)) ((2 : Nat) * m.length) (Pl.recX m m.length, Pl.recO m.length)).fst.snd ((2 : Nat) * m.length))).length : Int)) x.snd.fst) b != (0 : Int)) (([], D.slc false i64 (rd i64.slc (sub (List.map (mrow (Pl.ech (Pl.qA (D.iface (Pl.tyA q) (Pl.datA q))) ((2 : Nat) * m.length - (1 : Nat)) ((2 : Nat) * m.length) (Pl.recX m m.length, Pl.recO m.length)).fst.fst) (mrow (Pl.ech (Pl.qA (D.iface (Pl.tyA q) (Pl.datA q))) ((2 : Nat) * m.length - (1 : Nat)) ((2 : Nat) * m.length) (Pl.recX m m.length, Pl.recO m.length)).fst.snd ((2 : Nat) * m.length))) (↑(mrow (Pl.cst (Pl.ech (Pl.qA (D.iface (Pl.tyA q) (Pl.datA q))) ((2 : Nat) * m.length - (1 : Nat)) ((2 : Nat) * m.length) (Pl.recX m m.length, Pl.recO m.length)).snd) (Pl.ech (Pl.qA (D.iface (Pl.tyA q) (Pl.datA q))) ((2 : Nat) * m.length - (1 : Nat)) ((2 : Nat) * m.length) (Pl.recX m m.length, Pl.recO m.length)).snd.length).length : Int) (↑(List.map (mrow (Pl.ech (Pl.qA (D.iface (Pl.tyA q) (Pl.datA q))) ((2 : Nat) * m.length - (1 : Nat)) ((2 : Nat) * m.length) (Pl.recX m m.length, Pl.recO m.length)).fst.fst) (mrow (Pl.ech (Pl.qA (D.iface (Pl.tyA q) (Pl.datA q))) ((2 : Nat) * m.length - (1 : Nat)) ((2 : Nat) * m.length) (Pl.recX m m.length, Pl.recO m.length)).fst.snd ((2 : Nat) * m.length))).length : Int)) x.snd.fst), ()) = C101s.post (fieldD q, m, b, ())) (G (x.1, IntKind.i64.wrap (x.snd.fst + (1 : Int)), x.snd.snd.1, (), x.snd.snd.snd.snd))) (Br (decide ((↑m.length : Int) > (0 : Int))) ((0 : Int) ≤ (0 : Int) ∧ (0 : Int) < (↑m.length : Int) ∧ (0 : Int) ≤ (↑(List.length (rd i64.slc m (0 : Int))) : Int) ∧ (↑(List.length (rd i64.slc m (0 : Int))) : Int) = (↑(List.length (rd i64.slc m (0 : Int))) : Int) ∧ (↑(List.length (rd i64.slc m (0 : Int))) : Int) * (8 : Int) ≤ (140737488355328 : Int) ∧ ∃ (n : Nat), itl (fun (G : List Int × Int × List (Option (List Int)) × PUnit × List (Option (List Nat)) × List (Option (List Int)) × PUnit → Prop) (x : List Int × Int × List (Option (List Int)) × PUnit × List (Option (List Nat)) × List (Option (List Int)) × PUnit) => Br (decide (x.snd.fst < (↑(mrow (Pl.cst (Pl.ech (Pl.qA (D.iface (Pl.tyA q) (Pl.datA q))) ((2 : Nat) * m.length - (1 : Nat)) ((2 : Nat) * m.length) (Pl.recX m m.length, Pl.recO m.length)).snd) (Pl.ech (Pl.qA (D.iface (Pl.tyA q) (Pl.datA q))) ((2 : Nat) * m.length - (1 : Nat)) ((2 : Nat) * m.length) (Pl.recX m m.length, Pl.recO m.length)).snd.length).length : Int))) ((0 : Int) ≤ x.snd.fst ∧ x.snd.fst < (↑(mrow (Pl.cst (Pl.ech (Pl.qA (D.iface (Pl.tyA q) (Pl.datA q))) ((2 : Nat) * m.length - (1 : Nat)) ((2 : Nat) * m.length) (Pl.recX m m.length, Pl.recO m.length)).snd) (Pl.ech (Pl.qA (D.iface (Pl.tyA q) (Pl.datA q))) ((2 : Nat) * m.length - (1 : Nat)) ((2 : Nat) * m.length) (Pl.recX m m.length, Pl.recO m.length)).snd.length).length : Int) ∧ (0 : Int) ≤ x.snd.fst ∧ x.snd.fst < (↑(List.map (mrow (Pl.ech (Pl.qA (D.iface (Pl.tyA q) (Pl.datA q))) ((2 : Nat) * m.length - (1 : Nat)) ((2 : Nat) * m.length) (Pl.recX m m.length, Pl.recO m.length)).fst.fst) (mrow (Pl.ech (Pl.qA (D.iface (Pl.tyA q) (Pl.datA q))) ((2 : Nat) * m.length - (1 : Nat)) ((2 : Nat) * m.length) (Pl.recX m m.length, Pl.recO m.length)).fst.snd ((2 : Nat) * m.length))).length : Int) ∧ (Pl.okF (D.rptr (fieldC q)) ∧ Pl.inAll (Pl.qF (D.rptr (fieldC q))) (rd i64.slc (List.map (mrow (Pl.ech (Pl.qA (D.iface (Pl.tyA q) (Pl.datA q))) ((2 : Nat) * m.length - (1 : Nat)) ((2 : Nat) * m.length) (Pl.recX m m.length, Pl.recO m.length)).fst.fst) (mrow (Pl.ech (Pl.qA (D.iface (Pl.tyA q) (Pl.datA q))) ((2 : Nat) * m.length - (1 : Nat)) ((2 : Nat) * m.length) (Pl.recX m m.length, Pl.recO m.length)).fst.snd ((2 : Nat) * m.length))) x.snd.fst) ∧ Pl.inAll (Pl.qF (D.rptr (fieldC q))) b ∧ List.length (rd i64.slc (List.map (mrow (Pl.ech (Pl.qA (D.iface (Pl.tyA q) (Pl.datA q))) ((2 : Nat) * m.length - (1 : Nat)) ((2 : Nat) * m.length) (Pl.recX m m.length, Pl.recO m.length)).fst.fst) (mrow (Pl.ech (Pl.qA (D.iface (Pl.tyA q) (Pl.datA q))) ((2 : Nat) * m.length - (1 : Nat)) ((2 : Nat) * m.length) (Pl.recX m m.length, Pl.recO m.length)).fst.snd ((2 : Nat) * m.length))) x.snd.fst) ≤ b.length) ∧ (0 : Int) ≤ rd i64 (mrow (Pl.cst (Pl.ech (Pl.qA (D.iface (Pl.tyA q) (Pl.datA q))) ((2 : Nat) * m.length - (1 : Nat)) ((2 : Nat) * m.length) (Pl.recX m m.length, Pl.recO m.length)).snd) (Pl.ech (Pl.qA (D.iface (Pl.tyA q) (Pl.datA q))) ((2 : Nat) * m.length - (1 : Nat)) ((2 : Nat) * m.length) (Pl.recX m m.length, Pl.recO m.length)).snd.length) x.snd.fst ∧ rd i64 (mrow (Pl.cst (Pl.ech (Pl.qA (D.iface (Pl.tyA q) (Pl.datA q))) ((2 : Nat) * m.length - (1 : Nat)) ((2 : Nat) * m.length) (Pl.recX m m.length, Pl.recO m.length)).snd) (Pl.ech (Pl.qA (D.iface (Pl.tyA q) (Pl.datA q))) ((2 : Nat) * m.length - (1 : Nat)) ((2 : Nat) * m.length) (Pl.recX m m.length, Pl.recO m.length)).snd.length) x.snd.fst < (↑(List.length x.fst) : Int) ∧ (0 : Int) ≤ rd i64 (mrow (Pl.cst (Pl.ech (Pl.qA (D.iface (Pl.tyA q) (Pl.datA q))) ((2 : Nat) * m.length - (1 : Nat)) ((2 : Nat) * m.length) (Pl.recX m m.length, Pl.recO m.length)).snd) (Pl.ech (Pl.qA (D.iface (Pl.tyA q) (Pl.datA q))) ((2 : Nat) * m.length - (1 : Nat)) ((2 : Nat) * m.length) (Pl.recX m m.length, Pl.recO m.length)).snd.length) x.snd.fst ∧ rd i64 (mrow (Pl.cst (Pl.ech (Pl.qA (D.iface (Pl.tyA q) (Pl.datA q))) ((2 : Nat) * m.length - (1 : Nat)) ((2 : Nat) * m.length) (Pl.recX m m.length, Pl.recO m.length)).snd) (Pl.ech (Pl.qA (D.iface (Pl.tyA q) (Pl.datA q))) ((2 : Nat) * m.length - (1 : Nat)) ((2 : Nat) * m.length) (Pl.recX m m.length, Pl.recO m.length)).snd.length) x.snd.fst < (↑(List.length x.fst) : Int) ∧ G (List.set x.fst (Int.toNat (rd i64 (mrow (Pl.cst (Pl.ech (Pl.qA (D.iface (Pl.tyA q) (Pl.datA q))) ((2 : Nat) * m.length - (1 : Nat)) ((2 : Nat) * m.length) (Pl.recX m m.length, Pl.recO m.length)).snd) (Pl.ech (Pl.qA (D.iface (Pl.tyA q) (Pl.datA q))) ((2 : Nat) * m.length - (1 : Nat)) ((2 : Nat) * m.length) (Pl.recX m m.length, Pl.recO m.length)).snd.length) x.snd.fst)) (Pl.dot (Pl.qF (D.rptr (fieldC q))) (rd i64.slc (List.map (mrow (Pl.ech (Pl.qA (D.iface (Pl.tyA q) (Pl.datA q))) ((2 : Nat) * m.length - (1 : Nat)) ((2 : Nat) * m.length) (Pl.recX m m.length, Pl.recO m.length)).fst.fst) (mrow (Pl.ech (Pl.qA (D.iface (Pl.tyA q) (Pl.datA q))) ((2 : Nat) * m.length - (1 : Nat)) ((2 : Nat) * m.length) (Pl.recX m m.length, Pl.recO m.length)).fst.snd ((2 : Nat) * m.length))) x.snd.fst) b), IntKind.i64.wrap (x.snd.fst + (1 : Int)), x.snd.snd.1, (), x.snd.snd.snd.snd)) ((x.1, constD (Value.slice none (0 : Nat) (0 : Nat)), ()) = C101s.post (fieldD q, m, b, ()))) n (List.replicate (↑(List.length (rd i64.slc m (0 : Int))) : Int).toNat (0 : Int), (0 : Int), x.snd.snd.1, (), x.snd.snd.snd.snd)) (∃ (n : Nat), itl (fun (G : List Int × Int × List (Option (List Int)) × PUnit × List (Option (List Nat)) × List (Option (List Int)) × PUnit → Prop) (x : List Int × Int × List (Option (List Int)) × PUnit × List (Option (List Nat)) × List (Option (List Int)) × PUnit) => Br (decide (x.snd.fst < (↑(mrow (Pl.cst (Pl.ech (Pl.qA (D.iface (Pl.tyA q) (Pl.datA q))) ((2 : Nat) * m.length - (1 : Nat)) ((2 : Nat) * m.length) (Pl.recX m m.length, Pl.recO m.length)).snd) (Pl.ech (Pl.qA (D.iface (Pl.tyA q) (Pl.datA q))) ((2 : Nat) * m.length - (1 : Nat)) ((2 : Nat) * m.length) (Pl.recX m m.length, Pl.recO m.length)).snd.length).length : Int))) ((0 : Int) ≤ x.snd.fst ∧ x.snd.fst < (↑(mrow (Pl.cst (Pl.ech (Pl.qA (D.iface (Pl.tyA q) (Pl.datA q))) ((2 : Nat) * m.length - (1 : Nat)) ((2 : Nat) * m.length) (Pl.recX m m.length, Pl.recO m.length)).snd) (Pl.ech (Pl.qA (D.iface (Pl.tyA q) (Pl.datA q))) ((2 : Nat) * m.length - (1 : Nat)) ((2 : Nat) * m.length) (Pl.recX m m.length, Pl.recO m.length)).snd.length).length : Int) ∧ (0 : Int) ≤ x.snd.fst ∧ x.snd.fst < (↑(List.map (mrow (Pl.ech (Pl.qA (D.iface (Pl.tyA q) (Pl.datA q))) ((2 : Nat) * m.length - (1 : Nat)) ((2 : Nat) * m.length) (Pl.recX m m.length, Pl.recO m.length)).fst.fst) (mrow (Pl.ech (Pl.qA (D.iface (Pl.tyA q) (Pl.datA q))) ((2 : Nat) * m.length - (1 : Nat)) ((2 : Nat) * m.length) (Pl.recX m m.length, Pl.recO m.length)).fst.snd ((2 : Nat) * m.length))).length : Int) ∧ (Pl.okF (D.rptr (fieldC q)) ∧ Pl.inAll (Pl.qF (D.rptr (fieldC q))) (rd i64.slc (List.map (mrow (Pl.ech (Pl.qA (D.iface (Pl.tyA q) (Pl.datA q))) ((2 : Nat) * m.length - (1 : Nat)) ((2 : Nat) * m.length) (Pl.recX m m.length, Pl.recO m.length)).fst.fst) (mrow (Pl.ech (Pl.qA (D.iface (Pl.tyA q) (Pl.datA q))) ((2 : Nat) * m.length - (1 : Nat)) ((2 : Nat) * m.length) (Pl.recX m m.length, Pl.recO m.length)).fst.snd ((2 : Nat) * m.length))) x.snd.fst) ∧ Pl.inAll (Pl.qF (D.rptr (fieldC q))) b ∧ List.length (rd i64.slc (List.map (mrow (Pl.ech (Pl.qA (D.iface (Pl.tyA q) (Pl.datA q))) ((2 : Nat) * m.length - (1 : Nat)) ((2 : Nat) * m.length) (Pl.recX m m.length, Pl.recO m.length)).fst.fst) (mrow (Pl.ech (Pl.qA (D.iface (Pl.tyA q) (Pl.datA q))) ((2 : Nat) * m.length - (1 : Nat)) ((2 : Nat) * m.length) (Pl.recX m m.length, Pl.recO m.length)).fst.snd ((2 : Nat) * m.length))) x.snd.fst) ≤ b.length) ∧ (0 : Int) ≤ rd i64 (mrow (Pl.cst (Pl.ech (Pl.qA (D.iface (Pl.tyA q) (Pl.datA q))) ((2 : Nat) * m.length - (1 : Nat)) ((2 : Nat) * m.length) (Pl.recX m m.length, Pl.recO m.length)).snd) (Pl.ech (Pl.qA (D.iface (Pl.tyA q) (Pl.datA q))) ((2 : Nat) * m.length - (1 : Nat)) ((2 : Nat) * m.length) (Pl.recX m m.length, Pl.recO m.length)).snd.length) x.snd.fst ∧ rd i64 (mrow (Pl.cst (Pl.ech (Pl.qA (D.iface (Pl.tyA q) (Pl.datA q))) ((2 : Nat) * m.length - (1 : Nat)) ((2 : Nat) * m.length) (Pl.recX m m.length, Pl.recO m.length)).snd) (Pl.ech (Pl.qA (D.iface (Pl.tyA q) (Pl.datA q))) ((2 : Nat) * m.length - (1 : Nat)) ((2 : Nat) * m.length) (Pl.recX m m.length, Pl.recO m.length)).snd.length) x.snd.fst < (↑(List.length x.fst) : Int) ∧ (0 : Int) ≤ rd i64 (mrow (Pl.cst (Pl.ech (Pl.qA (D.iface (Pl.tyA q) (Pl.datA q))) ((2 : Nat) * m.length - (1 : Nat)) ((2 : Nat) * m.length) (Pl.recX m m.length, Pl.recO m.length)).snd) (Pl.ech (Pl.qA (D.iface (Pl.tyA q) (Pl.datA q))) ((2 : Nat) * m.length - (1 : Nat)) ((2 : Nat) * m.length) (Pl.recX m m.length, Pl.recO m.length)).snd.length) x.snd.fst ∧ rd i64 (mrow (Pl.cst (Pl.ech (Pl.qA (D.iface (Pl.tyA q) (Pl.datA q))) ((2 : Nat) * m.length - (1 : Nat)) ((2 : Nat) * m.length) (Pl.recX m m.length, Pl.recO m.length)).snd) (Pl.ech (Pl.qA (D.iface (Pl.tyA q) (Pl.datA q))) ((2 : Nat) * m.length - (1 : Nat)) ((2 : Nat) * m.length) (Pl.recX m m.length, Pl.recO m.length)).snd.length) x.snd.fst < (↑(List.length x.fst) : Int) ∧ G (List.set x.fst (Int.toNat (rd i64 (mrow (Pl.cst (Pl.ech (Pl.qA (D.iface (Pl.tyA q) (Pl.datA q))) ((2 : Nat) * m.length - (1 : Nat)) ((2 : Nat) * m.length) (Pl.recX m m.length, Pl.recO m.length)).snd) (Pl.ech (Pl.qA (D.iface (Pl.tyA q) (Pl.datA q))) ((2 : Nat) * m.length - (1 : Nat)) ((2 : Nat) * m.length) (Pl.recX m m.length, Pl.recO m.length)).snd.length) x.snd.fst)) (Pl.dot (Pl.qF (D.rptr (fieldC q))) (rd i64.slc (List.map (mrow (Pl.ech (Pl.qA (D.iface (Pl.tyA q) (Pl.datA q))) ((2 : Nat) * m.length - (1 : Nat)) ((2 : Nat) * m.length) (Pl.recX m m.length, Pl.recO m.length)).fst.fst) (mrow (Pl.ech (Pl.qA (D.iface (Pl.tyA q) (Pl.datA q))) ((2 : Nat) * m.length - (1 : Nat)) ((2 : Nat) * m.length) (Pl.recX m m.length, Pl.recO m.length)).fst.snd ((2 : Nat) * m.length))) x.snd.fst) b), IntKind.i64.wrap (x.snd.fst + (1 : Int)), x.snd.snd.1, (), x.snd.snd.snd.snd)) ((x.1, constD (Value.slice none (0 : Nat) (0 : Nat)), ()) = C101s.post (fieldD q, m, b, ()))) n (x.1, (0 : Int), x.snd.snd.1, (), x.snd.snd.snd.snd)))) n ([], (0 : Int), List.map (fun (x : Option (List i64.El)) => none) (Pl.ech (Pl.qA (D.iface (Pl.tyA q) (Pl.datA q))) ((2 : Nat) * m.length - (1 : Nat)) ((2 : Nat) * m.length) (Pl.recX m m.length, Pl.recO m.length)).fst.fst, (), List.map (fun (x : Option (List (Ty.ref (0 : Nat)).El)) => none) (Pl.ech (Pl.qA (D.iface (Pl.tyA q) (Pl.datA q))) ((2 : Nat) * m.length - (1 : Nat)) ((2 : Nat) * m.length) (Pl.recX m m.length, Pl.recO m.length)).fst.snd, List.map (fun (x : Option (List i64.El)) => none) (Pl.cst (Pl.ech (Pl.qA (D.iface (Pl.tyA q) (Pl.datA q))) ((2 : Nat) * m.length - (1 : Nat)) ((2 : Nat) * m.length) (Pl.recX m m.length, Pl.recO m.length)).snd), ())) (by kernel_rfl) ?_
  rw [recS_eq hq, qF_f, c2, rowsD_eq, hp]
  have hlC := F.lC
  have hlD := F.lD
  have hrD := F.rD
  have hcC := F.cC
  obtain ⟨_, hwide, _⟩ := shape_0 s1
  unfold Pl.den at hd
  have hsol : Pl.sol q m b = Pl.solL q b (Pl.echC q m) (Pl.echD q m) (List.replicate (Pl.wide m) 0) := rfl
  rw [hsol]
  have hCe : (Pl.recS q m).2 = Pl.echC q m := rfl
  have hsub : sub (Pl.echD q m) ((Pl.recS q m).2.length : Int) ((Pl.echD q m).length : Int) = (Pl.echD q m).drop (Pl.echC q m).length := sub_drop _ _
  rw [hsub]
  rw [hCe] at c1 ⊢
  have hX : ∀ {x : XS} , True := fun {x} => trivial
  generalize hC : Pl.echC q m = C at *
  generalize hD : Pl.echD q m = DD at *
  have hpre : ∀ r ∈ DD, Pl.okF (D.rptr (fieldC q)) ∧ Pl.inAll q r ∧ Pl.inAll q b ∧ r.length ≤ b.length := fun r hr => ⟨okF_f hq, ⟨(hrD r hr).2, by rw [(hrD r hr).1]; omega⟩, ⟨s3, hb⟩, by rw [(hrD r hr).1]; omega⟩
  have last : ∀ (x0 : List Int) (A : XS) (O : OS) (K : XS), x0.length = Pl.wide m ∨ C = [] → x0 = (bif decide (0 < m.length) then List.replicate (Pl.wide m) 0 else []) → ∃ n, itl (fun (G : List Int × Int × XS × Unit × OS × XS × Unit → Prop) (x : List Int × Int × XS × Unit × OS × XS × Unit) =>
      Br (decide (x.2.1 < (C.length : Int))) ((0 : Int) ≤ x.2.1 ∧ x.2.1 < (C.length : Int) ∧ (0 : Int) ≤ x.2.1 ∧ x.2.1 < (DD.length : Int) ∧ (Pl.okF (D.rptr (fieldC q)) ∧ Pl.inAll q (rd i64.slc DD x.2.1) ∧ Pl.inAll q b ∧ (rd i64.slc DD x.2.1).length ≤ b.length) ∧ (0 : Int) ≤ rd i64 C x.2.1 ∧ rd i64 C x.2.1 < (x.1.length : Int) ∧ (0 : Int) ≤ rd i64 C x.2.1 ∧ rd i64 C x.2.1 < (x.1.length : Int) ∧
          G (x.1.set (Int.toNat (rd i64 C x.2.1)) (Pl.dot q (rd i64.slc DD x.2.1) b), IntKind.i64.wrap (x.2.1 + (1 : Int)), x.2.2.1, (), x.2.2.2.2)) ((x.1, constD (Value.slice none (0 : Nat) (0 : Nat)), ()) = (Pl.solL q b C DD (List.replicate (Pl.wide m) 0), D.val (Value.slice none 0 0), ()))) n (x0, (0 : Int), A, (), O, K, ()) := by
    intro x0 A O K hx0 hx1
    have hst : Pl.solL q b C DD x0 = Pl.solL q b C DD (List.replicate (Pl.wide m) 0) := by
      by_cases h0 : 0 < m.length
      · rw [hx1, decide_eq_true h0]; rfl
      · have : C = [] := List.length_eq_zero_iff.1 (by omega)
        have e : m = [] := List.length_eq_zero_iff.1 (by omega)
        rw [this, solL_nil, solL_nil, hx1, decide_eq_false h0, e]; rfl
    refine itl_rule (fun (s : List Int × Int × XS × Unit × OS × XS × Unit) => ∃ i : Nat, s.2.1 = (i : Int) ∧ i ≤ C.length ∧ (s.1.length = Pl.wide m ∨ C = []) ∧ Pl.solL q b (C.drop i) (DD.drop i) s.1 = Pl.solL q b C DD (List.replicate (Pl.wide m) 0)) (fun s => ((C.length : Int) - s.2.1).toNat) ⟨0, rfl, Nat.zero_le _, hx0, hst⟩ ?_
    rintro ⟨x, i0, A, ⟨⟩, O, K, ⟨⟩⟩ G ⟨i, e, hi, hxl, hf⟩ hG
    simp only at e hxl hf hG ⊢
    subst e
    refine Br_of (fun h => ?_) (fun h => ?_)
    · have h : i < C.length := by have := of_decide_eq_true h; omega
      rw [rd_rr, rd_i, wrap_i64 (by omega) (by omega)]
      have hne : C ≠ [] := fun e => by rw [e] at h; exact absurd h (Nat.not_lt_zero _)
      have hxl : x.length = Pl.wide m := hxl.resolve_right hne
      obtain ⟨k0, k1⟩ := hcC _ (show C.getD i 0 ∈ C from getD_mem h)
      have hiD : i < DD.length := by omega
      have hkx : C.getD i 0 < ((List.length x : Nat) : Int) := by
        have e : ((List.length x : Nat) : Int) = (Pl.wide m : Int) := congrArg Nat.cast hxl
        rw [e]; exact k1
      rw [drop_cons 0 h, drop_cons [] hiD, Pl.solL] at hf
      refine ⟨by omega, by omega, by omega, by omega, hpre _ (rowD_mem hiD), k0, hkx, k0, hkx, hG _ ⟨i + 1, rfl, by omega, .inl (by simp only [List.length_set]; exact hxl), hf⟩ (by simp only; omega)⟩
    · have h : i = C.length := by have := of_decide_eq_false h; omega
      subst h
      rw [List.drop_length, solL_nil] at hf
      rw [← hf]; rfl
  refine ⟨p1, ⟨p2, rfl⟩, F.m1, F.a1, F.m2, F.a2, c1, by omega, by omega, itl_rule (fun (s : List Int × Int × XS × Unit × OS × XS × Unit) => ∃ (i : Nat), s.1 = [] ∧ s.2.1 = (i : Int) ∧ i ≤ (DD.drop C.length).length ∧ Pl.denL q b ((DD.drop C.length).drop i) = none) (fun s => (((DD.drop C.length).length : Int) - s.2.1).toNat) ⟨0, rfl, rfl, Nat.zero_le _, hd⟩ ?_⟩
  have hrE : ∀ r ∈ DD.drop C.length, r ∈ DD := fun r hr => List.mem_of_mem_drop hr
  have hlE : (DD.drop C.length).length ≤ 1000000000 := by rw [List.length_drop]; omega
  generalize DD.drop C.length = EE at *
  rintro ⟨x, i0, A, ⟨⟩, O, K, ⟨⟩⟩ G ⟨i, ex, e, hi, hf⟩ hG
  simp only at ex e hf hG ⊢
  subst ex e
  refine Br_of (fun h => ?_) (fun h => ?_)
  · have h : i < EE.length := by have := of_decide_eq_true h; omega
    rw [rd_rr, wrap_i64 (by omega) (by omega)]
    rw [drop_cons [] h, Pl.denL] at hf
    refine ⟨by omega, by omega, hpre _ (hrE _ (rowD_mem h)), Br_of (fun h1 => ?_) (fun h1 => ?_)⟩
    · have h1 : Pl.dot q (EE.getD i []) b ≠ 0 := by simpa using h1
      rw [decide_eq_true h1, cond_true] at hf
      cases hf
    · have h1 : Pl.dot q (EE.getD i []) b = 0 := by simpa using h1
      rw [decide_eq_false (not_not_intro h1), cond_false] at hf
      exact hG _ ⟨i + 1, rfl, rfl, by omega, hf⟩ (by simp only; omega)
  · refine Br_of (fun h0 => ?_) (fun h0 => ?_)
    · have h0 : 0 < m.length := by have := of_decide_eq_true h0; omega
      have hw : (rd i64.slc m (0 : Int)).length = Pl.wide m := rfl
      rw [hw]
      refine ⟨by omega, by omega, by omega, trivial, by omega, last _ _ _ _ (.inl (by simp)) ?_⟩
      rw [decide_eq_true h0]; simp
    · have h0 : ¬ 0 < m.length := by have := of_decide_eq_false h0; omega
      exact last _ _ _ _ (.inr (List.length_eq_zero_iff.1 (by omega))) (by rw [decide_eq_false h0]; rfl)
theorem vc101d : ∀ x, C101d.pre x → VC T101 H101 Try.f101 C101d x := by
  rintro ⟨v, (m : List (List Int)), (b : List Int), ⟨⟩⟩ ⟨⟨⟨q, hq, (rfl : v = _)⟩, (hm : Pl.okMM m), (hb : b.length ≤ 1000000000)⟩, (hs : Pl.sys (Pl.qF (fieldD q)) m b = 0), (hd : Pl.den (Pl.qF (fieldD q)) m b ≠ none)⟩
  rw [qF_d] at hs hd
  obtain ⟨s1, s2, s3⟩ := den_sys hs
  obtain ⟨p1, p2, F⟩ := pre_new hq s1
  obtain ⟨c1, c2⟩ := cst_row (Pl.recS q m).2
  have hp : C101d.post (fieldD q, m, b, ()) = ([], Pl.denW q m b, ()) := rfl
  refine cast (α := Pl.okMx m ∧ (Pl.preE (Pl.tyA q) (Pl.tyA q) (Pl.datA q) (Pl.datA q) ((2 : Nat) * m.length - (1 : Nat)) ((2 : Nat) * m.length) (Pl.recX m m.length) (Pl.recO m.length) ∧ ([] : List (Option (List Int))) = []) ∧ mal (Pl.ech (Pl.qA (D.iface (Pl.tyA q) (Pl.datA q))) ((2 : Nat) * m.length - (1 : Nat)) ((2 : Nat) * m.length) (Pl.recX m m.length, Pl.recO m.length)).fst.snd ((2 : Nat) * m.length - (1 : Nat)) ∧ (∀ (i : (Ty.ref (0 : Nat)).El), i ∈ mrow (Pl.ech (Pl.qA (D.iface (Pl.tyA q) (Pl.datA q))) ((2 : Nat) * m.length - (1 : Nat)) ((2 : Nat) * m.length) (Pl.recX m m.length, Pl.recO m.length)).fst.snd ((2 : Nat) * m.length - (1 : Nat)) → mal (Pl.ech (Pl.qA (D.iface (Pl.tyA q) (Pl.datA q))) ((2 : Nat) * m.length - (1 : Nat)) ((2 : Nat) * m.length) (Pl.recX m m.length, Pl.recO m.length)).fst.fst i) ∧ mal (Pl.ech (Pl.qA (D.iface (Pl.tyA q) (Pl.datA q))) ((2 : Nat) * m.length - (1 : Nat)) ((2 : Nat) * m.length) (Pl.recX m m.length, Pl.recO m.length)).fst.snd ((2 : Nat) * m.length) ∧ (∀ (i : (Ty.ref (0 : Nat)).El), i ∈ mrow (Pl.ech (Pl.qA (D.iface (Pl.tyA q) (Pl.datA q))) ((2 : Nat) * m.length - (1 : Nat)) ((2 : Nat) * m.length) (Pl.recX m m.length, Pl.recO m.length)).fst.snd ((2 : Nat) * m.length) → mal (Pl.ech (Pl.qA (D.iface (Pl.tyA q) (Pl.datA q))) ((2 : Nat) * m.length - (1 : Nat)) ((2 : Nat) * m.length) (Pl.recX m m.length, Pl.recO m.length)).fst.fst i) ∧ mal (Pl.cst (Pl.ech (Pl.qA (D.iface (Pl.tyA q) (Pl.datA q))) ((2 : Nat) * m.length - (1 : Nat)) ((2 : Nat) * m.length) (Pl.recX m m.length, Pl.recO m.length)).snd) (Pl.ech (Pl.qA (D.iface (Pl.tyA q) (Pl.datA q))) ((2 : Nat) * m.length - (1 : Nat)) ((2 : Nat) * m.length) (Pl.recX m m.length, Pl.recO m.length)).snd.length ∧ (0 : Int) ≤ (↑(mrow (Pl.cst (Pl.ech (Pl.qA (D.iface (Pl.tyA q) (Pl.datA q))) ((2 : Nat) * m.length - (1 : Nat)) ((2 : Nat) * m.length) (Pl.recX m m.length, Pl.recO m.length)).snd) (Pl.ech (Pl.qA (D.iface (Pl.tyA q) (Pl.datA q))) ((2 : Nat) * m.length - (1 : Nat)) ((2 : Nat) * m.length) (Pl.recX m m.length, Pl.recO m.length)).snd.length).length : Int) ∧ (↑(mrow (Pl.cst (Pl.ech (Pl.qA (D.iface (Pl.tyA q) (Pl.datA q))) ((2 : Nat) * m.length - (1 : Nat)) ((2 : Nat) * m.length) (Pl.recX m m.length, Pl.recO m.length)).snd) (Pl.ech (Pl.qA (D.iface (Pl.tyA q) (Pl.datA q))) ((2 : Nat) * m.length - (1 : Nat)) ((2 : Nat) * m.length) (Pl.recX m m.length, Pl.recO m.length)).snd.length).length : Int) ≤ (↑(List.map (mrow (Pl.ech (Pl.qA (D.iface (Pl.tyA q) (Pl.datA q))) ((2 : Nat) * m.length - (1 : Nat)) ((2 : Nat) * m.length) (Pl.recX m m.length, Pl.recO m.length)).fst.fst) (mrow (Pl.ech (Pl.qA (D.iface (Pl.tyA q) (Pl.datA q))) ((2 : Nat) * m.length - (1 : Nat)) ((2 : Nat) * m.length) (Pl.recX m m.length, Pl.recO m.length)).fst.snd ((2 : Nat) * m.length))).length : Int) ∧ ∃ (n : Nat), itl (fun (G : List Int × Int × List (Option (List Int)) × PUnit × List (Option (List Nat)) × List (Option (List Int)) × PUnit → Prop) (x : List Int × Int × List (Option (List Int)) × PUnit × List (Option (List Nat)) × List (Option (List Int)) × PUnit) => Br (decide (x.snd.fst < (↑(sub (List.map (mrow (Pl.ech (Pl.qA (D.iface (Pl.tyA q) (Pl.datA q))) ((2 : Nat) * m.length - (1 : Nat)) ((2 : Nat) * m.length) (Pl.recX m m.length, Pl.recO m.length)).fst.fst) (mrow (Pl.ech (Pl.qA (D.iface (Pl.tyA q) (Pl.datA q))) ((2 : Nat) * m.length - (1 : Nat)) ((2 : Nat) * m.length) (Pl.recX m m.length, Pl.recO m.length)).fst.snd ((2 : Nat) * m.length))) (↑(mrow (Pl.cst (Pl.ech (Pl.qA (D.iface (Pl.tyA q) (Pl.datA q))) ((2 : Nat) * m.length - (1 : Nat)) ((2 : Nat) * m.length) (Pl.recX m m.length, Pl.recO m.length)).snd) (Pl.ech (Pl.qA (D.iface (Pl.tyA q) (Pl.datA q))) ((2 : Nat) * m.length - (1 : Nat)) ((2 : Nat) * m.length) (Pl.recX m m.length, Pl.recO m.length)).snd.length).length : Int) (↑(List.map (mrow (Pl.ech (Pl.qA (D.iface (Pl.tyA q) (Pl.datA q))) ((2 : Nat) * m.length - (1 : Nat)) ((2 : Nat) * m.length) (Pl.recX m m.length, Pl.recO m.length)).fst.fst) (mrow (Pl.ech (Pl.qA (D.iface (Pl.tyA q) (Pl.datA q))) ((2 : Nat) * m.length - (1 : Nat)) ((2 : Nat) * m.length) (Pl.recX m m.length, Pl.recO m.length)).fst.snd ((2 : Nat) * m.length))).length : Int)).length : Int))) ((0 : Int) ≤ x.snd.fst ∧ x.snd.fst < (↑(sub (List.map (mrow (Pl.ech (Pl.qA (D.iface (Pl.tyA q) (Pl.datA q))) ((2 : Nat) * m.length - (1 : Nat)) ((2 : Nat) * m.length) (Pl.recX m m.length, Pl.recO m.length)).fst.fst) (mrow (Pl.ech (Pl.qA (D.iface (Pl.tyA q) (Pl.datA q))) ((2 : Nat) * m.length - (1 : Nat)) ((2 : Nat) * m.length) (Pl.recX m m.length, Pl.recO m.length)).fst.snd ((2 : Nat) * m.length))) (↑(mrow (Pl.cst (Pl.ech (Pl.qA (D.iface (Pl.tyA q) (Pl.datA q))) ((2 : Nat) * m.length - (1 : Nat)) ((2 : Nat) * m.length) (Pl.recX m m.length, Pl.recO m.length)).snd) (Pl.ech (Pl.qA (D.iface (Pl.tyA q) (Pl.datA q))) ((2 : Nat) * m.length - (1 : Nat)) ((2 : Nat) * m.length) (Pl.recX m m.length, Pl.recO m.length)).snd.length).length : Int) (↑(List.map (mrow (Pl.ech (Pl.qA (D.iface (Pl.tyA q) (Pl.datA q))) ((2 : Nat) * m.length - (1 : Nat)) ((2 : Nat) * m.length) (Pl.recX m m.length, Pl.recO m.length)).fst.fst) (mrow (Pl.ech (Pl.qA (D.iface (Pl.tyA q) (Pl.datA q))) ((2 : Nat) * m.length - (1 : Nat)) ((2 : Nat) * m.length) (Pl.recX m m.length, Pl.recO m.length)).fst.snd ((2 : Nat) * m.length))).length : Int)).length : Int) ∧ (Pl.okF (D.rptr (fieldC q)) ∧ Pl.inAll (Pl.qF (D.rptr (fieldC q))) (rd i64.slc (sub (List.map (mrow (Pl.ech (Pl.qA (D.iface (Pl.tyA q) (Pl.datA q))) ((2 : Nat) * m.length - (1 : Nat)) ((2 : Nat) * m.length) (Pl.recX m m.length, Pl.recO m.length)).fst.fst) (mrow (Pl.ech (Pl.qA (D.iface (Pl.tyA q) (Pl.datA q))) ((2 : Nat) * m.length - (1 : Nat)) ((2 : Nat) * m.length) (Pl.recX m m.length, Pl.recO m.length)).fst.snd ((2 : Nat) * m.length))) (↑(mrow (Pl.cst (Pl.ech (Pl.qA (D.iface (Pl.tyA q) (Pl.datA q))) ((2 : Nat) * m.length - (1 : Nat)) ((2 : Nat) * m.length) (Pl.recX m m.length, Pl.recO m.length)).snd) (Pl.ech (Pl.qA (D.iface (Pl.tyA q) (Pl.datA q))) ((2 : Nat) * m.length - (1 : Nat)) ((2 : Nat) * m.length) (Pl.recX m m.length, Pl.recO m.length)).snd.length).length : Int) (↑(List.map (mrow (Pl.ech (Pl.qA (D.iface (Pl.tyA q) (Pl.datA q))) ((2 : Nat) * m.length - (1 : Nat)) ((2 : Nat) * m.length) (Pl.recX m m.length, Pl.recO m.length)).fst.fst) (mrow (Pl.ech (Pl.qA (D.iface (Pl.tyA q) (Pl.datA q))) ((2 : Nat) * m.length - (1 : Nat)) ((2 : Nat) * m.length) (Pl.recX m m.length, Pl.recO m.length)).fst.snd ((2 : Nat) * m.length))).length : Int)) x.snd.fst) ∧ Pl.inAll (Pl.qF (D.rptr (fieldC q))) b ∧ List.length (rd i64.slc (sub (List.map (mrow (Pl.ech (Pl.qA (D.iface (Pl.tyA q) (Pl.datA q))) ((2 : Nat) * m.length - (1 : Nat)) ((2 : Nat) * m.length) (Pl.recX m m.length, Pl.recO m.length)).fst.fst) (mrow (Pl.ech (Pl.qA (D.iface (Pl.tyA q) (Pl.datA q))) ((2 : Nat) * m.length - (1 : Nat)) ((2 : Nat) * m.length) (Pl.recX m m.length, Pl.recO m.length)).fst.snd ((2 : Nat) * m.length))) (↑(mrow (Pl.cst (Pl.ech (Pl.qA (D.iface (Pl.tyA q) (Pl.datA q))) ((2 : Nat) * m.length - (1 : Nat)) ((2 : Nat) * m.length) (Pl.recX m m.length, Pl.recO m.length)).snd) (Pl.ech (Pl.qA (D.iface (Pl.tyA q) (Pl.datA q))) ((2 : Nat) * m.length - (1 : Nat)) ((2 : Nat) * m.length) (Pl.recX m m.length, Pl.recO m.length)).snd.length).length : Int) (↑(List.map (mrow (Pl.ech (Pl.qA (D.iface (Pl.tyA q) (Pl.datA q))) ((2 : Nat) * m.length - (1 : Nat)) ((2 : Nat) * m.length) (Pl.recX m m.length, Pl.recO m.length)).fst.fst) (mrow (Pl.ech (Pl.qA (D.iface (Pl.tyA q) (Pl.datA q))) ((2 : Nat) * m.length - (1 : Nat)) ((2 : Nat) * m.length) (Pl.recX m m.length, Pl.recO m.length)).fst.snd ((2 : Nat) * m.length))).length : Int)) x.snd.fst) ≤ b.length) ∧ Br (Pl.dot (Pl.qF (D.rptr (fieldC q))) (rd i64.slc (sub (List.map (mrow (Pl.ech (Pl.qA (D.iface (Pl.tyA q) (Pl.datA q))) ((2 : Nat) * m.length - (1 : Nat)) ((2 : Nat) * m.length) (Pl.recX m m.length, Pl.recO m.length)).fst.fst) (mrow (Pl.ech (Pl.qA (D.iface (Pl.tyA q) (Pl.datA q))) ((2 : Nat) * m.length - (1 : Nat)) ((2 : Nat) * m.length) (Pl.recX m m.length, Pl.recO m.length)).fst.snd ((2 : Nat) * m.length))) (↑(mrow (Pl.cst (Pl.ech (Pl.qA (D.iface (Pl.tyA q) (Pl.datA q))) ((2 : Nat) * m.length - (1 : Nat)) ((2 : Nat) * m.length) (Pl.recX m m.length, Pl.recO m.length)).snd) (Pl.ech (Pl.qA (D.iface (Pl.tyA q) (Pl.datA q))) ((2 : Nat) * m.length - (1 : Nat)) ((2 : Nat) * m.length) (Pl.recX m m.length, Pl.recO m.length)).snd.length).length : Int) (↑(List.map (mrow (Pl.ech (Pl.qA (D.iface (Pl.tyA q) (Pl.datA q))) ((2 : Nat) * m.length - (1 : Nat)) ((2 : Nat) * m.length) (Pl.recX m m.length, Pl.recO m.length)).fst.fst) (mrow (Pl.ech (Pl.qA (D.iface (Pl.tyA q) (Pl.datA q))) ((2 : Nat) * m.length - (1 : Nat)) ((2 : Nat) * m.length) (Pl.recX m m.length, Pl.recO m.length)).fst.snd ((2 : Nat) * m.length))).length : Int)) x.snd.fst) b != (0 : Int)) (([], rd i64.slc (sub (List.map (mrow (Pl.ech (Pl.qA (D.iface (Pl.tyA q) (Pl.datA q))) ((2 : Nat) * m.length - (1 : Nat)) ((2 : Nat) * m.length) (Pl.recX m m.length, Pl.recO m.length)).fst.fst) (mrow (Pl.ech (Pl.qA (D.iface (Pl.tyA q) (Pl.datA q))) ((2 : Nat) * m.length - (1 : Nat)) ((2 : Nat) * m.length) (Pl.recX m m.length, Pl.recO m.length)).fst.snd ((2 : Nat) * m.length))) (↑(mrow (Pl.cst (Pl.ech (Pl.qA (D.iface (Pl.tyA q) (Pl.datA q))) ((2 : Nat) * m.length - (1 : Nat)) ((2 : Nat) * m.length) (Pl.recX m m.length, Pl.recO m.length)).snd) (Pl.ech (Pl.qA (D.iface (Pl.tyA q) (Pl.datA q))) ((2 : Nat) * m.length - (1 : Nat)) ((2 : Nat) * m.length) (Pl.recX m m.length, Pl.recO m.length)).snd.length).length : Int) (↑(List.map (mrow (Pl.ech (Pl.qA (D.iface (Pl.tyA q) (Pl.datA q))) ((2 : Nat) * m.length - (1 : Nat)) ((2 : Nat) * m.length) (Pl.recX m m.length, Pl.recO m.length)).fst.fst) (mrow (Pl.ech (Pl.qA (D.iface (Pl.tyA q) (Pl.datA q))) ((2 : Nat) * m.length - (1 : Nat)) ((2 : Nat) * m.length) (Pl.recX m m.length, Pl.recO m.length)).fst.snd ((2 : Nat) * m.length))).length : Int)) x.snd.fst, ()) = C101d.post (fieldD q, m, b, ())) (G (x.1, IntKind.i64.wrap (x.snd.fst + (1 : Int)), x.snd.snd.1, (), x.snd.snd.snd.snd))) (Br (decide ((↑m.length : Int) > (0 : Int))) ((0 : Int) ≤ (0 : Int) ∧ (0 : Int) < (↑m.length : Int) ∧ (0 : Int) ≤ (↑(List.length (rd i64.slc m (0 : Int))) : Int) ∧ (↑(List.length (rd i64.slc m (0 : Int))) : Int) = (↑(List.length (rd i64.slc m (0 : Int))) : Int) ∧ (↑(List.length (rd i64.slc m (0 : Int))) : Int) * (8 : Int) ≤ (140737488355328 : Int) ∧ ∃ (n : Nat), itl (fun (G : List Int × Int × List (Option (List Int)) × PUnit × List (Option (List Nat)) × List (Option (List Int)) × PUnit → Prop) (x : List Int × Int × List (Option (List Int)) × PUnit × List (Option (List Nat)) × List (Option (List Int)) × PUnit) => Br (decide (x.snd.fst < (↑(mrow (Pl.cst (Pl.ech (Pl.qA (D.iface (Pl.tyA q) (Pl.datA q))) ((2 : Nat) * m.length - (1 : Nat)) ((2 : Nat) * m.length) (Pl.recX m m.length, Pl.recO m.length)).snd) (Pl.ech (Pl.qA (D.iface (Pl.tyA q) (Pl.datA q))) ((2 : Nat) * m.length - (1 : Nat)) ((2 : Nat) * m.length) (Pl.recX m m.length, Pl.recO m.length)).snd.length).length : Int))) ((0 : Int) ≤ x.snd.fst ∧ x.snd.fst < (↑(mrow (Pl.cst (Pl.ech (Pl.qA (D.iface (Pl.tyA q) (Pl.datA q))) ((2 : Nat) * m.length - (1 : Nat)) ((2 : Nat) * m.length) (Pl.recX m m.length, Pl.recO m.length)).snd) (Pl.ech (Pl.qA (D.iface (Pl.tyA q) (Pl.datA q))) ((2 : Nat) * m.length - (1 : Nat)) ((2 : Nat) * m.length) (Pl.recX m m.length, Pl.recO m.length)).snd.length).length : Int) ∧ (0 : Int) ≤ x.snd.fst ∧ x.snd.fst < (↑(List.map (mrow (Pl.ech (Pl.qA (D.iface (Pl.tyA q) (Pl.datA q))) ((2 : Nat) * m.length - (1 : Nat)) ((2 : Nat) * m.length) (Pl.recX m m.length, Pl.recO m.length)).fst.fst) (mrow (Pl.ech (Pl.qA (D.iface (Pl.tyA q) (Pl.datA q))) ((2 : Nat) * m.length - (1 : Nat)) ((2 : Nat) * m.length) (Pl.recX m m.length, Pl.recO m.length)).fst.snd ((2 : Nat) * m.length))).length : Int) ∧ (Pl.okF (D.rptr (fieldC q)) ∧ Pl.inAll (Pl.qF (D.rptr (fieldC q))) (rd i64.slc (List.map (mrow (Pl.ech (Pl.qA (D.iface (Pl.tyA q) (Pl.datA q))) ((2 : Nat) * m.length - (1 : Nat)) ((2 : Nat) * m.length) (Pl.recX m m.length, Pl.recO m.length)).fst.fst) (mrow (Pl.ech (Pl.qA (D.iface (Pl.tyA q) (Pl.datA q))) ((2 : Nat) * m.length - (1 : Nat)) ((2 : Nat) * m.length) (Pl.recX m m.length, Pl.recO m.length)).fst.snd ((2 : Nat) * m.length))) x.snd.fst) ∧ Pl.inAll (Pl.qF (D.rptr (fieldC q))) b ∧ List.length (rd i64.slc (List.map (mrow (Pl.ech (Pl.qA (D.iface (Pl.tyA q) (Pl.datA q))) ((2 : Nat) * m.length - (1 : Nat)) ((2 : Nat) * m.length) (Pl.recX m m.length, Pl.recO m.length)).fst.fst) (mrow (Pl.ech (Pl.qA (D.iface (Pl.tyA q) (Pl.datA q))) ((2 : Nat) * m.length - (1 : Nat)) ((2 : Nat) * m.length) (Pl.recX m m.length, Pl.recO m.length)).fst.snd ((2 : Nat) * m.length))) x.snd.fst) ≤ b.length) ∧ (0 : Int) ≤ rd i64 (mrow (Pl.cst (Pl.ech (Pl.qA (D.iface (Pl.tyA q) (Pl.datA q))) ((2 : Nat) * m.length - (1 : Nat)) ((2 : Nat) * m.length) (Pl.recX m m.length, Pl.recO m.length)).snd) (Pl.ech (Pl.qA (D.iface (Pl.tyA q) (Pl.datA q))) ((2 : Nat) * m.length - (1 : Nat)) ((2 : Nat) * m.length) (Pl.recX m m.length, Pl.recO m.length)).snd.length) x.snd.fst ∧ rd i64 (mrow (Pl.cst (Pl.ech (Pl.qA (D.iface (Pl.tyA q) (Pl.datA q))) ((2 : Nat) * m.length - (1 : Nat)) ((2 : Nat) * m.length) (Pl.recX m m.length, Pl.recO m.length)).snd) (Pl.ech (Pl.qA (D.iface (Pl.tyA q) (Pl.datA q))) ((2 : Nat) * m.length - (1 : Nat)) ((2 : Nat) * m.length) (Pl.recX m m.length, Pl.recO m.length)).snd.length) x.snd.fst < (↑(List.length x.fst) : Int) ∧ (0 : Int) ≤ rd i64 (mrow (Pl.cst (Pl.ech (Pl.qA (D.iface (Pl.tyA q) (Pl.datA q))) ((2 : Nat) * m.length - (1 : Nat)) ((2 : Nat) * m.length) (Pl.recX m m.length, Pl.recO m.length)).snd) (Pl.ech (Pl.qA (D.iface (Pl.tyA q) (Pl.datA q))) ((2 : Nat) * m.length - (1 : Nat)) ((2 : Nat) * m.length) (Pl.recX m m.length, Pl.recO m.length)).snd.length) x.snd.fst ∧ rd i64 (mrow (Pl.cst (Pl.ech (Pl.qA (D.iface (Pl.tyA q) (Pl.datA q))) ((2 : Nat) * m.length - (1 : Nat)) ((2 : Nat) * m.length) (Pl.recX m m.length, Pl.recO m.length)).snd) (Pl.ech (Pl.qA (D.iface (Pl.tyA q) (Pl.datA q))) ((2 : Nat) * m.length - (1 : Nat)) ((2 : Nat) * m.length) (Pl.recX m m.length, Pl.recO m.length)).snd.length) x.snd.fst < (↑(List.length x.fst) : Int) ∧ G (List.set x.fst (Int.toNat (rd i64 (mrow (Pl.cst (Pl.ech (Pl.qA (D.iface (Pl.tyA q) (Pl.datA q))) ((2 : Nat) * m.length - (1 : Nat)) ((2 : Nat) * m.length) (Pl.recX m m.length, Pl.recO m.length)).snd) (Pl.ech (Pl.qA (D.iface (Pl.tyA q) (Pl.datA q))) ((2 : Nat) * m.length - (1 : Nat)) ((2 : Nat) * m.length) (Pl.recX m m.length, Pl.recO m.length)).snd.length) x.snd.fst)) (Pl.dot (Pl.qF (D.rptr (fieldC q))) (rd i64.slc (List.map (mrow (Pl.ech (Pl.qA (D.iface (Pl.tyA q) (Pl.datA q))) ((2 : Nat) * m.length - (1 : Nat)) ((2 : Nat) * m.length) (Pl.recX m m.length, Pl.recO m.length)).fst.fst) (mrow (Pl.ech (Pl.qA (D.iface (Pl.tyA q) (Pl.datA q))) ((2 : Nat) * m.length - (1 : Nat)) ((2 : Nat) * m.length) (Pl.recX m m.length, Pl.recO m.length)).fst.snd ((2 : Nat) * m.length))) x.snd.fst) b), IntKind.i64.wrap (x.snd.fst + (1 : Int)), x.snd.snd.1, (), x.snd.snd.snd.snd)) ((x.1, [], ()) = C101d.post (fieldD q, m, b, ()))) n (List.replicate (↑(List.length (rd i64.slc m (0 : Int))) : Int).toNat (0 : Int), (0 : Int), x.snd.snd.1, (), x.snd.snd.snd.snd)) (∃ (n : Nat), itl (fun (G : List Int × Int × List (Option (List Int)) × PUnit × List (Option (List Nat)) × List (Option (List Int)) × PUnit → Prop) (x : List Int × Int × List (Option (List Int)) × PUnit × List (Option (List Nat)) × List (Option (List Int)) × PUnit) => Br (decide (x.snd.fst < (↑(mrow (Pl.cst (Pl.ech (Pl.qA (D.iface (Pl.tyA q) (Pl.datA q))) ((2 : Nat) * m.length - (1 : Nat)) ((2 : Nat) * m.length) (Pl.recX m m.length, Pl.recO m.length)).snd) (Pl.ech (Pl.qA (D.iface (Pl.tyA q) (Pl.datA q))) ((2 : Nat) * m.length - (1 : Nat)) ((2 : Nat) * m.length) (Pl.recX m m.length, Pl.recO m.length)).snd.length).length : Int))) ((0 : Int) ≤ x.snd.fst ∧ x.snd.fst < (↑(mrow (Pl.cst (Pl.ech (Pl.qA (D.iface (Pl.tyA q) (Pl.datA q))) ((2 : Nat) * m.length - (1 : Nat)) ((2 : Nat) * m.length) (Pl.recX m m.length, Pl.recO m.length)).snd) (Pl.ech (Pl.qA (D.iface (Pl.tyA q) (Pl.datA q))) ((2 : Nat) * m.length - (1 : Nat)) ((2 : Nat) * m.length) (Pl.recX m m.length, Pl.recO m.length)).snd.length).length : Int) ∧ (0 : Int) ≤ x.snd.fst ∧ x.snd.fst < (↑(List.map (mrow (Pl.ech (Pl.qA (D.iface (Pl.tyA q) (Pl.datA q))) ((2 : Nat) * m.length - (1 : Nat)) ((2 : Nat) * m.length) (Pl.recX m m.length, Pl.recO m.length)).fst.fst) (mrow (Pl.ech (Pl.qA (D.iface (Pl.tyA q) (Pl.datA q))) ((2 : Nat) * m.length - (1 : Nat)) ((2 : Nat) * m.length) (Pl.recX m m.length, Pl.recO m.length)).fst.snd ((2 : Nat) * m.length))).length : Int) ∧ (Pl.okF (D.rptr (fieldC q)) ∧ Pl.inAll (Pl.qF (D.rptr (fieldC q))) (rd i64.slc (List.map (mrow (Pl.ech (Pl.qA (D.iface (Pl.tyA q) (Pl.datA q))) ((2 : Nat) * m.length - (1 : Nat)) ((2 : Nat) * m.length) (Pl.recX m m.length, Pl.recO m.length)).fst.fst) (mrow (Pl.ech (Pl.qA (D.iface (Pl.tyA q) (Pl.datA q))) ((2 : Nat) * m.length - (1 : Nat)) ((2 : Nat) * m.length) (Pl.recX m m.length, Pl.recO m.length)).fst.snd ((2 : Nat) * m.length))) x.snd.fst) ∧ Pl.inAll (Pl.qF (D.rptr (fieldC q))) b ∧ List.length (rd i64.slc (List.map (mrow (Pl.ech (Pl.qA (D.iface (Pl.tyA q) (Pl.datA q))) ((2 : Nat) * m.length - (1 : Nat)) ((2 : Nat) * m.length) (Pl.recX m m.length, Pl.recO m.length)).fst.fst) (mrow (Pl.ech (Pl.qA (D.iface (Pl.tyA q) (Pl.datA q))) ((2 : Nat) * m.length - (1 : Nat)) ((2 : Nat) * m.length) (Pl.recX m m.length, Pl.recO m.length)).fst.snd ((2 : Nat) * m.length))) x.snd.fst) ≤ b.length) ∧ (0 : Int) ≤ rd i64 (mrow (Pl.cst (Pl.ech (Pl.qA (D.iface (Pl.tyA q) (Pl.datA q))) ((2 : Nat) * m.length - (1 : Nat)) ((2 : Nat) * m.length) (Pl.recX m m.length, Pl.recO m.length)).snd) (Pl.ech (Pl.qA (D.iface (Pl.tyA q) (Pl.datA q))) ((2 : Nat) * m.length - (1 : Nat)) ((2 : Nat) * m.length) (Pl.recX m m.length, Pl.recO m.length)).snd.length) x.snd.fst ∧ rd i64 (mrow (Pl.cst (Pl.ech (Pl.qA (D.iface (Pl.tyA q) (Pl.datA q))) ((2 : Nat) * m.length - (1 : Nat)) ((2 : Nat) * m.length) (Pl.recX m m.length, Pl.recO m.length)).snd) (Pl.ech (Pl.qA (D.iface (Pl.tyA q) (Pl.datA q))) ((2 : Nat) * m.length - (1 : Nat)) ((2 : Nat) * m.length) (Pl.recX m m.length, Pl.recO m.length)).snd.length) x.snd.fst < (↑(List.length x.fst) : Int) ∧ (0 : Int) ≤ rd i64 (mrow (Pl.cst (Pl.ech (Pl.qA (D.iface (Pl.tyA q) (Pl.datA q))) ((2 : Nat) * m.length - (1 : Nat)) ((2 : Nat) * m.length) (Pl.recX m m.length, Pl.recO m.length)).snd) (Pl.ech (Pl.qA (D.iface (Pl.tyA q) (Pl.datA q))) ((2 : Nat) * m.length - (1 : Nat)) ((2 : Nat) * m.length) (Pl.recX m m.length, Pl.recO m.length)).snd.length) x.snd.fst ∧ rd i64 (mrow (Pl.cst (Pl.ech (Pl.qA (D.iface (Pl.tyA q) (Pl.datA q))) ((2 : Nat) * m.length - (1 : Nat)) ((2 : Nat) * m.length) (Pl.recX m m.length, Pl.recO m.length)).snd) (Pl.ech (Pl.qA (D.iface (Pl.tyA q) (Pl.datA q))) ((2 : Nat) * m.length - (1 : Nat)) ((2 : Nat) * m.length) (Pl.recX m m.length, Pl.recO m.length)).snd.length) x.snd.fst < (↑(List.length x.fst) : Int) ∧ G (List.set x.fst (Int.toNat (rd i64 (mrow (Pl.cst (Pl.ech (Pl.qA (D.iface (Pl.tyA q) (Pl.datA q))) ((2 : Nat) * m.length - (1 : Nat)) ((2 : Nat) * m.length) (Pl.recX m m.length, Pl.recO m.length)).snd) (Pl.ech (Pl.qA (D.iface (Pl.tyA q) (Pl.datA q))) ((2 : Nat) * m.length - (1 : Nat)) ((2 : Nat) * m.length) (Pl.recX m m.length, Pl.recO m.length)).snd.length) x.snd.fst)) (Pl.dot (Pl.qF (D.rptr (fieldC q))) (rd i64.slc (List.map (mrow (Pl.ech (Pl.qA (D.iface (Pl.tyA q) (Pl.datA q))) ((2 : Nat) * m.length - (1 : Nat)) ((2 : Nat) * m.length) (Pl.recX m m.length, Pl.recO m.length)).fst.fst) (mrow (Pl.ech (Pl.qA (D.iface (Pl.tyA q) (Pl.datA q))) ((2 : Nat) * m.length - (1 : Nat)) ((2 : Nat) * m.length) (Pl.recX m m.length, Pl.recO m.length)).fst.snd ((2 : Nat) * m.length))) x.snd.fst) b), IntKind.i64.wrap (x.snd.fst + (1 : Int)), x.snd.snd.1, (), x.snd.snd.snd.snd)) ((x.1, [], ()) = C101d.post (fieldD q, m, b, ()))) n (x.1, (0 : Int), x.snd.snd.1, (), x.snd.snd.snd.snd)))) n ([], (0 : Int), List.map (fun (x : Option (List i64.El)) => none) (Pl.ech (Pl.qA (D.iface (Pl.tyA q) (Pl.datA q))) ((2 : Nat) * m.length - (1 : Nat)) ((2 : Nat) * m.length) (Pl.recX m m.length, Pl.recO m.length)).fst.fst, (), List.map (fun (x : Option (List (Ty.ref (0 : Nat)).El)) => none) (Pl.ech (Pl.qA (D.iface (Pl.tyA q) (Pl.datA q))) ((2 : Nat) * m.length - (1 : Nat)) ((2 : Nat) * m.length) (Pl.recX m m.length, Pl.recO m.length)).fst.snd, List.map (fun (x : Option (List i64.El)) => none) (Pl.cst (Pl.ech (Pl.qA (D.iface (Pl.tyA q) (Pl.datA q))) ((2 : Nat) * m.length - (1 : Nat)) ((2 : Nat) * m.length) (Pl.recX m m.length, Pl.recO m.length)).snd), ())) (by kernel_rfl) ?_
  rw [recS_eq hq, qF_f, c2, rowsD_eq, hp]
  have hlC := F.lC
  have hlD := F.lD
  have hrD := F.rD
  have hW : Pl.den q m b = some (Pl.denW q m b) := by
    unfold Pl.denW
    cases h : Pl.den q m b with
    | none => exact absurd h hd
    | some w => rfl
  unfold Pl.den at hW
  have hCe : (Pl.recS q m).2 = Pl.echC q m := rfl
  have hsub : sub (Pl.echD q m) ((Pl.recS q m).2.length : Int) ((Pl.echD q m).length : Int) = (Pl.echD q m).drop (Pl.echC q m).length := sub_drop _ _
  rw [hsub]
  rw [hCe] at c1 ⊢
  generalize Pl.echC q m = C at *
  generalize Pl.echD q m = DD at *
  generalize Pl.denW q m b = W at *
  have hpre : ∀ r ∈ DD, Pl.okF (D.rptr (fieldC q)) ∧ Pl.inAll q r ∧ Pl.inAll q b ∧ r.length ≤ b.length := fun r hr => ⟨okF_f hq, ⟨(hrD r hr).2, by rw [(hrD r hr).1]; omega⟩, ⟨s3, hb⟩, by rw [(hrD r hr).1]; omega⟩
  refine ⟨p1, ⟨p2, rfl⟩, F.m1, F.a1, F.m2, F.a2, c1, by omega, by omega, itl_rule (fun (s : List Int × Int × XS × Unit × OS × XS × Unit) => ∃ (i : Nat), s.1 = [] ∧ s.2.1 = (i : Int) ∧ i ≤ (DD.drop C.length).length ∧ Pl.denL q b ((DD.drop C.length).drop i) = some W) (fun s => (((DD.drop C.length).length : Int) - s.2.1).toNat) ⟨0, rfl, rfl, Nat.zero_le _, hW⟩ ?_⟩
  have hrE : ∀ r ∈ DD.drop C.length, r ∈ DD := fun r hr => List.mem_of_mem_drop hr
  have hlE : (DD.drop C.length).length ≤ 1000000000 := by rw [List.length_drop]; omega
  generalize DD.drop C.length = EE at *
  rintro ⟨x, i0, A, ⟨⟩, O, K, ⟨⟩⟩ G ⟨i, ex, e, hi, hf⟩ hG
  simp only at ex e hf hG ⊢
  subst ex e
  refine Br_of (fun h => ?_) (fun h => ?_)
  · have h : i < EE.length := by have := of_decide_eq_true h; omega
    rw [rd_rr, wrap_i64 (by omega) (by omega)]
    rw [drop_cons [] h, Pl.denL] at hf
    refine ⟨by omega, by omega, hpre _ (hrE _ (rowD_mem h)), Br_of (fun h1 => ?_) (fun h1 => ?_)⟩
    · have h1 : Pl.dot q (EE.getD i []) b ≠ 0 := by simpa using h1
      rw [decide_eq_true h1, cond_true] at hf
      injection hf with hf
      rw [← hf]
    · have h1 : Pl.dot q (EE.getD i []) b = 0 := by simpa using h1
      rw [decide_eq_false (not_not_intro h1), cond_false] at hf
      exact hG _ ⟨i + 1, rfl, rfl, by omega, hf⟩ (by simp only; omega)
  · have h : i = EE.length := by have := of_decide_eq_false h; omega
    subst h
    rw [List.drop_length] at hf
    cases hf
end Fd
end
section
/- Echelon, Solve, Deny. -/
set_option linter.unusedVariables false
set_option linter.unusedSimpArgs false
set_option maxRecDepth 100000
namespace Fd
open Go Fw Go.Proofs

theorem snd_join {P : Program} {f : FuncId} {args res : List Ar} {pa pb p : Ars args → Prop} {post : Ars args → Ars res} (ha : Sound P f ⟨args, res, pa, post, none⟩) (hb : Sound P f ⟨args, res, pb, post, none⟩) (h : ∀ x, p x → pa x ∨ pb x) : Sound P f ⟨args, res, p, post, none⟩ :=
  ⟨⟨fun x hx => (h x hx).elim (ha.1.a x) (hb.1.a x), fun x hx => (h x hx).elim (ha.1.r x) (hb.1.r x)⟩, fun x hx => (h x hx).elim (ha.2 x) (hb.2 x)⟩
/-- A contract for fewer inputs. -/
theorem snd_less {P : Program} {f : FuncId} {args res : List Ar} {pa p : Ars args → Prop} {post post' : Ars args → Ars res} (ha : Sound P f ⟨args, res, pa, post, none⟩) (h : ∀ x, p x → pa x) (hp : ∀ x, p x → encs res (post x) = encs res (post' x)) : Sound P f ⟨args, res, p, post', none⟩ := by
  refine ⟨⟨fun x hx => ha.1.a x (h x hx), fun x hx => by have := ha.1.r x (h x hx); show D.nrs (encs res (post' x)); rw [← hp x hx]; exact this⟩, fun x hx w O vs hO hl => ?_⟩
  have conv : ∀ e w', CPost ⟨args, res, pa, post, none⟩ x w ⟨O, nn⟩ e w' → CPost ⟨args, res, p, post', none⟩ x w ⟨O, nn⟩ e w' := by
    rintro e w' ⟨v, he, hb, hv, _⟩
    refine ⟨v, he, hb, fun ι => ?_, fun e he => by cases he⟩
    show ARep w' ⟨O, nn⟩ ι (resAV (encs res (post' x))) v
    rw [← hp x hx]
    exact hv ι
  rcases ha.2 x (h x hx) w O vs hO hl with ⟨h1, h2⟩ | ⟨v, w', h1, h2⟩
  · exact .inl ⟨h1, h2.mono conv⟩
  · exact .inr ⟨v, w', h1, conv _ _ h2⟩
theorem nrc22 : NRC C22 := ⟨fun x hx => ⟨okF_nr hx.1, rfl, trivial⟩, fun x hx => ⟨rfl, trivial, trivial⟩⟩
theorem nrc101s : NRC C101s := ⟨fun x hx => ⟨okF_nr hx.1.1, rfl, rfl, trivial⟩, fun x hx => ⟨rfl, trivial, trivial⟩⟩
theorem nrc101d : NRC C101d := ⟨fun x hx => ⟨okF_nr hx.1.1, rfl, rfl, trivial⟩, fun x hx => ⟨rfl, rfl, trivial⟩⟩
theorem nrcDe {p : D × List (List Int) × List Int × Unit → Prop} : NRC (Cdeny p) := ⟨fun x hx => ⟨okF_nr hx.1.1, rfl, rfl, trivial⟩, fun x hx => ⟨rfl, trivial, trivial⟩⟩
theorem nrcSo {p : D × List (List Int) × List Int × Unit → Prop} : NRC (Csolve p) := ⟨fun x hx => ⟨okF_nr hx.1.1, rfl, rfl, trivial⟩, fun x hx => ⟨rfl, trivial, trivial⟩⟩
theorem snd22 : Sound Try.prog 22 C22 := fn_sound (T := T22) (fn := Try.f22) (tokg (T := T22) ⟨snd89, trivial⟩ ⟨snd90, snd91, trivial⟩ trivial noInv noCv) Try.func22 (by kernel_rfl) H22 vc22 (by kernel_rfl) (hC := nrc22)
theorem snd101s : Sound Try.prog 101 C101s := fn_sound (T := T101) (fn := Try.f101) (tokg (T := T101) ⟨snd94, trivial⟩ ⟨snd90, snd91, trivial⟩ trivial noInv noCv) Try.func101 (by kernel_rfl) H101 vc101s (by kernel_rfl) (hC := nrc101s)
theorem snd101d : Sound Try.prog 101 C101d := fn_sound (T := T101) (fn := Try.f101) (tokg (T := T101) ⟨snd94, trivial⟩ ⟨snd90, snd91, trivial⟩ trivial noInv noCv) Try.func101 (by kernel_rfl) H101 vc101d (by kernel_rfl) (hC := nrc101d)
theorem denL_mem {q : Int} {b w : List Int} : ∀ {l : List (List Int)}, Pl.denL q b l = some w → w ∈ l
  | [], h => by cases h
  | r :: l, h => by
    rw [Pl.denL] at h
    by_cases e : Pl.dot q r b ≠ 0
    · rw [decide_eq_true e, cond_true] at h
      injection h with h
      subst h
      exact List.mem_cons_self
    · rw [decide_eq_false e, cond_false] at h
      exact List.mem_cons_of_mem _ (denL_mem h)
theorem den_len {q : Int} (hq : isQ q) {m : List (List Int)} {b w : List Int} (hs : Pl.sys q m b = 0) (h : Pl.den q m b = some w) : w.length = m.length ∧ 0 < m.length ∧ ∀ x ∈ w, Pl.inQ q x := by
  obtain ⟨s1, _, _⟩ := den_sys hs
  obtain ⟨_, _, F⟩ := pre_new hq s1
  have hm := List.mem_of_mem_drop (denL_mem h)
  obtain ⟨h1, h2⟩ := F.rD w hm
  refine ⟨h1, ?_, h2⟩
  have := List.length_pos_of_mem hm
  rw [F.lD] at this
  exact this
theorem deny_bad {q : Int} {m : List (List Int)} {b : List Int} (h : Pl.sys q m b ≠ 0) : Pl.deny q m b = ([], false) := by unfold Pl.deny; rw [decide_eq_true h]; rfl
theorem deny_some {q : Int} {m : List (List Int)} {b : List Int} (h : Pl.sys q m b = 0) (hd : Pl.den q m b ≠ none) : Pl.deny q m b = (Pl.denW q m b, true) := by
  unfold Pl.deny Pl.denW
  rw [decide_eq_false (not_not_intro h)]
  cases e : Pl.den q m b with
  | none => exact absurd e hd
  | some w => rfl
theorem deny_none {q : Int} {m : List (List Int)} {b : List Int} (h : Pl.sys q m b = 0) (hd : Pl.den q m b = none) : Pl.deny q m b = ([], false) := by
  unfold Pl.deny
  rw [decide_eq_false (not_not_intro h), hd]; rfl
theorem solve_bad {q : Int} {m : List (List Int)} {b : List Int} (h : Pl.sys q m b ≠ 0) : Pl.solve q m b = ([], Pl.sys q m b) := by unfold Pl.solve; rw [decide_eq_true h]; rfl
theorem solve_some {q : Int} {m : List (List Int)} {b : List Int} (h : Pl.sys q m b = 0) (hd : Pl.den q m b ≠ none) : Pl.solve q m b = ([], 4) := by
  unfold Pl.solve
  rw [decide_eq_false (not_not_intro h)]
  cases e : Pl.den q m b with
  | none => exact absurd e hd
  | some w => rfl
theorem solve_none {q : Int} {m : List (List Int)} {b : List Int} (h : Pl.sys q m b = 0) (hd : Pl.den q m b = none) : Pl.solve q m b = (Pl.sol q m b, 0) := by
  unfold Pl.solve
  rw [decide_eq_false (not_not_intro h), hd]; rfl
theorem vc46s : ∀ x, C46s.pre x → VC (T46 C101s) H0 Try.f46 C46s x := by
  rintro ⟨v, (m : List (List Int)), (b : List Int), ⟨⟩⟩ ⟨⟨⟨q, hq, (rfl : v = _)⟩, (hm : Pl.okMM m), (hb : b.length ≤ 1000000000)⟩, (hd : Pl.sys (Pl.qF (fieldD q)) m b = 0 → Pl.den (Pl.qF (fieldD q)) m b = none)⟩
  rw [qF_d] at hd
  refine cast (α := (Pl.okF (D.rptr (fieldC q)) ∧ Pl.okMM m ∧ b.length ≤ (1000000000 : Nat)) ∧ Br (Pl.sys (Pl.qF (D.rptr (fieldC q))) m b != (0 : Int)) (([], false, ()) = C46s.post (fieldD q, m, b, ())) ((Pl.okSy (D.rptr (fieldC q), m, b, ()) ∧ Pl.sys (Pl.qF (D.rptr (fieldC q))) m b = (0 : Int) ∧ Pl.den (Pl.qF (D.rptr (fieldC q))) m b = none) ∧ ([], !true, ()) = C46s.post (fieldD q, m, b, ()))) (by kernel_rfl) ?_
  have hp : C46s.post (fieldD q, m, b, ()) = ((Pl.deny q m b).1, (Pl.deny q m b).2, ()) := rfl
  rw [hp, qF_f]
  refine ⟨⟨okF_f hq, hm, hb⟩, Br_of (fun h => ?_) (fun h => ?_)⟩
  · have h : Pl.sys q m b ≠ 0 := by simpa using h
    rw [deny_bad h]
  · have h : Pl.sys q m b = 0 := by simpa using h
    refine ⟨⟨⟨okF_f hq, hm, hb⟩, h, hd h⟩, ?_⟩
    rw [deny_none h (hd h)]; rfl
theorem vc46d : ∀ x, C46d.pre x → VC (T46 C101d) H0 Try.f46 C46d x := by
  rintro ⟨v, (m : List (List Int)), (b : List Int), ⟨⟩⟩ ⟨⟨⟨q, hq, (rfl : v = _)⟩, (hm : Pl.okMM m), (hb : b.length ≤ 1000000000)⟩, (h : Pl.sys (Pl.qF (fieldD q)) m b = 0), (hd : Pl.den (Pl.qF (fieldD q)) m b ≠ none)⟩
  rw [qF_d] at h hd
  refine cast (α := (Pl.okF (D.rptr (fieldC q)) ∧ Pl.okMM m ∧ b.length ≤ (1000000000 : Nat)) ∧ Br (Pl.sys (Pl.qF (D.rptr (fieldC q))) m b != (0 : Int)) (([], false, ()) = C46d.post (fieldD q, m, b, ())) ((Pl.okSy (D.rptr (fieldC q), m, b, ()) ∧ Pl.sys (Pl.qF (D.rptr (fieldC q))) m b = (0 : Int) ∧ Pl.den (Pl.qF (D.rptr (fieldC q))) m b ≠ none) ∧ (0 : Nat) < (Pl.denW (Pl.qF (D.rptr (fieldC q))) m b).length ∧ (Pl.denW (Pl.qF (D.rptr (fieldC q))) m b, true, ()) = C46d.post (fieldD q, m, b, ()))) (by kernel_rfl) ?_
  have hp : C46d.post (fieldD q, m, b, ()) = ((Pl.deny q m b).1, (Pl.deny q m b).2, ()) := rfl
  rw [hp, qF_f]
  refine ⟨⟨okF_f hq, hm, hb⟩, Br_of (fun h' => ?_) (fun _ => ⟨⟨⟨okF_f hq, hm, hb⟩, h, hd⟩, ?_, ?_⟩)⟩
  · have h' : Pl.sys q m b ≠ 0 := by simpa using h'
    exact absurd h h'
  · unfold Pl.denW
    cases e : Pl.den q m b with
    | none => exact absurd e hd
    | some w =>
      obtain ⟨h1, h2, _⟩ := den_len hq h e
      show 0 < w.length
      omega
  · rw [deny_some h hd]
theorem vc45s : ∀ x, C45s.pre x → VC (T46 C101s) H0 Try.f45 C45s x := by
  rintro ⟨v, (m : List (List Int)), (b : List Int), ⟨⟩⟩ ⟨⟨⟨q, hq, (rfl : v = _)⟩, (hm : Pl.okMM m), (hb : b.length ≤ 1000000000)⟩, (hd : Pl.sys (Pl.qF (fieldD q)) m b = 0 → Pl.den (Pl.qF (fieldD q)) m b = none)⟩
  rw [qF_d] at hd
  refine cast (α := (Pl.okF (D.rptr (fieldC q)) ∧ Pl.okMM m ∧ b.length ≤ (1000000000 : Nat)) ∧ Br (Pl.sys (Pl.qF (D.rptr (fieldC q))) m b != (0 : Int)) (([], Pl.sys (Pl.qF (D.rptr (fieldC q))) m b, ()) = C45s.post (fieldD q, m, b, ())) ((Pl.okSy (D.rptr (fieldC q), m, b, ()) ∧ Pl.sys (Pl.qF (D.rptr (fieldC q))) m b = (0 : Int) ∧ Pl.den (Pl.qF (D.rptr (fieldC q))) m b = none) ∧ (Pl.sol (Pl.qF (D.rptr (fieldC q))) m b, (0 : Int), ()) = C45s.post (fieldD q, m, b, ()))) (by kernel_rfl) ?_
  have hp : C45s.post (fieldD q, m, b, ()) = ((Pl.solve q m b).1, (Pl.solve q m b).2, ()) := rfl
  rw [hp, qF_f]
  refine ⟨⟨okF_f hq, hm, hb⟩, Br_of (fun h => ?_) (fun h => ?_)⟩
  · have h : Pl.sys q m b ≠ 0 := by simpa using h
    rw [solve_bad h]
  · have h : Pl.sys q m b = 0 := by simpa using h
    refine ⟨⟨⟨okF_f hq, hm, hb⟩, h, hd h⟩, ?_⟩
    rw [solve_none h (hd h)]
theorem vc45d : ∀ x, C45d.pre x → VC (T46 C101d) H0 Try.f45 C45d x := by
  rintro ⟨v, (m : List (List Int)), (b : List Int), ⟨⟩⟩ ⟨⟨⟨q, hq, (rfl : v = _)⟩, (hm : Pl.okMM m), (hb : b.length ≤ 1000000000)⟩, (h : Pl.sys (Pl.qF (fieldD q)) m b = 0), (hd : Pl.den (Pl.qF (fieldD q)) m b ≠ none)⟩
  rw [qF_d] at h hd
  refine cast (α := (Pl.okF (D.rptr (fieldC q)) ∧ Pl.okMM m ∧ b.length ≤ (1000000000 : Nat)) ∧ Br (Pl.sys (Pl.qF (D.rptr (fieldC q))) m b != (0 : Int)) (([], Pl.sys (Pl.qF (D.rptr (fieldC q))) m b, ()) = C45d.post (fieldD q, m, b, ())) ((Pl.okSy (D.rptr (fieldC q), m, b, ()) ∧ Pl.sys (Pl.qF (D.rptr (fieldC q))) m b = (0 : Int) ∧ Pl.den (Pl.qF (D.rptr (fieldC q))) m b ≠ none) ∧ (0 : Nat) < (Pl.denW (Pl.qF (D.rptr (fieldC q))) m b).length ∧ ([], (4 : Int), ()) = C45d.post (fieldD q, m, b, ()))) (by kernel_rfl) ?_
  have hp : C45d.post (fieldD q, m, b, ()) = ((Pl.solve q m b).1, (Pl.solve q m b).2, ()) := rfl
  rw [hp, qF_f]
  refine ⟨⟨okF_f hq, hm, hb⟩, Br_of (fun h' => ?_) (fun _ => ⟨⟨⟨okF_f hq, hm, hb⟩, h, hd⟩, ?_, ?_⟩)⟩
  · have h' : Pl.sys q m b ≠ 0 := by simpa using h'
    exact absurd h h'
  · unfold Pl.denW
    cases e : Pl.den q m b with
    | none => exact absurd e hd
    | some w =>
      obtain ⟨h1, h2, _⟩ := den_len hq h e
      show 0 < w.length
      omega
  · rw [solve_some h hd]
theorem snd46s : Sound Try.prog 46 C46s := fn_sound (T := T46 C101s) (fn := Try.f46) (tok0 ⟨snd92, snd101s, trivial⟩) Try.func46 (by kernel_rfl) H0 vc46s (by kernel_rfl) (hC := nrcDe)
theorem snd46d : Sound Try.prog 46 C46d := fn_sound (T := T46 C101d) (fn := Try.f46) (tok0 ⟨snd92, snd101d, trivial⟩) Try.func46 (by kernel_rfl) H0 vc46d (by kernel_rfl) (hC := nrcDe)
theorem snd45s : Sound Try.prog 45 C45s := fn_sound (T := T46 C101s) (fn := Try.f45) (tok0 ⟨snd92, snd101s, trivial⟩) Try.func45 (by kernel_rfl) H0 vc45s (by kernel_rfl) (hC := nrcSo)
theorem snd45d : Sound Try.prog 45 C45d := fn_sound (T := T46 C101d) (fn := Try.f45) (tok0 ⟨snd92, snd101d, trivial⟩) Try.func45 (by kernel_rfl) H0 vc45d (by kernel_rfl) (hC := nrcSo)
theorem sd_or (x : D × List (List Int) × List Int × Unit) : Pl.isS x ∨ Pl.isD x := by
  by_cases h : Pl.sys (Pl.qF x.1) x.2.1 x.2.2.1 = 0
  · by_cases hd : Pl.den (Pl.qF x.1) x.2.1 x.2.2.1 = none
    · exact .inl fun _ => hd
    · exact .inr ⟨h, hd⟩
  · exact .inl fun h' => absurd h' h
theorem snd46 : Sound Try.prog 46 C46 := snd_join snd46s snd46d fun x hx => (sd_or x).elim (fun h => .inl ⟨hx.1, h⟩) (fun h => .inr ⟨hx.1, h⟩)
theorem snd45 : Sound Try.prog 45 C45 := snd_join snd45s snd45d fun x hx => (sd_or x).elim (fun h => .inl ⟨hx.1, h⟩) (fun h => .inr ⟨hx.1, h⟩)
/-- New at an order of a field. -/
def C78q : Con := ⟨[I], [.raw, I], fun (x : Int × Unit) => isQ x.1, fun (x : Int × Unit) => (fieldD x.1, 0, ()), none⟩
theorem snd78q : Sound Try.prog 78 C78q := snd_less snd78 (fun _ _ => trivial) fun x hx => by
  obtain ⟨q, ⟨⟩⟩ := x
  rw [show (newF q, bif Pl.okQ q then (0 : Int) else 20, ()) = (fieldD q, (0 : Int), ()) from newF_yes hx]
end Fd
end
section
/- The laws' helpers: contracts. -/
set_option linter.unusedVariables false
set_option linter.unusedSimpArgs false
set_option maxRecDepth 100000
namespace Fd
open Go Fw Go.Proofs

def C24 : Con := ⟨[], [B], fun _ => True, fun _ => (true, ()), none⟩
def T24 : Ctx := TT [(78, C78q), (80, C80), (46, C46), (42, C42), (34, C34), (55, C55)]
/-! ### Fields of small order -/
def Pl.smalls : List Int := [2, 3, 4, 5, 7, 8, 9, 11, 13, 16, 25, 27]
/-- The order that a law takes. -/
def Pl.someQ (order most : Int) : Int := bif (!Pl.okQ order) || decide (order > most) then Pl.smalls.getD (IntKind.i64.wrap ((IntKind.u64.wrap order).tmod 12)).toNat 0 else order
def C19 : Con := ⟨[I, I], [.raw, G4], fun (x : Int × Int × Unit) => True, fun (x : Int × Int × Unit) => (fieldD (Pl.someQ x.1 x.2.1), RF (Pl.someQ x.1 x.2.1), ()), none⟩
def T19 : Ctx := TT [(79, C79), (78, C78q)]
/-! ### FieldCalculates -/
def T5 : Ctx := TT [(19, C19), (29, C29), (30, C30), (31, C31), (32, C32), (33, C33), (34, C34), (35, C35), (36, C36), (37, C37), (24, C24)]
def C5 : Con := ⟨[I, I, I], [B], fun _ => True, fun _ => (true, ()), none⟩

end Fd
end
section
/- The laws' helpers: fields of small order; what a program must do; sums, differences, products and quotients. -/
set_option linter.unusedVariables false
set_option linter.unusedSimpArgs false
set_option maxRecDepth 100000
namespace Fd
open Go Fw Go.Proofs

theorem isQ_b {q : Int} (h : Pl.okQ q = true) : isQ q := okQ_iff.1 h
theorem wrapU (x : Int) : IntKind.wrap .u64 x = x % 18446744073709551616 := by
  unfold IntKind.wrap
  simp [IntKind.bits, IntKind.signed]
theorem idx12 (o : Int) : 0 ≤ IntKind.i64.wrap ((IntKind.u64.wrap o).tmod 12) ∧ IntKind.i64.wrap ((IntKind.u64.wrap o).tmod 12) < 12 := by
  rw [wrapU, Int.tmod_eq_emod_of_nonneg (by omega), wrap_i64 (by omega) (by omega)]
  omega
theorem newR_ok {q : Int} (h : Pl.okQ q = true) : Pl.newR q = RF q := by unfold Pl.newR; rw [h]; rfl
theorem someQ_small {o most : Int} (hb : ((!Pl.okQ o) || decide (o > most)) = true) : Pl.someQ o most = Pl.smalls.getD (IntKind.i64.wrap ((IntKind.u64.wrap o).tmod 12)).toNat 0 := by
  unfold Pl.someQ; rw [hb]; rfl
theorem someQ_self {o most : Int} (h1 : Pl.okQ o = true) (h2 : ¬ o > most) : Pl.someQ o most = o := by
  unfold Pl.someQ; rw [h1, decide_eq_false h2]; rfl
theorem smalls_ok : ∀ q ∈ Pl.smalls, Pl.okQ q = true := by
  intro q hq
  have h : Pl.smalls.all Pl.okQ = true := by kernel_rfl
  exact List.all_eq_true.1 h q hq
theorem someQ_isQ (o most : Int) : isQ (Pl.someQ o most) := by
  cases hb : (!Pl.okQ o) || decide (o > most) with
  | true =>
    rw [someQ_small hb]
    obtain ⟨h1, h2⟩ := idx12 o
    refine isQ_b (smalls_ok _ (getD_mem ?_))
    show _ < 12
    omega
  | false =>
    rw [Bool.or_eq_false_iff] at hb
    have h1 : Pl.okQ o = true := by simpa using hb.1
    rw [someQ_self h1 (of_decide_eq_false hb.2)]
    exact isQ_b h1
theorem sm_post {o most v : Int} {c : Nat} (hb : ((!Pl.okQ o) || decide (o > most)) = true) (e : IntKind.i64.wrap ((IntKind.u64.wrap o).tmod 12) = (c : Int)) (hv : Pl.smalls.getD c 0 = v) (hk : Pl.okQ v = true) : (D.rptr (fieldC v), Pl.newR v, ()) = C19.post (o, most, ()) := by
  show _ = (fieldD (Pl.someQ o most), RF (Pl.someQ o most), ())
  rw [someQ_small hb, e, Int.toNat_natCast, hv, newR_ok hk]; rfl
theorem vc19 : ∀ x, C19.pre x → VC T19 H0 Try.f19 C19 x := by
  rintro ⟨(o : Int), (most : Int), ⟨⟩⟩ -
  refine cast (α := True ∧ Br (!Pl.okQ o) ((12 : Int) ≠ (0 : Int) ∧ Br (decide (IntKind.i64.wrap ((IntKind.u64.wrap o).tmod (12 : Int)) = (↑(0 : Nat) : Int))) (True ∧ ((2 : Int) ≤ (2 : Int) ∧ (2 : Int) ≤ (65536 : Int) ∧ (1 : Int) ≤ Pl.K (2 : Int)) ∧ (D.rptr (fieldC (2 : Int)), Pl.newR (2 : Int), ()) = C19.post (o, most, ())) (Br (decide (IntKind.i64.wrap ((IntKind.u64.wrap o).tmod (12 : Int)) = (↑(1 : Nat) : Int))) (True ∧ ((2 : Int) ≤ (3 : Int) ∧ (3 : Int) ≤ (65536 : Int) ∧ (1 : Int) ≤ Pl.K (3 : Int)) ∧ (D.rptr (fieldC (3 : Int)), Pl.newR (3 : Int), ()) = C19.post (o, most, ())) (Br (decide (IntKind.i64.wrap ((IntKind.u64.wrap o).tmod (12 : Int)) = (↑(2 : Nat) : Int))) (True ∧ ((2 : Int) ≤ (4 : Int) ∧ (4 : Int) ≤ (65536 : Int) ∧ (1 : Int) ≤ Pl.K (4 : Int)) ∧ (D.rptr (fieldC (4 : Int)), Pl.newR (4 : Int), ()) = C19.post (o, most, ())) (Br (decide (IntKind.i64.wrap ((IntKind.u64.wrap o).tmod (12 : Int)) = (↑(3 : Nat) : Int))) (True ∧ ((2 : Int) ≤ (5 : Int) ∧ (5 : Int) ≤ (65536 : Int) ∧ (1 : Int) ≤ Pl.K (5 : Int)) ∧ (D.rptr (fieldC (5 : Int)), Pl.newR (5 : Int), ()) = C19.post (o, most, ())) (Br (decide (IntKind.i64.wrap ((IntKind.u64.wrap o).tmod (12 : Int)) = (↑(4 : Nat) : Int))) (True ∧ ((2 : Int) ≤ (7 : Int) ∧ (7 : Int) ≤ (65536 : Int) ∧ (1 : Int) ≤ Pl.K (7 : Int)) ∧ (D.rptr (fieldC (7 : Int)), Pl.newR (7 : Int), ()) = C19.post (o, most, ())) (Br (decide (IntKind.i64.wrap ((IntKind.u64.wrap o).tmod (12 : Int)) = (↑(5 : Nat) : Int))) (True ∧ ((2 : Int) ≤ (8 : Int) ∧ (8 : Int) ≤ (65536 : Int) ∧ (1 : Int) ≤ Pl.K (8 : Int)) ∧ (D.rptr (fieldC (8 : Int)), Pl.newR (8 : Int), ()) = C19.post (o, most, ())) (Br (decide (IntKind.i64.wrap ((IntKind.u64.wrap o).tmod (12 : Int)) = (↑(6 : Nat) : Int))) (True ∧ ((2 : Int) ≤ (9 : Int) ∧ (9 : Int) ≤ (65536 : Int) ∧ (1 : Int) ≤ Pl.K (9 : Int)) ∧ (D.rptr (fieldC (9 : Int)), Pl.newR (9 : Int), ()) = C19.post (o, most, ())) (Br (decide (IntKind.i64.wrap ((IntKind.u64.wrap o).tmod (12 : Int)) = (↑(7 : Nat) : Int))) (True ∧ ((2 : Int) ≤ (11 : Int) ∧ (11 : Int) ≤ (65536 : Int) ∧ (1 : Int) ≤ Pl.K (11 : Int)) ∧ (D.rptr (fieldC (11 : Int)), Pl.newR (11 : Int), ()) = C19.post (o, most, ())) (Br (decide (IntKind.i64.wrap ((IntKind.u64.wrap o).tmod (12 : Int)) = (↑(8 : Nat) : Int))) (True ∧ ((2 : Int) ≤ (13 : Int) ∧ (13 : Int) ≤ (65536 : Int) ∧ (1 : Int) ≤ Pl.K (13 : Int)) ∧ (D.rptr (fieldC (13 : Int)), Pl.newR (13 : Int), ()) = C19.post (o, most, ())) (Br (decide (IntKind.i64.wrap ((IntKind.u64.wrap o).tmod (12 : Int)) = (↑(9 : Nat) : Int))) (True ∧ ((2 : Int) ≤ (16 : Int) ∧ (16 : Int) ≤ (65536 : Int) ∧ (1 : Int) ≤ Pl.K (16 : Int)) ∧ (D.rptr (fieldC (16 : Int)), Pl.newR (16 : Int), ()) = C19.post (o, most, ())) (Br (decide (IntKind.i64.wrap ((IntKind.u64.wrap o).tmod (12 : Int)) = (↑(10 : Nat) : Int))) (True ∧ ((2 : Int) ≤ (25 : Int) ∧ (25 : Int) ≤ (65536 : Int) ∧ (1 : Int) ≤ Pl.K (25 : Int)) ∧ (D.rptr (fieldC (25 : Int)), Pl.newR (25 : Int), ()) = C19.post (o, most, ())) (Br (decide (IntKind.i64.wrap ((IntKind.u64.wrap o).tmod (12 : Int)) = (↑(11 : Nat) : Int))) (True ∧ ((2 : Int) ≤ (27 : Int) ∧ (27 : Int) ≤ (65536 : Int) ∧ (1 : Int) ≤ Pl.K (27 : Int)) ∧ (D.rptr (fieldC (27 : Int)), Pl.newR (27 : Int), ()) = C19.post (o, most, ())) False)))))))))))) (Br (decide (o > most)) ((12 : Int) ≠ (0 : Int) ∧ Br (decide (IntKind.i64.wrap ((IntKind.u64.wrap o).tmod (12 : Int)) = (↑(0 : Nat) : Int))) (True ∧ ((2 : Int) ≤ (2 : Int) ∧ (2 : Int) ≤ (65536 : Int) ∧ (1 : Int) ≤ Pl.K (2 : Int)) ∧ (D.rptr (fieldC (2 : Int)), Pl.newR (2 : Int), ()) = C19.post (o, most, ())) (Br (decide (IntKind.i64.wrap ((IntKind.u64.wrap o).tmod (12 : Int)) = (↑(1 : Nat) : Int))) (True ∧ ((2 : Int) ≤ (3 : Int) ∧ (3 : Int) ≤ (65536 : Int) ∧ (1 : Int) ≤ Pl.K (3 : Int)) ∧ (D.rptr (fieldC (3 : Int)), Pl.newR (3 : Int), ()) = C19.post (o, most, ())) (Br (decide (IntKind.i64.wrap ((IntKind.u64.wrap o).tmod (12 : Int)) = (↑(2 : Nat) : Int))) (True ∧ ((2 : Int) ≤ (4 : Int) ∧ (4 : Int) ≤ (65536 : Int) ∧ (1 : Int) ≤ Pl.K (4 : Int)) ∧ (D.rptr (fieldC (4 : Int)), Pl.newR (4 : Int), ()) = C19.post (o, most, ())) (Br (decide (IntKind.i64.wrap ((IntKind.u64.wrap o).tmod (12 : Int)) = (↑(3 : Nat) : Int))) (True ∧ ((2 : Int) ≤ (5 : Int) ∧ (5 : Int) ≤ (65536 : Int) ∧ (1 : Int) ≤ Pl.K (5 : Int)) ∧ (D.rptr (fieldC (5 : Int)), Pl.newR (5 : Int), ()) = C19.post (o, most, ())) (Br (decide (IntKind.i64.wrap ((IntKind.u64.wrap o).tmod (12 : Int)) = (↑(4 : Nat) : Int))) (True ∧ ((2 : Int) ≤ (7 : Int) ∧ (7 : Int) ≤ (65536 : Int) ∧ (1 : Int) ≤ Pl.K (7 : Int)) ∧ (D.rptr (fieldC (7 : Int)), Pl.newR (7 : Int), ()) = C19.post (o, most, ())) (Br (decide (IntKind.i64.wrap ((IntKind.u64.wrap o).tmod (12 : Int)) = (↑(5 : Nat) : Int))) (True ∧ ((2 : Int) ≤ (8 : Int) ∧ (8 : Int) ≤ (65536 : Int) ∧ (1 : Int) ≤ Pl.K (8 : Int)) ∧ (D.rptr (fieldC (8 : Int)), Pl.newR (8 : Int), ()) = C19.post (o, most, ())) (Br (decide (IntKind.i64.wrap ((IntKind.u64.wrap o).tmod (12 : Int)) = (↑(6 : Nat) : Int))) (True ∧ ((2 : Int) ≤ (9 : Int) ∧ (9 : Int) ≤ (65536 : Int) ∧ (1 : Int) ≤ Pl.K (9 : Int)) ∧ (D.rptr (fieldC (9 : Int)), Pl.newR (9 : Int), ()) = C19.post (o, most, ())) (Br (decide (IntKind.i64.wrap ((IntKind.u64.wrap o).tmod (12 : Int)) = (↑(7 : Nat) : Int))) (True ∧ ((2 : Int) ≤ (11 : Int) ∧ (11 : Int) ≤ (65536 : Int) ∧ (1 : Int) ≤ Pl.K (11 : Int)) ∧ (D.rptr (fieldC (11 : Int)), Pl.newR (11 : Int), ()) = C19.post (o, most, ())) (Br (decide (IntKind.i64.wrap ((IntKind.u64.wrap o).tmod (12 : Int)) = (↑(8 : Nat) : Int))) (True ∧ ((2 : Int) ≤ (13 : Int) ∧ (13 : Int) ≤ (65536 : Int) ∧ (1 : Int) ≤ Pl.K (13 : Int)) ∧ (D.rptr (fieldC (13 : Int)), Pl.newR (13 : Int), ()) = C19.post (o, most, ())) (Br (decide (IntKind.i64.wrap ((IntKind.u64.wrap o).tmod (12 : Int)) = (↑(9 : Nat) : Int))) (True ∧ ((2 : Int) ≤ (16 : Int) ∧ (16 : Int) ≤ (65536 : Int) ∧ (1 : Int) ≤ Pl.K (16 : Int)) ∧ (D.rptr (fieldC (16 : Int)), Pl.newR (16 : Int), ()) = C19.post (o, most, ())) (Br (decide (IntKind.i64.wrap ((IntKind.u64.wrap o).tmod (12 : Int)) = (↑(10 : Nat) : Int))) (True ∧ ((2 : Int) ≤ (25 : Int) ∧ (25 : Int) ≤ (65536 : Int) ∧ (1 : Int) ≤ Pl.K (25 : Int)) ∧ (D.rptr (fieldC (25 : Int)), Pl.newR (25 : Int), ()) = C19.post (o, most, ())) (Br (decide (IntKind.i64.wrap ((IntKind.u64.wrap o).tmod (12 : Int)) = (↑(11 : Nat) : Int))) (True ∧ ((2 : Int) ≤ (27 : Int) ∧ (27 : Int) ≤ (65536 : Int) ∧ (1 : Int) ≤ Pl.K (27 : Int)) ∧ (D.rptr (fieldC (27 : Int)), Pl.newR (27 : Int), ()) = C19.post (o, most, ())) False)))))))))))) (((2 : Int) ≤ o ∧ o ≤ (65536 : Int) ∧ (1 : Int) ≤ Pl.K o) ∧ (D.rptr (fieldC o), Pl.newR o, ()) = C19.post (o, most, ())))) (by kernel_rfl) ?_
  obtain ⟨i0, i1⟩ := idx12 o
  refine ⟨trivial, Br_of (fun h => ?_) (fun h => Br_of (fun h2 => ?_) (fun h2 => ?_))⟩
  · have hb : ((!Pl.okQ o) || decide (o > most)) = true := by rw [h]; rfl
    refine ⟨by omega, ?_⟩
    refine Br_of (fun e => ⟨trivial, isQ_b (by kernel_rfl), sm_post hb (v := 2) (of_decide_eq_true e) rfl (by kernel_rfl)⟩) (fun e0 => ?_)
    refine Br_of (fun e => ⟨trivial, isQ_b (by kernel_rfl), sm_post hb (v := 3) (of_decide_eq_true e) rfl (by kernel_rfl)⟩) (fun e1 => ?_)
    refine Br_of (fun e => ⟨trivial, isQ_b (by kernel_rfl), sm_post hb (v := 4) (of_decide_eq_true e) rfl (by kernel_rfl)⟩) (fun e2 => ?_)
    refine Br_of (fun e => ⟨trivial, isQ_b (by kernel_rfl), sm_post hb (v := 5) (of_decide_eq_true e) rfl (by kernel_rfl)⟩) (fun e3 => ?_)
    refine Br_of (fun e => ⟨trivial, isQ_b (by kernel_rfl), sm_post hb (v := 7) (of_decide_eq_true e) rfl (by kernel_rfl)⟩) (fun e4 => ?_)
    refine Br_of (fun e => ⟨trivial, isQ_b (by kernel_rfl), sm_post hb (v := 8) (of_decide_eq_true e) rfl (by kernel_rfl)⟩) (fun e5 => ?_)
    refine Br_of (fun e => ⟨trivial, isQ_b (by kernel_rfl), sm_post hb (v := 9) (of_decide_eq_true e) rfl (by kernel_rfl)⟩) (fun e6 => ?_)
    refine Br_of (fun e => ⟨trivial, isQ_b (by kernel_rfl), sm_post hb (v := 11) (of_decide_eq_true e) rfl (by kernel_rfl)⟩) (fun e7 => ?_)
    refine Br_of (fun e => ⟨trivial, isQ_b (by kernel_rfl), sm_post hb (v := 13) (of_decide_eq_true e) rfl (by kernel_rfl)⟩) (fun e8 => ?_)
    refine Br_of (fun e => ⟨trivial, isQ_b (by kernel_rfl), sm_post hb (v := 16) (of_decide_eq_true e) rfl (by kernel_rfl)⟩) (fun e9 => ?_)
    refine Br_of (fun e => ⟨trivial, isQ_b (by kernel_rfl), sm_post hb (v := 25) (of_decide_eq_true e) rfl (by kernel_rfl)⟩) (fun e10 => ?_)
    refine Br_of (fun e => ⟨trivial, isQ_b (by kernel_rfl), sm_post hb (v := 27) (of_decide_eq_true e) rfl (by kernel_rfl)⟩) (fun e11 => ?_)
    have e0 := of_decide_eq_false e0
    have e1 := of_decide_eq_false e1
    have e2 := of_decide_eq_false e2
    have e3 := of_decide_eq_false e3
    have e4 := of_decide_eq_false e4
    have e5 := of_decide_eq_false e5
    have e6 := of_decide_eq_false e6
    have e7 := of_decide_eq_false e7
    have e8 := of_decide_eq_false e8
    have e9 := of_decide_eq_false e9
    have e10 := of_decide_eq_false e10
    have e11 := of_decide_eq_false e11
    omega
  · have hb : ((!Pl.okQ o) || decide (o > most)) = true := by rw [h2]; simp
    refine ⟨by omega, ?_⟩
    refine Br_of (fun e => ⟨trivial, isQ_b (by kernel_rfl), sm_post hb (v := 2) (of_decide_eq_true e) rfl (by kernel_rfl)⟩) (fun e0 => ?_)
    refine Br_of (fun e => ⟨trivial, isQ_b (by kernel_rfl), sm_post hb (v := 3) (of_decide_eq_true e) rfl (by kernel_rfl)⟩) (fun e1 => ?_)
    refine Br_of (fun e => ⟨trivial, isQ_b (by kernel_rfl), sm_post hb (v := 4) (of_decide_eq_true e) rfl (by kernel_rfl)⟩) (fun e2 => ?_)
    refine Br_of (fun e => ⟨trivial, isQ_b (by kernel_rfl), sm_post hb (v := 5) (of_decide_eq_true e) rfl (by kernel_rfl)⟩) (fun e3 => ?_)
    refine Br_of (fun e => ⟨trivial, isQ_b (by kernel_rfl), sm_post hb (v := 7) (of_decide_eq_true e) rfl (by kernel_rfl)⟩) (fun e4 => ?_)
    refine Br_of (fun e => ⟨trivial, isQ_b (by kernel_rfl), sm_post hb (v := 8) (of_decide_eq_true e) rfl (by kernel_rfl)⟩) (fun e5 => ?_)
    refine Br_of (fun e => ⟨trivial, isQ_b (by kernel_rfl), sm_post hb (v := 9) (of_decide_eq_true e) rfl (by kernel_rfl)⟩) (fun e6 => ?_)
    refine Br_of (fun e => ⟨trivial, isQ_b (by kernel_rfl), sm_post hb (v := 11) (of_decide_eq_true e) rfl (by kernel_rfl)⟩) (fun e7 => ?_)
    refine Br_of (fun e => ⟨trivial, isQ_b (by kernel_rfl), sm_post hb (v := 13) (of_decide_eq_true e) rfl (by kernel_rfl)⟩) (fun e8 => ?_)
    refine Br_of (fun e => ⟨trivial, isQ_b (by kernel_rfl), sm_post hb (v := 16) (of_decide_eq_true e) rfl (by kernel_rfl)⟩) (fun e9 => ?_)
    refine Br_of (fun e => ⟨trivial, isQ_b (by kernel_rfl), sm_post hb (v := 25) (of_decide_eq_true e) rfl (by kernel_rfl)⟩) (fun e10 => ?_)
    refine Br_of (fun e => ⟨trivial, isQ_b (by kernel_rfl), sm_post hb (v := 27) (of_decide_eq_true e) rfl (by kernel_rfl)⟩) (fun e11 => ?_)
    have e0 := of_decide_eq_false e0
    have e1 := of_decide_eq_false e1
    have e2 := of_decide_eq_false e2
    have e3 := of_decide_eq_false e3
    have e4 := of_decide_eq_false e4
    have e5 := of_decide_eq_false e5
    have e6 := of_decide_eq_false e6
    have e7 := of_decide_eq_false e7
    have e8 := of_decide_eq_false e8
    have e9 := of_decide_eq_false e9
    have e10 := of_decide_eq_false e10
    have e11 := of_decide_eq_false e11
    omega
  · have h1 : Pl.okQ o = true := by simpa using h
    refine ⟨isQ_b h1, ?_⟩
    show _ = (fieldD (Pl.someQ o most), RF (Pl.someQ o most), ())
    rw [someQ_self h1 (of_decide_eq_false h2), newR_ok h1]; rfl
theorem nr_RF (q : Int) : (Ar.enc G4 (RF q)).nr := by exact ⟨trivial, trivial, trivial, trivial, trivial⟩
theorem nrc19 : NRC C19 := ⟨fun x hx => ⟨trivial, trivial, trivial⟩, fun x hx => ⟨nr_field (someQ_isQ _ _), nr_RF _, trivial⟩⟩
theorem snd19 : Sound Try.prog 19 C19 := fn_sound (T := T19) (fn := Try.f19) (tok0 ⟨snd79, snd78q, trivial⟩) Try.func19 (by kernel_rfl) H0 vc19 (by kernel_rfl) (hC := nrc19)

/-! ### What a program must do -/
theorem aw1 : Pl.md 8 = [1, 1, 0, 1] := by kernel_rfl
theorem aw2 : Pl.gen 8 = 2 := by kernel_rfl
theorem aw3 : Pl.mul 8 2 4 = 3 := by kernel_rfl
theorem aw4 : Pl.trace 8 1 = 1 := by kernel_rfl
theorem aw5 : Pl.deny 5 [[1, 2], [2, 4]] [1, 3] = ([3, 1], true) := by kernel_rfl
theorem ok8 : isQ 8 := isQ_b (by kernel_rfl)
theorem ok5 : isQ 5 := isQ_b (by kernel_rfl)
theorem vc24 : ∀ x, C24.pre x → VC T24 H0 Try.f24 C24 x := by
  rintro ⟨⟩ -
  refine cast (α := ((2 : Int) ≤ (8 : Int) ∧ (8 : Int) ≤ (65536 : Int) ∧ (1 : Int) ≤ Pl.K (8 : Int)) ∧ Br ((0 : I.El) != (0 : Int)) ((false, ()) = C24.post ()) (Pl.okF (D.rptr (fieldC (8 : Int))) ∧ ((2 : Int) ≤ (5 : Int) ∧ (5 : Int) ≤ (65536 : Int) ∧ (1 : Int) ≤ Pl.K (5 : Int)) ∧ (Pl.okSy (D.rptr (fieldC (5 : Int)), [[(1 : Int), (2 : Int)], [(2 : Int), (4 : Int)]], [(1 : Int), (3 : Int)], ()) ∧ True) ∧ Br ((↑(Pl.md (Pl.qF (D.rptr (fieldC (8 : Int))))).length : Int) == (4 : Int)) ((0 : Int) ≤ (2 : Int) ∧ (2 : Int) < (↑(Pl.md (Pl.qF (D.rptr (fieldC (8 : Int))))).length : Int) ∧ Br (rd i64 (Pl.md (Pl.qF (D.rptr (fieldC (8 : Int))))) (2 : Int) == (0 : Int)) (Pl.okF (D.rptr (fieldC (8 : Int))) ∧ Br (Pl.gen (Pl.qF (D.rptr (fieldC (8 : Int)))) == (2 : Int)) (Pl.okF (D.rptr (fieldC (8 : Int))) ∧ Br (Pl.mul (Pl.qF (D.rptr (fieldC (8 : Int)))) ((2 : Int) % Pl.qF (D.rptr (fieldC (8 : Int)))) ((4 : Int) % Pl.qF (D.rptr (fieldC (8 : Int)))) == (3 : Int)) (Pl.okF (D.rptr (fieldC (8 : Int))) ∧ Br (Pl.trace (Pl.qF (D.rptr (fieldC (8 : Int)))) ((1 : Int) % Pl.qF (D.rptr (fieldC (8 : Int)))) == (1 : Int)) (Br (Pl.deny (Pl.qF (D.rptr (fieldC (5 : Int)))) [[(1 : Int), (2 : Int)], [(2 : Int), (4 : Int)]] [(1 : Int), (3 : Int)]).snd (((↑(Pl.deny (Pl.qF (D.rptr (fieldC (5 : Int)))) [[(1 : Int), (2 : Int)], [(2 : Int), (4 : Int)]] [(1 : Int), (3 : Int)]).fst.length : Int) == (2 : Int), ()) = C24.post ()) ((false, ()) = C24.post ())) ((false, ()) = C24.post ())) ((false, ()) = C24.post ())) ((false, ()) = C24.post ())) ((false, ()) = C24.post ())) ((false, ()) = C24.post ()))) (by kernel_rfl) ?_
  rw [qF_f, qF_f, aw1, aw2, aw5, show (2 : Int) % 8 = 2 by decide, show (4 : Int) % 8 = 4 by decide, show (1 : Int) % 8 = 1 by decide, aw3, aw4]
  refine ⟨ok8, okF_f ok8, ok5, ⟨⟨okF_f ok5, ?_, ?_⟩, trivial⟩, ?_⟩
  · refine ⟨by decide, fun r hr => ?_⟩
    simp at hr
    rcases hr with rfl | rfl <;> decide
  · decide
  · exact ⟨by decide, by decide, okF_f ok8, okF_f ok8, okF_f ok8, rfl⟩
theorem snd24 : Sound Try.prog 24 C24 := fn_sound (T := T24) (fn := Try.f24) (tok0 ⟨snd78q, snd80, snd46, snd42, snd34, snd55, trivial⟩) Try.func24 (by kernel_rfl) H0 vc24 (by kernel_rfl)
end Fd
end
section
/- FieldCalculates. -/
set_option linter.unusedVariables false
set_option linter.unusedSimpArgs false
set_option maxRecDepth 100000
namespace Fd
open Go Fw Go.Proofs

theorem Br_ne {a : Int} {p r : Prop} (h : r) : Br (a != a) p r := Br_of (fun e => by simp at e) (fun _ => h)
theorem Br_eq {a : Int} {p r : Prop} (h : p) : Br (a == a) p r := Br_of (fun _ => h) (fun e => by simp at e)
theorem vc5 : ∀ x, C5.pre x → VC T5 H0 Try.f5 C5 x := by
  rintro ⟨(o : Int), (a : Int), (b : Int), ⟨⟩⟩ -
  refine cast (α := True ∧ Pl.okr (Pl.someQ o (65536 : Int), Pl.lpf (Pl.someQ o (65536 : Int)), Pl.K (Pl.someQ o (65536 : Int)), Pl.Mod (Pl.someQ o (65536 : Int)), ()) ∧ Pl.okr (Pl.someQ o (65536 : Int), Pl.lpf (Pl.someQ o (65536 : Int)), Pl.K (Pl.someQ o (65536 : Int)), Pl.Mod (Pl.someQ o (65536 : Int)), ()) ∧ Pl.okF (D.rptr (fieldC (Pl.someQ o (65536 : Int)))) ∧ (Pl.okr (Pl.someQ o (65536 : Int), Pl.lpf (Pl.someQ o (65536 : Int)), Pl.K (Pl.someQ o (65536 : Int)), Pl.Mod (Pl.someQ o (65536 : Int)), ()) ∧ Pl.inQ (Pl.someQ o (65536 : Int)) (a % Pl.someQ o (65536 : Int)) ∧ Pl.inQ (Pl.someQ o (65536 : Int)) (b % Pl.someQ o (65536 : Int))) ∧ Br (Pl.add (Pl.qF (D.rptr (fieldC (Pl.someQ o (65536 : Int))))) (a % Pl.qF (D.rptr (fieldC (Pl.someQ o (65536 : Int))))) (b % Pl.qF (D.rptr (fieldC (Pl.someQ o (65536 : Int))))) != Pl.add (Pl.someQ o (65536 : Int)) (a % Pl.someQ o (65536 : Int)) (b % Pl.someQ o (65536 : Int))) ((false, ()) = C5.post (o, a, b, ())) (Pl.okF (D.rptr (fieldC (Pl.someQ o (65536 : Int)))) ∧ (Pl.okr (Pl.someQ o (65536 : Int), Pl.lpf (Pl.someQ o (65536 : Int)), Pl.K (Pl.someQ o (65536 : Int)), Pl.Mod (Pl.someQ o (65536 : Int)), ()) ∧ Pl.inQ (Pl.someQ o (65536 : Int)) (a % Pl.someQ o (65536 : Int)) ∧ Pl.inQ (Pl.someQ o (65536 : Int)) (b % Pl.someQ o (65536 : Int))) ∧ Br (Pl.sub (Pl.qF (D.rptr (fieldC (Pl.someQ o (65536 : Int))))) (a % Pl.qF (D.rptr (fieldC (Pl.someQ o (65536 : Int))))) (b % Pl.qF (D.rptr (fieldC (Pl.someQ o (65536 : Int))))) != Pl.sub (Pl.someQ o (65536 : Int)) (a % Pl.someQ o (65536 : Int)) (b % Pl.someQ o (65536 : Int))) ((false, ()) = C5.post (o, a, b, ())) (Pl.okF (D.rptr (fieldC (Pl.someQ o (65536 : Int)))) ∧ (Pl.okr (Pl.someQ o (65536 : Int), Pl.lpf (Pl.someQ o (65536 : Int)), Pl.K (Pl.someQ o (65536 : Int)), Pl.Mod (Pl.someQ o (65536 : Int)), ()) ∧ Pl.inQ (Pl.someQ o (65536 : Int)) (a % Pl.someQ o (65536 : Int)) ∧ Pl.inQ (Pl.someQ o (65536 : Int)) (b % Pl.someQ o (65536 : Int))) ∧ Br (Pl.mul (Pl.qF (D.rptr (fieldC (Pl.someQ o (65536 : Int))))) (a % Pl.qF (D.rptr (fieldC (Pl.someQ o (65536 : Int))))) (b % Pl.qF (D.rptr (fieldC (Pl.someQ o (65536 : Int))))) != Pl.mul (Pl.someQ o (65536 : Int)) (a % Pl.someQ o (65536 : Int)) (b % Pl.someQ o (65536 : Int))) ((false, ()) = C5.post (o, a, b, ())) (Pl.okF (D.rptr (fieldC (Pl.someQ o (65536 : Int)))) ∧ Br (b % Pl.someQ o (65536 : Int) == (0 : Int)) (Br ((Pl.div (Pl.qF (D.rptr (fieldC (Pl.someQ o (65536 : Int))))) (a % Pl.qF (D.rptr (fieldC (Pl.someQ o (65536 : Int))))) (b % Pl.qF (D.rptr (fieldC (Pl.someQ o (65536 : Int)))))).snd == (6 : Int)) (Br ((Pl.div (Pl.qF (D.rptr (fieldC (Pl.someQ o (65536 : Int))))) (a % Pl.qF (D.rptr (fieldC (Pl.someQ o (65536 : Int))))) (b % Pl.qF (D.rptr (fieldC (Pl.someQ o (65536 : Int)))))).fst == (0 : Int)) (True ∧ (true, ()) = C5.post (o, a, b, ())) ((false, ()) = C5.post (o, a, b, ()))) ((false, ()) = C5.post (o, a, b, ()))) (Br ((Pl.div (Pl.qF (D.rptr (fieldC (Pl.someQ o (65536 : Int))))) (a % Pl.qF (D.rptr (fieldC (Pl.someQ o (65536 : Int))))) (b % Pl.qF (D.rptr (fieldC (Pl.someQ o (65536 : Int)))))).snd == (0 : Int)) ((Pl.okr (Pl.someQ o (65536 : Int), Pl.lpf (Pl.someQ o (65536 : Int)), Pl.K (Pl.someQ o (65536 : Int)), Pl.Mod (Pl.someQ o (65536 : Int)), ()) ∧ Pl.inQ (Pl.someQ o (65536 : Int)) (a % Pl.someQ o (65536 : Int)) ∧ Pl.inQ (Pl.someQ o (65536 : Int)) (b % Pl.someQ o (65536 : Int))) ∧ Br ((Pl.div (Pl.qF (D.rptr (fieldC (Pl.someQ o (65536 : Int))))) (a % Pl.qF (D.rptr (fieldC (Pl.someQ o (65536 : Int))))) (b % Pl.qF (D.rptr (fieldC (Pl.someQ o (65536 : Int)))))).fst == Pl.mul (Pl.someQ o (65536 : Int)) (a % Pl.someQ o (65536 : Int)) (Pl.inv (Pl.someQ o (65536 : Int)) (b % Pl.someQ o (65536 : Int)))) (True ∧ (true, ()) = C5.post (o, a, b, ())) ((false, ()) = C5.post (o, a, b, ()))) ((false, ()) = C5.post (o, a, b, ()))))))) (by kernel_rfl) ?_
  have hq := someQ_isQ o 65536
  generalize Pl.someQ o 65536 = q at *
  rw [qF_f]
  have hr : Pl.okr (q, Pl.lpf q, Pl.K q, Pl.Mod q, ()) := okr_RF hq
  have hab : Pl.okr (q, Pl.lpf q, Pl.K q, Pl.Mod q, ()) ∧ Pl.inQ q (a % q) ∧ Pl.inQ q (b % q) := ⟨hr, emod_inQ hq a, emod_inQ hq b⟩
  refine ⟨trivial, hr, hr, okF_f hq, hab, Br_ne ⟨okF_f hq, hab, Br_ne ⟨okF_f hq, hab, Br_ne ⟨okF_f hq, Br_of (fun h => ?_) (fun h => ?_)⟩⟩⟩⟩
  · have h : b % q = 0 := by simpa using h
    have hd : Pl.div q (a % q) (b % q) = (0, 6) := by unfold Pl.div; rw [decide_eq_true h]; rfl
    rw [hd]
    exact Br_eq (Br_eq ⟨trivial, rfl⟩)
  · have h : b % q ≠ 0 := by simpa using h
    have hd : Pl.div q (a % q) (b % q) = (Pl.mul q (a % q) (Pl.inv q (b % q)), 0) := by unfold Pl.div; rw [decide_eq_false h]; rfl
    rw [hd]
    exact Br_eq ⟨hab, Br_eq ⟨trivial, rfl⟩⟩
theorem snd5 : Sound Try.prog 5 C5 := fn_sound (T := T5) (fn := Try.f5) (tok0 ⟨snd19, snd29, snd30, snd31, snd32, snd33, snd34, snd35, snd36, snd37, snd24, trivial⟩) Try.func5 (by kernel_rfl) H0 vc5 (by kernel_rfl)
end Fd
end
section
/- Matrices of any lists; what the reference says of them; FieldMatrices: contracts. -/
set_option linter.unusedVariables false
set_option linter.unusedSimpArgs false
set_option maxRecDepth 100000
namespace Fd
open Go Fw Go.Proofs

def C25 : Con := ⟨[L, I], [L], fun (x : List Int × Int × Unit) => 0 ≤ x.2.1 ∧ x.2.1 ≤ 1000, fun (x : List Int × Int × Unit) => (x.1.take x.2.1.toNat, ()), none⟩
def Pl.mtx (m : List (List Int)) (n : Nat) : List (List Int) := (m.take n).map (List.take n)
def C43 : Con := ⟨[LL, I], [LL], fun (x : List (List Int) × Int × Unit) => 0 ≤ x.2.1 ∧ x.2.1 ≤ 1000, fun (x : List (List Int) × Int × Unit) => (Pl.mtx x.1 x.2.1.toNat, ()), none⟩
abbrev soo : Sh := .own 30 (.slc i64)
def H43 : Hints := lo [(0, ⟨[0, 1], [(5, soo), (6, si)]⟩)]
def T43 : Ctx := TT [(25, C25)]
def C102 : Con := ⟨[G4, I], [B], fun (x : R4 × Int × Unit) => Pl.okr x.1, fun (x : R4 × Int × Unit) => (decide (0 ≤ x.2.1) && decide (x.2.1 < x.1.1), ()), none⟩
def C47 : Con := ⟨[G4, L], [B], fun (x : R4 × List Int × Unit) => Pl.okr x.1 ∧ x.2.1.length ≤ 1000000000, fun (x : R4 × List Int × Unit) => (Pl.els x.1.1 x.2.1, ()), none⟩
def H47 : Hints := ⟨[], [(1, [2])], [(0, ⟨[1, 2], [(5, si)]⟩)], [], []⟩
def T47 : Ctx := TT [(102, C102)]
def C44 : Con := ⟨[G4, LL], [I], fun (x : R4 × List (List Int) × Unit) => Pl.okr x.1 ∧ Pl.okMM x.2.1, fun (x : R4 × List (List Int) × Unit) => (Pl.shape x.1.1 x.2.1, ()), none⟩
def H44 : Hints := ⟨[], [(1, [2])], [(0, ⟨[1, 2], [(5, si)]⟩), (2, ⟨[1, 2], [(6, si)]⟩)], [], []⟩
def T44 : Ctx := TT [(47, C47)]
/-- A column times a list. -/
def Pl.colS (q : Int) (j : Nat) : Int → List Int → List (List Int) → Int
  | s, w :: ws, r :: rs => Pl.colS q j (Pl.add q s (Pl.mul q w (r.getD j 0))) ws rs
  | s, _, _ => s
def Pl.cols0 (q : Int) (w : List Int) (m : List (List Int)) : Nat → Nat → Bool
  | 0, _ => true
  | f + 1, j => bif decide (Pl.colS q j 0 w m ≠ 0) then false else Pl.cols0 q w m f (j + 1)
def Pl.denies (q : Int) (m : List (List Int)) (b w : List Int) : Bool :=
  bif decide (Pl.sys q m b ≠ 0) || (decide (w.length ≠ m.length) || !Pl.els q w) then false else bif decide (m.length = 0) then false else Pl.cols0 q w m (Pl.wide m) 0 && decide (Pl.dot q w b ≠ 0)
def C27 : Con := ⟨[.raw, LL, L, L], [B], fun (x : D × List (List Int) × List Int × List Int × Unit) => Pl.okF x.1 ∧ Pl.okMM x.2.1 ∧ x.2.2.1.length ≤ 1000000000 ∧ x.2.2.2.1.length ≤ 1000000000, fun (x : D × List (List Int) × List Int × List Int × Unit) => (Pl.denies (Pl.qF x.1) x.2.1 x.2.2.1 x.2.2.2.1, ()), none⟩
def H27 : Hints := lo [(0, ⟨[0, 1, 2, 3, 37], [(38, si)]⟩), (2, ⟨[0, 1, 2, 3, 9, 37, 38, 41, 42], [(10, si), (43, si)]⟩)]
def T27 : Ctx := TF [(92, C92), (93, C93), (94, C94)]
def T8 : Ctx := TT [(19, C19), (25, C25), (43, C43), (44, C44), (47, C47), (22, C22), (45, C45), (46, C46), (27, C27), (24, C24)]
def C8 : Con := ⟨[I, LL, L], [B], fun _ => True, fun _ => (true, ()), none⟩
def H8 : Hints := H0

end Fd
end
