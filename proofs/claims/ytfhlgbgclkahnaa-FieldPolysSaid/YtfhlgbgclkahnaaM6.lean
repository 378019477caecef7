import Derived.WalkKit
import Derived.ProofKit
import Derived.OpenShut
import Derived.Below
import Derived.Deep.Matrix
import Derived.Test.YtfhlgbgclkahnaaRows
import Derived.Test.YtfhlgbgclkahnaaM5
section
set_option linter.unusedVariables false
set_option linter.unusedSimpArgs false
set_option linter.unusedSectionVars false
set_option maxRecDepth 100000
namespace Fd
open Go Fw Go.Proofs

theorem sub_take {l : List Int} {n : Nat} : sub l (0 : Int) (n : Int) = l.take n := by
 unfold sub
 rw [Int.toNat_natCast]; rfl
theorem trimN_cut {l : List Int} {i : Nat} (h : i ≤ l.length) (ht : Pl.trimN l l.length ≤ l.length - i) (hz : Pl.trimN l (l.length - i) = Pl.trimN l l.length) :
  (0 < l.length - i → l.getD (l.length - i - 1) 0 = 0 → Pl.trimN l (l.length - (i + 1)) = Pl.trimN l l.length ∧ Pl.trimN l l.length ≤ l.length - (i + 1)) ∧
  ((l.length - i = 0 ∨ l.getD (l.length - i - 1) 0 ≠ 0) → Pl.trimN l l.length = l.length - i) := by
 refine ⟨fun h0 hz0 => ?_, fun h0 => ?_⟩
 ·obtain ⟨n, hn⟩ : ∃ n, l.length - i = n + 1 := ⟨l.length - i - 1, by omega⟩
  rw [hn] at hz hz0
  rw [Pl.trimN, decide_eq_true (by simpa using hz0), cond_true] at hz
  have e : l.length - (i + 1) = n := by omega
  rw [e]
  exact ⟨hz, by rw [← hz]; exact trimN_le l n⟩
 ·rcases h0 with h0 | h0
  ·rw [h0] at ht ⊢; omega
  ·by_cases h1 : l.length - i = 0
   ·rw [h1] at ht ⊢; omega
   ·obtain ⟨n, hn⟩ : ∃ n, l.length - i = n + 1 := ⟨l.length - i - 1, by omega⟩
    rw [hn] at hz h0
    rw [Pl.trimN, decide_eq_false (by simpa using h0), cond_false] at hz
    rw [← hz, hn]
theorem vc112 : ∀ x, C112.pre x → VC (TT []) H112 Try.f112 C112 x := by
 rintro ⟨(l : List Int), ⟨⟩⟩ (hl : l.length ≤ 1000000000)
 refine cast (α := ∃ (n : Nat), itl (fun (G : List Int × PUnit → Prop) (x : List Int × PUnit) => Br (decide ((↑(List.length x.1) : Int) > (0 : Int))) ((0 : Int) ≤ IntKind.i64.wrap ((↑(List.length x.1) : Int) - (1 : Int)) ∧ IntKind.i64.wrap ((↑(List.length x.1) : Int) - (1 : Int)) < (↑(List.length x.1) : Int) ∧ Br (rd i64 x.1 (IntKind.i64.wrap ((↑(List.length x.1) : Int) - (1 : Int))) == (0 : Int)) ((0 : Int) ≤ IntKind.i64.wrap ((↑(List.length x.1) : Int) - (1 : Int)) ∧ IntKind.i64.wrap ((↑(List.length x.1) : Int) - (1 : Int)) ≤ (↑(List.length x.1) : Int) ∧ G (sub x.1 (0 : Int) (IntKind.i64.wrap ((↑(List.length x.1) : Int) - (1 : Int))), ())) (x = C112.post (l, ()))) (x = C112.post (l, ()))) n (l, ())) (by kernel_rfl) ?_
 have hp : C112.post (l, ()) = (Pl.trim l, ()) := rfl
 rw [hp]
 refine itl_rule (fun s => ∃ i : Nat, i ≤ l.length ∧ s.1 = l.take (l.length - i) ∧ Pl.trimN l l.length ≤ l.length - i ∧ Pl.trimN l (l.length - i) = Pl.trimN l l.length) (fun s => s.1.length)
  ⟨0, Nat.zero_le _, (List.take_length).symm, trimN_le _ _, rfl⟩ ?_
 rintro ⟨p, ⟨⟩⟩ G ⟨i, hi, e, h1, h2⟩ hG
 simp only at e hG ⊢
 have hpl : p.length = l.length - i := by rw [e, List.length_take]; omega
 obtain ⟨c1, c2⟩ := trimN_cut hi h1 h2
 rw [hpl]
 refine Br_of (fun h => ?_) (fun h => ?_)
 ·have h : 0 < l.length - i := by have := of_decide_eq_true h; omega
  rw [wrap_i64 (by omega) (by omega), show ((l.length - i : Nat) : Int) - 1 = ((l.length - i - 1 : Nat) : Int) by omega, rd_i]
  have hg : p.getD (l.length - i - 1) 0 = l.getD (l.length - i - 1) 0 := by
   rw [e, List.getD_eq_getElem?_getD, List.getElem?_take_of_lt (by omega), ← List.getD_eq_getElem?_getD]
  rw [hg]
  refine ⟨by omega, by omega, Br_of (fun h3 => ?_) (fun h3 => ?_)⟩
  ·obtain ⟨d1, d2⟩ := c1 h (by simpa using h3)
   have hs : sub p (0 : Int) ((l.length - i - 1 : Nat) : Int) = l.take (l.length - (i + 1)) := by rw [sub_take, e, List.take_take]; congr 1; omega
   refine ⟨by omega, by omega, hG _ ⟨i + 1, by omega, hs, d2, d1⟩ ?_⟩
   simp only
   rw [hs, List.length_take]; omega
  ·rw [e, ← c2 (.inr (by simpa using h3))]; rfl
 ·have h : l.length - i = 0 := by have := of_decide_eq_false h; omega
  rw [e, ← c2 (.inl h)]; rfl
theorem snd112 : Sound Try.prog 112 C112 := fn_sound (T := TT []) (fn := Try.f112) (tok0 trivial) Try.func112 (by kernel_rfl) H112 vc112 (by kernel_rfl)
theorem cut_row {ms : XS} {j : Nat} (hm : mal ms j) (i : Nat) : mal (Pl.cutM ms j i) (Pl.cutJ ms j i) ∧ mrow (Pl.cutM ms j i) (Pl.cutJ ms j i) = (mrow ms j).take ((mrow ms j).length - i) := by
 unfold Pl.cutM Pl.cutJ
 by_cases e : i = 0
 ·rw [if_pos e, if_pos e, e, Nat.sub_zero, List.take_length]
  exact ⟨hm, rfl⟩
 ·rw [if_neg e, if_neg e]
  obtain ⟨k, rfl⟩ : ∃ k, i = k + 1 := ⟨i - 1, by omega⟩
  rw [← Nat.add_assoc, Nat.add_sub_cancel]
  refine row_at ?_
  rw [List.getElem?_append_right (by rw [mkill_length]; omega), mkill_length, List.getElem?_append_right (by rw [List.length_replicate]; omega), List.length_replicate, show ms.length + k - ms.length - k = 0 by omega]
  rfl
theorem cut_next {ms : XS} {j : Nat} (i : Nat) : (Pl.cutM ms j i).length + 1 = Pl.cutJ ms j (i + 1) ∧ mnew (mkill (Pl.cutM ms j i) (Pl.cutJ ms j i)) ((mrow ms j).take ((mrow ms j).length - (i + 1))) = Pl.cutM ms j (i + 1) := by
 unfold Pl.cutM Pl.cutJ
 rw [if_neg (Nat.succ_ne_zero i), if_neg (Nat.succ_ne_zero i), Nat.add_sub_cancel]
 by_cases e : i = 0
 ·rw [if_pos e, if_pos e, e]
  exact ⟨by omega, rfl⟩
 ·rw [if_neg e, if_neg e]
  obtain ⟨k, rfl⟩ : ∃ k, i = k + 1 := ⟨i - 1, by omega⟩
  rw [Nat.add_sub_cancel]
  refine ⟨by rw [List.length_append, mkill_length, List.length_append, List.length_replicate]; simp only [List.length_singleton]; omega, ?_⟩
  rw [← Nat.add_assoc]
  show (mkill ms j ++ (List.replicate k none ++ [some _])).set (ms.length + k) none ++ [some _] = _
  rw [List.set_append_right _ _ (by rw [mkill_length]; omega), mkill_length, List.set_append_right _ _ (by rw [List.length_replicate]; omega), List.length_replicate, show ms.length + k - ms.length - k = 0 by omega, List.set_cons_zero, List.replicate_succ', List.append_assoc]
theorem vc112p : ∀ (ms : XS) (j : Nat) (h : Hp) (j' : Nat) (ms' : XS), mal ms j → (mrow ms j).length ≤ 1000000000 → j' = Pl.trmJ ms j → ms' = Pl.trmM ms j →
  VCP T112 H112p Try.f112 pt112 [.d (.ref 0 j)] (upd h 0 (some (.aren 3 i64 ms))) (.d (.ref 0 j')) (upd h 0 (some (.aren 3 i64 ms'))) := by
 rintro ms j h j' ms' hm hl hj' hms'
 refine cast (α := ∃ (n : Nat), itl (fun (G : Nat × List (Option (List Int)) × PUnit → Prop) (x : Nat × List (Option (List Int)) × PUnit) => mal x.2.1 x.1 ∧ Br (decide ((↑(mrow x.2.1 x.1).length : Int) > (0 : Int))) (mal x.2.1 x.1 ∧ mal x.2.1 x.1 ∧ (0 : Int) ≤ IntKind.i64.wrap ((↑(mrow x.2.1 x.1).length : Int) - (1 : Int)) ∧ IntKind.i64.wrap ((↑(mrow x.2.1 x.1).length : Int) - (1 : Int)) < (↑(mrow x.2.1 x.1).length : Int) ∧ mal x.2.1 x.1 ∧ (0 : Int) ≤ IntKind.i64.wrap ((↑(mrow x.2.1 x.1).length : Int) - (1 : Int)) ∧ IntKind.i64.wrap ((↑(mrow x.2.1 x.1).length : Int) - (1 : Int)) < (↑(mrow x.2.1 x.1).length : Int) ∧ Br (rd i64 (mrow x.2.1 x.1) (IntKind.i64.wrap ((↑(mrow x.2.1 x.1).length : Int) - (1 : Int))) == (0 : Int)) (mal x.2.1 x.1 ∧ mal x.2.1 x.1 ∧ (0 : Int) ≤ IntKind.i64.wrap ((↑(mrow x.2.1 x.1).length : Int) - (1 : Int)) ∧ IntKind.i64.wrap ((↑(mrow x.2.1 x.1).length : Int) - (1 : Int)) ≤ (↑(mrow x.2.1 x.1).length : Int) ∧ G (List.length x.2.1 + (1 : Nat), mnew (mkill x.2.1 x.1) (List.take (IntKind.i64.wrap ((↑(mrow x.2.1 x.1).length : Int) - (1 : Int))).toNat (mrow x.2.1 x.1)), ())) (x.1 = j' ∧ x.2.1 = ms' ∧ True)) (x.1 = j' ∧ x.2.1 = ms' ∧ True)) n (j, ms, ())) (by kernel_rfl) ?_
 refine itl_rule (fun s => ∃ i : Nat, i ≤ (mrow ms j).length ∧ s = (Pl.cutJ ms j i, Pl.cutM ms j i, ()) ∧ Pl.trimN (mrow ms j) (mrow ms j).length ≤ (mrow ms j).length - i ∧ Pl.trimN (mrow ms j) ((mrow ms j).length - i) = Pl.trimN (mrow ms j) (mrow ms j).length) (fun s => (mrow s.2.1 s.1).length)
  ⟨0, Nat.zero_le _, rfl, trimN_le _ _, rfl⟩ ?_
 rintro x G ⟨i, hi, rfl, h1, h2⟩ hG
 simp only at hG ⊢
 obtain ⟨m1, m2⟩ := cut_row hm i
 obtain ⟨n1, n2⟩ := cut_next (ms := ms) (j := j) i
 obtain ⟨c1, c2⟩ := trimN_cut hi h1 h2
 have fin : ∀ k, Pl.trimN (mrow ms j) (mrow ms j).length = (mrow ms j).length - k → k ≤ (mrow ms j).length → Pl.cutJ ms j k = j' ∧ Pl.cutM ms j k = ms' ∧ True := fun k hk hk2 => by
  have e : Pl.cuts ms j = k := by unfold Pl.cuts; omega
  rw [hj', hms']
  unfold Pl.trmJ Pl.trmM
  rw [e]
  exact ⟨rfl, rfl, trivial⟩
 rw [m2] at hG ⊢
 have hpl : ((mrow ms j).take ((mrow ms j).length - i)).length = (mrow ms j).length - i := by rw [List.length_take]; omega
 rw [hpl] at hG ⊢
 refine ⟨m1, Br_of (fun h => ?_) (fun h => ?_)⟩
 ·have h : 0 < (mrow ms j).length - i := by have := of_decide_eq_true h; omega
  rw [wrap_i64 (by omega) (by omega), show (((mrow ms j).length - i : Nat) : Int) - 1 = (((mrow ms j).length - i - 1 : Nat) : Int) by omega, rd_i]
  have hg : ((mrow ms j).take ((mrow ms j).length - i)).getD ((mrow ms j).length - i - 1) 0 = (mrow ms j).getD ((mrow ms j).length - i - 1) 0 := by
   rw [List.getD_eq_getElem?_getD, List.getElem?_take_of_lt (by omega), ← List.getD_eq_getElem?_getD]
  rw [hg]
  refine ⟨m1, m1, by omega, by omega, m1, by omega, by omega, Br_of (fun h3 => ?_) (fun h3 => ?_)⟩
  ·obtain ⟨d1, d2⟩ := c1 h (by simpa using h3)
   rw [Int.toNat_natCast, List.take_take, show min ((mrow ms j).length - i - 1) ((mrow ms j).length - i) = (mrow ms j).length - (i + 1) by omega, n2]
   refine ⟨m1, m1, by omega, by omega, ?_⟩
   have n1 : List.length (Pl.cutM ms j i) + 1 = Pl.cutJ ms j (i + 1) := n1
   rw [n1]
   refine hG _ ⟨i + 1, by omega, rfl, d2, d1⟩ ?_
   simp only
   rw [(cut_row hm (i + 1)).2, List.length_take]; omega
  ·exact fin i (c2 (.inr (by simpa using h3))) hi
 ·have h : (mrow ms j).length - i = 0 := by have := of_decide_eq_false h; omega
  exact fin i (c2 (.inl h)) hi
theorem snd112p : SoundPT Try.prog 112 pt112 := pt_sound (T := T112) (fn := Try.f112) (tokg (T := T112) trivial trivial trivial noInv noCv) Try.func112 (by kernel_rfl) H112p (fun avs h p v h' hf hp => by
 obtain ⟨j, ms, rfl, h0, rfl, rfl, rfl⟩ := trm112_some hf
 have e2 : upd h 0 (some (.aren 3 i64 ms)) = h := by
  funext id
  rw [upd_eq]
  by_cases e : id = 0
  ·subst e; rw [if_pos rfl, h0]
  ·rw [if_neg e]
 rw [← e2]
 have := vc112p ms j h _ _ hp.1 hp.2 rfl rfl
 have e3 : upd (upd h 0 (some (.aren 3 i64 ms))) 0 (some (.aren 3 i64 (Pl.trmM ms j))) = upd h 0 (some (.aren 3 i64 (Pl.trmM ms j))) := by
  funext id
  rw [upd_eq, upd_eq, upd_eq]
  by_cases e : id = 0
  ·rw [if_pos e, if_pos e]
  ·rw [if_neg e, if_neg e, if_neg e]
 rw [e3]
 exact this) (by kernel_rfl)
theorem trm_row {ms : XS} {j : Nat} (hm : mal ms j) : mal (Pl.trmM ms j) (Pl.trmJ ms j) ∧ mrow (Pl.trmM ms j) (Pl.trmJ ms j) = Pl.trim (mrow ms j) := by
 obtain ⟨a, b⟩ := cut_row hm (Pl.cuts ms j)
 refine ⟨a, ?_⟩
 show mrow (Pl.cutM ms j (Pl.cuts ms j)) (Pl.cutJ ms j (Pl.cuts ms j)) = _
 rw [b]
 unfold Pl.trim Pl.cuts
 have := trimN_le (mrow ms j) (mrow ms j).length
 congr 1
 omega
theorem dvL_ok {q : Int} (hq : isQ q) {b : List Int} {k : Int} : ∀ (i : Nat) {o r : List Int}, (∀ x ∈ o, Pl.inQ q x) → (∀ x ∈ r, Pl.inQ q x) → ((Pl.dvL q b k i o r).1.length = o.length ∧ ∀ x ∈ (Pl.dvL q b k i o r).1, Pl.inQ q x) ∧ (Pl.dvL q b k i o r).2.length = r.length ∧ ∀ x ∈ (Pl.dvL q b k i o r).2, Pl.inQ q x
 | 0, o, r, ho, hr => ⟨⟨rfl, ho⟩, rfl, hr⟩
 | i + 1, o, r, ho, hr => by
  rw [Pl.dvL]
  obtain ⟨d1, d2⟩ := dst_ok hq (b := b) (c := Pl.mul q (r.getD (i + b.length - 1) 0) k) (i := i) b.length hr
  obtain ⟨⟨a1, a2⟩, a3, a4⟩ := dvL_ok hq (b := b) (k := k) i (o := o.set i (Pl.mul q (r.getD (i + b.length - 1) 0) k)) (r := Pl.dst q b (Pl.mul q (r.getD (i + b.length - 1) 0) k) i b.length r) (fun x hx => by
   rcases List.mem_or_eq_of_mem_set hx with hx | rfl
   ·exact ho x hx
   ·exact mul_inQ hq _ _) d2
  exact ⟨⟨by rw [a1, List.length_set], a2⟩, by rw [a3, d1], a4⟩
theorem vc116 : ∀ x, C116.pre x → VC T116 H116 Try.f116 C116 x := by
 rintro ⟨v, (p : List Int), (b : List Int), ⟨⟩⟩ ⟨⟨q, hq, (rfl : v = _)⟩, hP, (hb0 : 0 < b.length), (hbt : Pl.top b ≠ 0)⟩
 have hP : Pl.okPr (Pl.qF (fieldD q)) p b := hP
 rw [qF_d] at hP
 obtain ⟨hp, hb, lp, lb⟩ := hP
 refine cast (α := p.length ≤ (1000000000 : Nat) ∧ Br (decide ((↑p.length : Int) < (↑b.length : Int))) (([], p, ()) = C116.post (fieldD q, p, b, ())) ((0 : Int) ≤ IntKind.i64.wrap (IntKind.i64.wrap ((↑p.length : Int) - (↑b.length : Int)) + (1 : Int)) ∧ IntKind.i64.wrap (IntKind.i64.wrap ((↑p.length : Int) - (↑b.length : Int)) + (1 : Int)) = IntKind.i64.wrap (IntKind.i64.wrap ((↑p.length : Int) - (↑b.length : Int)) + (1 : Int)) ∧ IntKind.i64.wrap (IntKind.i64.wrap ((↑p.length : Int) - (↑b.length : Int)) + (1 : Int)) * (8 : Int) ≤ (140737488355328 : Int) ∧ (0 : Int) ≤ IntKind.i64.wrap ((↑b.length : Int) - (1 : Int)) ∧ IntKind.i64.wrap ((↑b.length : Int) - (1 : Int)) < (↑b.length : Int) ∧ (Pl.okA (arD q) ∧ Pl.inQ (Pl.qA (arD q)) (rd i64 b (IntKind.i64.wrap ((↑b.length : Int) - (1 : Int)))) ∧ rd i64 b (IntKind.i64.wrap ((↑b.length : Int) - (1 : Int))) ≠ (0 : Int)) ∧ ∃ (n : Nat), itl (fun (G : List Int × List Int × Int × PUnit → Prop) (x : List Int × List Int × Int × PUnit) => Br (decide (x.2.2.1 ≥ (0 : Int))) ((0 : Int) ≤ IntKind.i64.wrap (IntKind.i64.wrap (x.2.2.1 + (↑b.length : Int)) - (1 : Int)) ∧ IntKind.i64.wrap (IntKind.i64.wrap (x.2.2.1 + (↑b.length : Int)) - (1 : Int)) < (↑(List.length x.2.1) : Int) ∧ (0 : Int) ≤ IntKind.i64.wrap (IntKind.i64.wrap (x.2.2.1 + (↑b.length : Int)) - (1 : Int)) ∧ IntKind.i64.wrap (IntKind.i64.wrap (x.2.2.1 + (↑b.length : Int)) - (1 : Int)) < (↑(List.length x.2.1) : Int) ∧ (Pl.okM (arD q) ∧ Pl.inQ (Pl.qA (arD q)) (rd i64 x.2.1 (IntKind.i64.wrap (IntKind.i64.wrap (x.2.2.1 + (↑b.length : Int)) - (1 : Int)))) ∧ Pl.inQ (Pl.qA (arD q)) (Pl.inv (Pl.qA (arD q)) (rd i64 b (IntKind.i64.wrap ((↑b.length : Int) - (1 : Int)))))) ∧ (0 : Int) ≤ x.2.2.1 ∧ x.2.2.1 < (↑(List.length x.1) : Int) ∧ (0 : Int) ≤ x.2.2.1 ∧ x.2.2.1 < (↑(List.length x.1) : Int) ∧ ∃ (n : Nat), itl (fun (G_1 : List Int × List Int × Int × PUnit → Prop) (x_1 : List Int × List Int × Int × PUnit) => Br (decide (x_1.2.2.1 < (↑b.length : Int))) ((0 : Int) ≤ x_1.2.2.1 ∧ x_1.2.2.1 < (↑b.length : Int) ∧ (0 : Int) ≤ IntKind.i64.wrap (x.2.2.1 + x_1.2.2.1) ∧ IntKind.i64.wrap (x.2.2.1 + x_1.2.2.1) < (↑(List.length x_1.2.1) : Int) ∧ (0 : Int) ≤ IntKind.i64.wrap (x.2.2.1 + x_1.2.2.1) ∧ IntKind.i64.wrap (x.2.2.1 + x_1.2.2.1) < (↑(List.length x_1.2.1) : Int) ∧ (Pl.okM (arD q) ∧ Pl.inQ (Pl.qA (arD q)) (Pl.mul (Pl.qA (arD q)) (rd i64 x.2.1 (IntKind.i64.wrap (IntKind.i64.wrap (x.2.2.1 + (↑b.length : Int)) - (1 : Int)))) (Pl.inv (Pl.qA (arD q)) (rd i64 b (IntKind.i64.wrap ((↑b.length : Int) - (1 : Int)))))) ∧ Pl.inQ (Pl.qA (arD q)) (rd i64 b x_1.2.2.1)) ∧ (Pl.okA (arD q) ∧ Pl.inQ (Pl.qA (arD q)) (rd i64 x_1.2.1 (IntKind.i64.wrap (x.2.2.1 + x_1.2.2.1))) ∧ Pl.inQ (Pl.qA (arD q)) (Pl.mul (Pl.qA (arD q)) (Pl.mul (Pl.qA (arD q)) (rd i64 x.2.1 (IntKind.i64.wrap (IntKind.i64.wrap (x.2.2.1 + (↑b.length : Int)) - (1 : Int)))) (Pl.inv (Pl.qA (arD q)) (rd i64 b (IntKind.i64.wrap ((↑b.length : Int) - (1 : Int)))))) (rd i64 b x_1.2.2.1))) ∧ (0 : Int) ≤ IntKind.i64.wrap (x.2.2.1 + x_1.2.2.1) ∧ IntKind.i64.wrap (x.2.2.1 + x_1.2.2.1) < (↑(List.length x_1.2.1) : Int) ∧ (0 : Int) ≤ IntKind.i64.wrap (x.2.2.1 + x_1.2.2.1) ∧ IntKind.i64.wrap (x.2.2.1 + x_1.2.2.1) < (↑(List.length x_1.2.1) : Int) ∧ G_1 (x_1.1, List.set x_1.2.1 (IntKind.i64.wrap (x.2.2.1 + x_1.2.2.1)).toNat (Pl.sub (Pl.qA (arD q)) (rd i64 x_1.2.1 (IntKind.i64.wrap (x.2.2.1 + x_1.2.2.1))) (Pl.mul (Pl.qA (arD q)) (Pl.mul (Pl.qA (arD q)) (rd i64 x.2.1 (IntKind.i64.wrap (IntKind.i64.wrap (x.2.2.1 + (↑b.length : Int)) - (1 : Int)))) (Pl.inv (Pl.qA (arD q)) (rd i64 b (IntKind.i64.wrap ((↑b.length : Int) - (1 : Int)))))) (rd i64 b x_1.2.2.1))), IntKind.i64.wrap (x_1.2.2.1 + (1 : Int)), ())) (G (x_1.1, x_1.2.1, IntKind.i64.wrap (x.2.2.1 - (1 : Int)), ()))) n (List.set x.1 (Int.toNat x.2.2.1) (Pl.mul (Pl.qA (arD q)) (rd i64 x.2.1 (IntKind.i64.wrap (IntKind.i64.wrap (x.2.2.1 + (↑b.length : Int)) - (1 : Int)))) (Pl.inv (Pl.qA (arD q)) (rd i64 b (IntKind.i64.wrap ((↑b.length : Int) - (1 : Int)))))), x.2.1, (0 : Int), ())) (x.1.length ≤ (1000000000 : Nat) ∧ List.length x.2.1 ≤ (1000000000 : Nat) ∧ (Pl.trim x.1, Pl.trim x.2.1, ()) = C116.post (fieldD q, p, b, ()))) n (List.replicate (IntKind.i64.wrap (IntKind.i64.wrap ((↑p.length : Int) - (↑b.length : Int)) + (1 : Int))).toNat (0 : Int), p, IntKind.i64.wrap ((↑(List.replicate (IntKind.i64.wrap (IntKind.i64.wrap ((↑p.length : Int) - (↑b.length : Int)) + (1 : Int))).toNat (0 : Int)).length : Int) - (1 : Int)), ()))) (by kernel_rfl) ?_
 have hpo : C116.post (fieldD q, p, b, ()) = ((Pl.ovr q p b).1, (Pl.ovr q p b).2, ()) := rfl
 rw [hpo, qA_ar hq]
 have oA := okA_ar hq
 have oM : Pl.okM (arD q) := ⟨q, hq, .inl rfl⟩
 have e1 : IntKind.i64.wrap ((b.length : Int) - 1) = ((b.length - 1 : Nat) : Int) := by rw [wrap_i64 (by omega) (by omega)]; omega
 have e3 : rd i64 b ((b.length - 1 : Nat) : Int) = Pl.top b := rd_i b _
 rw [e1, e3]
 have hti : Pl.inQ q (Pl.top b) := getD_inQ hb (by omega)
 have hk := inv_inQ hq (Pl.top b)
 refine ⟨by omega, Br_of (fun h => ?_) (fun h => ?_)⟩
 ·have h : p.length < b.length := by have := of_decide_eq_true h; omega
  unfold Pl.ovr
  rw [decide_eq_true h]; rfl
 ·have h : b.length ≤ p.length := by have := of_decide_eq_false h; omega
  have e2 : IntKind.i64.wrap (IntKind.i64.wrap ((p.length : Int) - (b.length : Int)) + 1) = ((p.length - b.length + 1 : Nat) : Int) := by rw [wrap_i64 (x := (p.length : Int) - b.length) (by omega) (by omega), wrap_i64 (by omega) (by omega)]; omega
  have e4 : IntKind.i64.wrap (((List.replicate (p.length - b.length + 1) (0 : Int)).length : Int) - 1) = ((p.length - b.length + 1 : Nat) : Int) - 1 := by rw [List.length_replicate, wrap_i64 (by omega) (by omega)]
  rw [e2, Int.toNat_natCast, e4]
  refine ⟨by omega, rfl, by omega, by omega, by omega, ⟨oA, hti, hbt⟩, ?_⟩
  have z0 : ∀ x ∈ List.replicate (p.length - b.length + 1) (0 : Int), Pl.inQ q x := fun x hx => by rw [(List.mem_replicate.1 hx).2]; exact zero_inQ hq
  refine itl_rule (fun s => ∃ (i : Nat) (o r : List Int), s = (o, r, (i : Int) - 1, ()) ∧ i ≤ p.length - b.length + 1 ∧ o.length = p.length - b.length + 1 ∧ r.length = p.length ∧ (∀ x ∈ o, Pl.inQ q x) ∧ (∀ x ∈ r, Pl.inQ q x) ∧
   Pl.dvL q b (Pl.inv q (Pl.top b)) i o r = Pl.dvL q b (Pl.inv q (Pl.top b)) (p.length - b.length + 1) (List.replicate (p.length - b.length + 1) 0) p) (fun s => (s.2.2.1 + 1).toNat)
   ⟨_, _, _, rfl, Nat.le_refl _, List.length_replicate, rfl, z0, hp, rfl⟩ ?_
  rintro x G ⟨i, o, r, rfl, hi, ho, hr, io, ir, hd⟩ hG
  simp only
  refine Br_of (fun h1 => ?_) (fun h1 => ?_)
  ·obtain ⟨i, rfl⟩ : ∃ j, i = j + 1 := ⟨i - 1, by have := of_decide_eq_true h1; omega⟩
   rw [show ((i + 1 : Nat) : Int) - 1 = (i : Int) by omega] at hG ⊢
   have e5 : IntKind.i64.wrap (IntKind.i64.wrap ((i : Int) + (b.length : Int)) - 1) = ((i + b.length - 1 : Nat) : Int) := by rw [wrap_i64 (x := (i : Int) + b.length) (by omega) (by omega), wrap_i64 (by omega) (by omega)]; omega
   rw [e5, rd_i, Int.toNat_natCast]
   rw [Pl.dvL] at hd
   have hri : Pl.inQ q (r.getD (i + b.length - 1) 0) := getD_inQ ir (by omega)
   have hc := mul_inQ hq (r.getD (i + b.length - 1) 0) (Pl.inv q (Pl.top b))
   generalize Pl.mul q (r.getD (i + b.length - 1) 0) (Pl.inv q (Pl.top b)) = c at *
   refine ⟨by omega, by omega, by omega, by omega, ⟨oM, hri, hk⟩, by omega, by omega, by omega, by omega, ?_⟩
   refine itl_rule (fun s => ∃ j : Nat, s = (o.set i c, Pl.dst q b c i j r, (j : Int), ()) ∧ j ≤ b.length) (fun s => ((b.length : Int) - s.2.2.1).toNat) ⟨0, rfl, Nat.zero_le _⟩ ?_
   rintro x G1 ⟨j, rfl, hj⟩ hG1
   simp only
   obtain ⟨d1, d2⟩ := dst_ok hq (b := b) (c := c) (i := i) j ir
   refine Br_of (fun h2 => ?_) (fun h2 => ?_)
   ·have h2 : j < b.length := by have := of_decide_eq_true h2; omega
    have e6 : IntKind.i64.wrap ((i : Int) + (j : Int)) = ((i + j : Nat) : Int) := by rw [wrap_i64 (by omega) (by omega)]; omega
    rw [e6, rd_i, rd_i, Int.toNat_natCast, wrap_i64 (x := (j : Int) + 1) (by omega) (by omega)]
    exact ⟨by omega, by omega, by omega, by omega, by omega, by omega, ⟨oM, hc, getD_inQ hb h2⟩, ⟨oA, getD_inQ d2 (by omega), mul_inQ hq _ _⟩, by omega, by omega, by omega, by omega, hG1 _ ⟨j + 1, rfl, h2⟩ (by simp only; omega)⟩
   ·have h2 : j = b.length := by have := of_decide_eq_false h2; omega
    subst h2
    rw [wrap_i64 (by omega) (by omega)]
    refine hG _ ⟨i, _, _, rfl, by omega, by rw [List.length_set]; exact ho, by rw [d1]; exact hr, fun x hx => ?_, d2, hd⟩ (by simp only; omega)
    rcases List.mem_or_eq_of_mem_set hx with hx | rfl
    ·exact io x hx
    ·exact hc
  ·have h1 : i = 0 := by have := of_decide_eq_false h1; omega
   subst h1
   rw [Pl.dvL] at hd
   refine ⟨by omega, by omega, ?_⟩
   unfold Pl.ovr
   rw [decide_eq_false (show ¬ p.length < b.length by omega), ← hd]; rfl
theorem snd116 : Sound Try.prog 116 C116 := fn_sound (T := T116) (fn := Try.f116) (tokF ⟨snd123, snd143, trivial⟩) Try.func116 (by kernel_rfl) H116 vc116 (by kernel_rfl) (hC := ⟨fun x hx => ⟨okF_nr hx.1, rfl, rfl, trivial⟩, fun x hx => ⟨rfl, rfl, trivial⟩⟩)
theorem vc72 : ∀ x, C72.pre x → VC T72 H72 Try.f72 C72 x := by
 rintro ⟨⟨(q : Int), (p0 : Int), (k : Int), (m0 : Int), ⟨⟩⟩, (p : List Int), (b : List Int), ⟨⟩⟩ ⟨(h0 : Pl.okr _), (hp : Pl.pol q p), (hb : Pl.pol q b), (hb0 : 0 < b.length)⟩
 obtain ⟨hq, _, _, _⟩ := okr_open h0
 refine cast (α := mal ([] : XS) (0 : Nat) ∧ ((↑(mrow ([] : XS) (0 : Nat)).length : Int) + (↑p.length : Int)) * (8 : Int) ≤ (140737488355328 : Int) ∧ Br (decide ((↑p.length : Int) < (↑b.length : Int))) (mal (mnew (mkill [] (0 : Nat)) (mrow ([] : XS) (0 : Nat) ++ p)) (([] : XS).length + (1 : Nat)) ∧ ([], mrow (mnew (mkill [] (0 : Nat)) (mrow ([] : XS) (0 : Nat) ++ p)) (([] : XS).length + (1 : Nat)), ()) = C72.post ((q, p0, k, m0, ()), p, b, ())) ((0 : Int) ≤ IntKind.i64.wrap ((↑b.length : Int) - (1 : Int)) ∧ IntKind.i64.wrap ((↑b.length : Int) - (1 : Int)) < (↑b.length : Int) ∧ (Pl.okr (q, p0, k, m0, ()) ∧ Pl.inQ q (rd i64 b (IntKind.i64.wrap ((↑b.length : Int) - (1 : Int))))) ∧ (0 : Int) ≤ IntKind.i64.wrap (IntKind.i64.wrap ((↑p.length : Int) - (↑b.length : Int)) + (1 : Int)) ∧ IntKind.i64.wrap (IntKind.i64.wrap ((↑p.length : Int) - (↑b.length : Int)) + (1 : Int)) = IntKind.i64.wrap (IntKind.i64.wrap ((↑p.length : Int) - (↑b.length : Int)) + (1 : Int)) ∧ IntKind.i64.wrap (IntKind.i64.wrap ((↑p.length : Int) - (↑b.length : Int)) + (1 : Int)) * (8 : Int) ≤ (140737488355328 : Int) ∧ ∃ (n : Nat), itl (fun (G : Nat × List Int × List (Option (List Int)) × PUnit → Prop) (x : Nat × List Int × List (Option (List Int)) × PUnit) => mal x.2.2.1 x.1 ∧ Br (decide ((↑(mrow x.2.2.1 x.1).length : Int) ≥ (↑b.length : Int))) (mal x.2.2.1 x.1 ∧ mal x.2.2.1 x.1 ∧ mal x.2.2.1 x.1 ∧ (0 : Int) ≤ IntKind.i64.wrap ((↑(mrow x.2.2.1 x.1).length : Int) - (1 : Int)) ∧ IntKind.i64.wrap ((↑(mrow x.2.2.1 x.1).length : Int) - (1 : Int)) < (↑(mrow x.2.2.1 x.1).length : Int) ∧ mal x.2.2.1 x.1 ∧ (0 : Int) ≤ IntKind.i64.wrap ((↑(mrow x.2.2.1 x.1).length : Int) - (1 : Int)) ∧ IntKind.i64.wrap ((↑(mrow x.2.2.1 x.1).length : Int) - (1 : Int)) < (↑(mrow x.2.2.1 x.1).length : Int) ∧ (Pl.okr (q, p0, k, m0, ()) ∧ Pl.inQ q (rd i64 (mrow x.2.2.1 x.1) (IntKind.i64.wrap ((↑(mrow x.2.2.1 x.1).length : Int) - (1 : Int)))) ∧ Pl.inQ q (Pl.inv q (rd i64 b (IntKind.i64.wrap ((↑b.length : Int) - (1 : Int)))))) ∧ (0 : Int) ≤ IntKind.i64.wrap ((↑(mrow x.2.2.1 x.1).length : Int) - (↑b.length : Int)) ∧ IntKind.i64.wrap ((↑(mrow x.2.2.1 x.1).length : Int) - (↑b.length : Int)) < (↑(List.length x.2.1) : Int) ∧ (0 : Int) ≤ IntKind.i64.wrap ((↑(mrow x.2.2.1 x.1).length : Int) - (↑b.length : Int)) ∧ IntKind.i64.wrap ((↑(mrow x.2.2.1 x.1).length : Int) - (↑b.length : Int)) < (↑(List.length x.2.1) : Int) ∧ ∃ (n : Nat), itl (fun (G_1 : List Int × Int × List (Option (List Int)) × PUnit → Prop) (x_1 : List Int × Int × List (Option (List Int)) × PUnit) => Br (decide (x_1.2.1 < (↑b.length : Int))) (mal x_1.2.2.1 x.1 ∧ (0 : Int) ≤ IntKind.i64.wrap (IntKind.i64.wrap ((↑(mrow x.2.2.1 x.1).length : Int) - (↑b.length : Int)) + x_1.2.1) ∧ IntKind.i64.wrap (IntKind.i64.wrap ((↑(mrow x.2.2.1 x.1).length : Int) - (↑b.length : Int)) + x_1.2.1) < (↑(mrow x_1.2.2.1 x.1).length : Int) ∧ mal x_1.2.2.1 x.1 ∧ (0 : Int) ≤ IntKind.i64.wrap (IntKind.i64.wrap ((↑(mrow x.2.2.1 x.1).length : Int) - (↑b.length : Int)) + x_1.2.1) ∧ IntKind.i64.wrap (IntKind.i64.wrap ((↑(mrow x.2.2.1 x.1).length : Int) - (↑b.length : Int)) + x_1.2.1) < (↑(mrow x_1.2.2.1 x.1).length : Int) ∧ (0 : Int) ≤ x_1.2.1 ∧ x_1.2.1 < (↑b.length : Int) ∧ (Pl.okr (q, p0, k, m0, ()) ∧ Pl.inQ q (Pl.mul q (rd i64 (mrow x.2.2.1 x.1) (IntKind.i64.wrap ((↑(mrow x.2.2.1 x.1).length : Int) - (1 : Int)))) (Pl.inv q (rd i64 b (IntKind.i64.wrap ((↑b.length : Int) - (1 : Int)))))) ∧ Pl.inQ q (rd i64 b x_1.2.1)) ∧ (Pl.okr (q, p0, k, m0, ()) ∧ Pl.inQ q (rd i64 (mrow x_1.2.2.1 x.1) (IntKind.i64.wrap (IntKind.i64.wrap ((↑(mrow x.2.2.1 x.1).length : Int) - (↑b.length : Int)) + x_1.2.1))) ∧ Pl.inQ q (Pl.mul q (Pl.mul q (rd i64 (mrow x.2.2.1 x.1) (IntKind.i64.wrap ((↑(mrow x.2.2.1 x.1).length : Int) - (1 : Int)))) (Pl.inv q (rd i64 b (IntKind.i64.wrap ((↑b.length : Int) - (1 : Int)))))) (rd i64 b x_1.2.1))) ∧ mal x_1.2.2.1 x.1 ∧ (0 : Int) ≤ IntKind.i64.wrap (IntKind.i64.wrap ((↑(mrow x.2.2.1 x.1).length : Int) - (↑b.length : Int)) + x_1.2.1) ∧ IntKind.i64.wrap (IntKind.i64.wrap ((↑(mrow x.2.2.1 x.1).length : Int) - (↑b.length : Int)) + x_1.2.1) < (↑(mrow x_1.2.2.1 x.1).length : Int) ∧ mal x_1.2.2.1 x.1 ∧ (0 : Int) ≤ IntKind.i64.wrap (IntKind.i64.wrap ((↑(mrow x.2.2.1 x.1).length : Int) - (↑b.length : Int)) + x_1.2.1) ∧ IntKind.i64.wrap (IntKind.i64.wrap ((↑(mrow x.2.2.1 x.1).length : Int) - (↑b.length : Int)) + x_1.2.1) < (↑(mrow x_1.2.2.1 x.1).length : Int) ∧ G_1 (x_1.1, IntKind.i64.wrap (x_1.2.1 + (1 : Int)), mset x_1.2.2.1 x.1 ((mrow x_1.2.2.1 x.1).set (IntKind.i64.wrap (IntKind.i64.wrap ((↑(mrow x.2.2.1 x.1).length : Int) - (↑b.length : Int)) + x_1.2.1)).toNat (Pl.sub q (rd i64 (mrow x_1.2.2.1 x.1) (IntKind.i64.wrap (IntKind.i64.wrap ((↑(mrow x.2.2.1 x.1).length : Int) - (↑b.length : Int)) + x_1.2.1))) (Pl.mul q (Pl.mul q (rd i64 (mrow x.2.2.1 x.1) (IntKind.i64.wrap ((↑(mrow x.2.2.1 x.1).length : Int) - (1 : Int)))) (Pl.inv q (rd i64 b (IntKind.i64.wrap ((↑b.length : Int) - (1 : Int)))))) (rd i64 b x_1.2.1)))), ())) ((mal x_1.2.2.1 x.1 ∧ Pl.len9 (mrow x_1.2.2.1 x.1)) ∧ G (Pl.trmJ x_1.2.2.1 x.1, x_1.1, Pl.trmM x_1.2.2.1 x.1, ()))) n (List.set x.2.1 (IntKind.i64.wrap ((↑(mrow x.2.2.1 x.1).length : Int) - (↑b.length : Int))).toNat (Pl.mul q (rd i64 (mrow x.2.2.1 x.1) (IntKind.i64.wrap ((↑(mrow x.2.2.1 x.1).length : Int) - (1 : Int)))) (Pl.inv q (rd i64 b (IntKind.i64.wrap ((↑b.length : Int) - (1 : Int)))))), (0 : Int), x.2.2)) (mal x.2.2.1 x.1 ∧ (x.2.1, mrow x.2.2.1 x.1, ()) = C72.post ((q, p0, k, m0, ()), p, b, ()))) n (([] : XS).length + (1 : Nat), List.replicate (IntKind.i64.wrap (IntKind.i64.wrap ((↑p.length : Int) - (↑b.length : Int)) + (1 : Int))).toNat (0 : Int), mnew (mkill [] (0 : Nat)) (mrow ([] : XS) (0 : Nat) ++ p), ()))) (by kernel_rfl) ?_
 have hpo : C72.post ((q, p0, k, m0, ()), p, b, ()) = ((Pl.ovr q p b).1, (Pl.ovr q p b).2, ()) := rfl
 rw [hpo]
 have lp := hp.2.1
 have lb := hb.2.1
 have e1 : IntKind.i64.wrap ((b.length : Int) - 1) = ((b.length - 1 : Nat) : Int) := by rw [wrap_i64 (by omega) (by omega)]; omega
 have e3 : rd i64 b ((b.length - 1 : Nat) : Int) = Pl.top b := rd_i b _
 rw [e1, e3]
 have hti : Pl.inQ q (Pl.top b) := getD_inQ hb.1 (by omega)
 have hk := inv_inQ hq (Pl.top b)
 have hm0 : mnew (mkill ([] : XS) 0) (mrow ([] : XS) 0 ++ p) = [some p] := rfl
 rw [hm0]
 have hl0 : (mrow ([] : XS) 0).length = 0 := rfl
 refine ⟨trivial, by omega, Br_of (fun h => ?_) (fun h => ?_)⟩
 ·have h : p.length < b.length := by have := of_decide_eq_true h; omega
  refine ⟨⟨p, rfl⟩, ?_⟩
  unfold Pl.ovr
  rw [decide_eq_true h]; rfl
 ·have h : b.length ≤ p.length := by have := of_decide_eq_false h; omega
  have e2 : IntKind.i64.wrap (IntKind.i64.wrap ((p.length : Int) - (b.length : Int)) + 1) = ((p.length - b.length + 1 : Nat) : Int) := by rw [wrap_i64 (x := (p.length : Int) - b.length) (by omega) (by omega), wrap_i64 (by omega) (by omega)]; omega
  rw [e2, Int.toNat_natCast]
  refine ⟨by omega, by omega, ⟨h0, hti⟩, by omega, rfl, by omega, ?_⟩
  refine itl_rule (fun s => ∃ (j : Nat) (o : List Int) (ms : XS), s = (j, o, ms, ()) ∧ mal ms j ∧ Pl.Dv q b (Pl.inv q (Pl.top b)) p.length (Pl.dvL q b (Pl.inv q (Pl.top b)) (p.length - b.length + 1) (List.replicate (p.length - b.length + 1) 0) p) o (mrow ms j)) (fun s => (mrow s.2.2.1 s.1).length)
   ⟨1, _, _, rfl, ⟨p, rfl⟩, Dv_start hq hp hb h _⟩ ?_
  rintro x G ⟨j, o, ms, rfl, hm, hD⟩ hG
  simp only at hG ⊢
  have hrl := hD.rl
  have hol := hD.ol
  have hrp := hD.rp
  refine ⟨hm, Br_of (fun h1 => ?_) (fun h1 => ?_)⟩
  ·have h1 : b.length ≤ (mrow ms j).length := by have := of_decide_eq_true h1; omega
   have hj0 : 0 < j := by
    cases j with
    | zero => have : (mrow ms 0).length = 0 := rfl; omega
    | succ j => omega
   have e5 : IntKind.i64.wrap (((mrow ms j).length : Int) - 1) = (((mrow ms j).length - 1 : Nat) : Int) := by rw [wrap_i64 (by omega) (by omega)]; omega
   have e6 : IntKind.i64.wrap (((mrow ms j).length : Int) - (b.length : Int)) = (((mrow ms j).length - b.length : Nat) : Int) := by rw [wrap_i64 (by omega) (by omega)]; omega
   have e7 : rd i64 (mrow ms j) (((mrow ms j).length - 1 : Nat) : Int) = Pl.top (mrow ms j) := rd_i _ _
   rw [e5, e6, e7, Int.toNat_natCast]
   have hrt : Pl.inQ q (Pl.top (mrow ms j)) := getD_inQ hrp.1 (by omega)
   obtain ⟨hD', hlt⟩ := Dv_step hq hb hb0 hD h1
   have hc := mul_inQ hq (Pl.top (mrow ms j)) (Pl.inv q (Pl.top b))
   generalize Pl.mul q (Pl.top (mrow ms j)) (Pl.inv q (Pl.top b)) = c at *
   refine ⟨hm, hm, hm, by omega, by omega, hm, by omega, by omega, ⟨h0, hrt, hk⟩, by omega, by omega, by omega, by omega, ?_⟩
   refine itl_rule (fun s => ∃ (i : Nat) (ms' : XS), s = (o.set ((mrow ms j).length - b.length) c, (i : Int), ms', ()) ∧ i ≤ b.length ∧ mal ms' j ∧ mrow ms' j = Pl.dst q b c ((mrow ms j).length - b.length) i (mrow ms j)) (fun s => ((b.length : Int) - s.2.1).toNat) ⟨0, ms, rfl, Nat.zero_le _, hm, rfl⟩ ?_
   rintro x G1 ⟨i, ms', rfl, hi, hm', hr'⟩ hG1
   simp only
   obtain ⟨d1, d2⟩ := dst_ok hq (b := b) (c := c) (i := (mrow ms j).length - b.length) i hrp.1
   refine Br_of (fun h2 => ?_) (fun h2 => ?_)
   ·have h2 : i < b.length := by have := of_decide_eq_true h2; omega
    have e8 : IntKind.i64.wrap ((((mrow ms j).length - b.length : Nat) : Int) + (i : Int)) = (((mrow ms j).length - b.length + i : Nat) : Int) := by rw [wrap_i64 (by omega) (by omega)]; omega
    rw [e8, rd_i, rd_i, Int.toNat_natCast, wrap_i64 (x := (i : Int) + 1) (by omega) (by omega), hr', d1]
    obtain ⟨k1, k2⟩ := mset_at (xs := Pl.dst q b c ((mrow ms j).length - b.length) (i + 1) (mrow ms j)) hm' hj0
    exact ⟨hm', by omega, by omega, hm', by omega, by omega, by omega, by omega, ⟨h0, hc, getD_inQ hb.1 h2⟩, ⟨h0, getD_inQ d2 (by omega), mul_inQ hq _ _⟩, hm', by omega, by omega, hm', by omega, by omega, hG1 _ ⟨i + 1, _, rfl, h2, k1, k2⟩ (by simp only; omega)⟩
   ·have h2 : i = b.length := by have := of_decide_eq_false h2; omega
    subst h2
    obtain ⟨t1, t2⟩ := trm_row hm'
    refine ⟨⟨hm', by unfold Pl.len9; rw [hr', d1]; omega⟩, hG _ ⟨_, _, _, rfl, t1, ?_⟩ ?_⟩
    ·rw [t2, hr']; exact hD'
    ·simp only
     rw [t2, hr']; omega
  ·have h1 : (mrow ms j).length < b.length := by have := of_decide_eq_false h1; omega
   refine ⟨hm, ?_⟩
   rw [Dv_end hq hb hb0 h hD h1]
theorem snd72 : Sound Try.prog 72 C72 := fn_sound (T := T72) (fn := Try.f72) (tokg (T := T72) ⟨snd99, snd35, snd33, trivial⟩ ⟨snd112p, trivial⟩ trivial noInv noCv) Try.func72 (by kernel_rfl) H72 vc72 (by kernel_rfl)
end Fd
end
section
set_option linter.unusedVariables false
set_option linter.unusedSimpArgs false
set_option maxRecDepth 100000
namespace Fd
open Go Fw Go.Proofs

def Pl.most (n : Int) : Prop := 0 ≤ n ∧ n ≤ 1000
def C26 : Con := ⟨[G4, L, I], [L], fun (x : R4 × List Int × Int × Unit) => Pl.okr x.1 ∧ Pl.most x.2.2.1, fun (x : R4 × List Int × Int × Unit) => ((x.2.1.take x.2.2.1.toNat).map (· % x.1.1), ()), some 3⟩
def H26 : Hints := ⟨[], [(1, [3])], [(0, ⟨[1, 2, 3], [(7, so), (8, si)]⟩)], [], []⟩
def T26 : Ctx := TT [(29, C29)]
abbrev sR : Sh := .box [I, I, I, I]
end Fd
end
section
set_option linter.unusedVariables false
set_option linter.unusedSimpArgs false
set_option maxRecDepth 100000
namespace Fd
open Go Fw Go.Proofs

theorem map_snoc {l : List Int} (f : Int → Int) {i k : Nat} (hi : i < l.length) (hk : i < k) : ((l.take k).take i).map f ++ [f (l.getD i 0)] = ((l.take k).take (i + 1)).map f := by
 have hi' : i < (l.take k).length := by rw [List.length_take]; omega
 rw [List.take_succ_eq_append_getElem hi', List.map_append, List.getElem_take, List.getD_eq_getElem?_getD, List.getElem?_eq_getElem hi]; rfl
theorem vc26 : ∀ x, C26.pre x → VC T26 H26 Try.f26 C26 x := by
 rintro ⟨⟨(q : Int), (p : Int), (k : Int), (m0 : Int), ⟨⟩⟩, (l : List Int), (n : Int), ⟨⟩⟩ ⟨(h0 : Pl.okr _), (n0 : 0 ≤ n), (n1 : n ≤ 1000)⟩
 obtain ⟨hq, _, _, _⟩ := okr_open h0
 refine cast (α := ∃ (n_1 : Nat), itl (fun (G : List Int × Int × PUnit → Prop) (x : List Int × Int × PUnit) => Br (decide (x.2.1 < (↑l.length : Int))) (Br (decide (x.2.1 < n)) ((0 : Int) ≤ x.2.1 ∧ x.2.1 < (↑l.length : Int) ∧ Pl.okr (q, p, k, m0, ()) ∧ ((↑(List.length x.1) : Int) + (↑[rd i64 l x.2.1 % q].length : Int)) * (8 : Int) ≤ (140737488355328 : Int) ∧ G (List.append x.1 [rd i64 l x.2.1 % q], IntKind.i64.wrap (x.2.1 + (1 : Int)), ())) ((x.1, ()) = C26.post ((q, p, k, m0, ()), l, n, ()))) ((x.1, ()) = C26.post ((q, p, k, m0, ()), l, n, ()))) n_1 ([], (0 : Int), ())) (by kernel_rfl) ?_
 obtain ⟨u, rfl⟩ : ∃ u : Nat, n = u := ⟨n.toNat, by omega⟩
 have hp : C26.post ((q, p, k, m0, ()), l, (u : Int), ()) = ((l.take u).map (· % q), ()) := rfl
 rw [hp]
 refine itl_rule (fun s => ∃ i : Nat, s.2.1 = (i : Int) ∧ i ≤ l.length ∧ i ≤ u ∧ s.1 = ((l.take u).take i).map (· % q)) (fun s => ((u : Int) - s.2.1).toNat) ⟨0, rfl, Nat.zero_le _, Nat.zero_le _, rfl⟩ ?_
 rintro ⟨out, i0, ⟨⟩⟩ G ⟨i, e, hi, hu, ho⟩ hG
 simp only at e ho hG ⊢
 subst e ho
 refine Br_of (fun h => Br_of (fun h1 => ?_) (fun h1 => ?_)) (fun h => ?_)
 ·have h : i < l.length := by have := of_decide_eq_true h; omega
  have h1 : i < u := by have := of_decide_eq_true h1; omega
  rw [rd_i, wrap_i64 (by omega) (by omega)]
  exact ⟨by omega, by omega, h0, by simp only [List.length_singleton, List.length_map, List.length_take]; omega, hG _ ⟨i + 1, rfl, by omega, by omega, map_snoc (· % q) h h1⟩ (by simp only; omega)⟩
 ·have h1 : i = u := by have := of_decide_eq_false h1; omega
  subst h1
  rw [List.take_take, Nat.min_self]
 ·have h : i = l.length := by have := of_decide_eq_false h; omega
  subst h
  rw [List.take_take, Nat.min_eq_left hu, List.take_length, List.take_of_length_le hu]
theorem snd26 : Sound Try.prog 26 C26 := fn_sound (T := T26) (fn := Try.f26) (tok0 ⟨snd29, trivial⟩) Try.func26 (by kernel_rfl) H26 vc26 (by kernel_rfl)
end Fd
end
section
set_option linter.unusedVariables false
set_option linter.unusedSimpArgs false
set_option linter.unusedSectionVars false
set_option maxRecDepth 100000
namespace Fd
open Go Fw Go.Proofs

def Pl.mnc (q : Int) (p : List Int) : List Int := bif decide (p.length = 0) then [] else Pl.trim (Pl.prod q p [Pl.inv q (Pl.top p)])
def C145 : Con := ⟨[.raw, L], [L], fun (x : DL) => Pl.okF x.1 ∧ Pl.pol (Pl.qF x.1) x.2.1, fun (x : DL) => (Pl.mnc (Pl.qF x.1) x.2.1, ()), none⟩
def T145 : Ctx := TF [(107, C107)]
def Pl.gcdL (q : Int) : Nat → List Int → List Int → List Int
 | 0, p, _ => p
 | f + 1, p, b => bif decide (b.length = 0) then p else Pl.gcdL q f b (Pl.ovr q p b).2
def Pl.gcd (q : Int) (p b : List Int) : List Int := Pl.mnc q (Pl.gcdL q (b.length + 1) p b)
def C115 : Con := ⟨[.raw, L, L], [L], fun (x : DLL) => Pl.okF x.1 ∧ Pl.pol (Pl.qF x.1) x.2.1 ∧ Pl.pol (Pl.qF x.1) x.2.2.1, fun (x : DLL) => (Pl.gcd (Pl.qF x.1) x.2.1 x.2.2.1, ()), none⟩
def H115 : Hints := lo [(0, ⟨[0], [(1, sl), (2, sl)]⟩)]
def T115 : Ctx := TT [(116, C116), (145, C145)]
def C110 : Con := ⟨[G4, L, I], [L], fun (x : R4 × List Int × Int × Unit) => Pl.okr x.1 ∧ (∀ y ∈ x.2.1, Pl.inQ x.1.1 y) ∧ x.2.1.length ≤ 1000000 ∧ Pl.inQ x.1.1 x.2.2.1, fun (x : R4 × List Int × Int × Unit) => (Pl.trim (x.2.1.map fun a => Pl.mul x.1.1 a x.2.2.1), ()), none⟩
def H110 : Hints := ⟨[], [(1, [3]), (6, [1000007])], [(0, ⟨[1, 2, 3], [(7, so), (8, si)]⟩)], [], []⟩
def T110 : Ctx := TT [(35, C35), (112, C112)]
def C70 : Con := ⟨[G4, L, L], [L], fun (x : R4 × List Int × List Int × Unit) => Pl.okr x.1 ∧ Pl.pol x.1.1 x.2.1 ∧ Pl.pol x.1.1 x.2.2.1, fun (x : R4 × List Int × List Int × Unit) => (Pl.gcd x.1.1 x.2.1 x.2.2.1, ()), none⟩
def H70 : Hints := ⟨[], [(6, [1000003])], [(0, ⟨[], [(1, sl), (2, sl), (3, sR)]⟩)], [], []⟩
def T70 : Ctx := TT [(72, C72), (99, C99), (110, C110)]
def Pl.poly (q : Int) (l : List Int) (n : Nat) : List Int := Pl.trim ((l.take n).map (· % q))
def C64 : Con := ⟨[G4, L, I], [L], fun (x : R4 × List Int × Int × Unit) => Pl.okr x.1 ∧ Pl.most x.2.2.1, fun (x : R4 × List Int × Int × Unit) => (Pl.poly x.1.1 x.2.1 x.2.2.1.toNat, ()), none⟩
def T64 : Ctx := TT [(26, C26), (112, C112)]
def Pl.okC (x : DLL) : Prop := Pl.okF x.1 ∧ Pl.chk (Pl.qF x.1) x.2.1 = 0 ∧ Pl.chk (Pl.qF x.1) x.2.2.1 = 0
def C65v : Con := ⟨[.raw, L, I], [I, I], fun (x : D × List Int × Int × Unit) => Pl.okF x.1 ∧ Pl.chk (Pl.qF x.1) x.2.1 = 0, fun (x : D × List Int × Int × Unit) => (Pl.val (Pl.qF x.1) x.2.1 (x.2.2.1 % Pl.qF x.1), 0, ()), none⟩
def C66v : Con := ⟨[.raw, L, L], [L, I], fun (x : DLL) => Pl.okC x, fun (x : DLL) => (Pl.trim (Pl.prod (Pl.qF x.1) x.2.1 x.2.2.1), 0, ()), none⟩
def C67v : Con := ⟨[.raw, L, L], [L, I], fun (x : DLL) => Pl.okC x, fun (x : DLL) => (Pl.gcd (Pl.qF x.1) x.2.1 x.2.2.1, 0, ()), none⟩
def Pl.dive (q : Int) (p b : List Int) : List Int × List Int × Int := bif decide (b.length = 0) then ([], [], 6) else ((Pl.ovr q p b).1, (Pl.ovr q p b).2, 0)
def C71v : Con := ⟨[.raw, L, L], [L, L, I], fun (x : DLL) => Pl.okC x, fun (x : DLL) => ((Pl.dive (Pl.qF x.1) x.2.1 x.2.2.1).1, (Pl.dive (Pl.qF x.1) x.2.1 x.2.2.1).2.1, (Pl.dive (Pl.qF x.1) x.2.1 x.2.2.1).2.2, ()), none⟩
def T66v : Ctx := TT [(114, C114), (107, C107)]
def T67v : Ctx := TT [(114, C114), (115, C115)]
def T71v : Ctx := TT [(114, C114), (116, C116)]
abbrev I2 : Ar := .ty (.pair i64 (.pair i64 .unit))
def C13 : Con := ⟨[I2, L, L], [B], fun _ => True, fun _ => (true, ()), none⟩
def T13 : Ctx := TT [(19, C19), (64, C64), (65, C65v), (66, C66v), (67, C67v), (71, C71v), (29, C29), (68, C68), (69, C69), (70, C70), (72, C72), (50, C50), (24, C24)]
end Fd
end
section
set_option linter.unusedVariables false
set_option linter.unusedSimpArgs false
set_option linter.unusedSectionVars false
set_option maxRecDepth 100000
namespace Fd
open Go Fw Go.Proofs

theorem pol_1 {q : Int} (hq : isQ q) (x : Int) : ∀ y ∈ [Pl.inv q x], Pl.inQ q y := fun y hy => by rw [List.mem_singleton.1 hy]; exact inv_inQ hq _
theorem vc145 : ∀ x, C145.pre x → VC T145 H0 Try.f145 C145 x := by
 rintro ⟨v, (p : List Int), ⟨⟩⟩ ⟨⟨q, hq, (rfl : v = _)⟩, hP⟩
 have hP : Pl.pol (Pl.qF (fieldD q)) p := hP
 rw [qF_d] at hP
 refine cast (α := Br ((↑p.length : Int) == (0 : Int)) (([], ()) = C145.post (fieldD q, p, ())) ((0 : Int) ≤ IntKind.i64.wrap ((↑p.length : Int) - (1 : Int)) ∧ IntKind.i64.wrap ((↑p.length : Int) - (1 : Int)) < (↑p.length : Int) ∧ (Pl.okA (arD q) ∧ Pl.inQ (Pl.qA (arD q)) (rd i64 p (IntKind.i64.wrap ((↑p.length : Int) - (1 : Int)))) ∧ rd i64 p (IntKind.i64.wrap ((↑p.length : Int) - (1 : Int))) ≠ (0 : Int)) ∧ (Pl.okF (D.rptr (fieldC q)) ∧ Pl.okPr (Pl.qF (D.rptr (fieldC q))) p [Pl.inv (Pl.qA (arD q)) (rd i64 p (IntKind.i64.wrap ((↑p.length : Int) - (1 : Int))))]) ∧ (Pl.trim (Pl.prod (Pl.qF (D.rptr (fieldC q))) p [Pl.inv (Pl.qA (arD q)) (rd i64 p (IntKind.i64.wrap ((↑p.length : Int) - (1 : Int))))]), ()) = C145.post (fieldD q, p, ()))) (by kernel_rfl) ?_
 have hpo : C145.post (fieldD q, p, ()) = (Pl.mnc q p, ()) := rfl
 rw [hpo, qA_ar hq, qF_f]
 obtain ⟨h1, h2, h3⟩ := hP
 refine Br_of (fun h => ?_) (fun h => ?_)
 ·have h : p.length = 0 := by have := eq_of_beq h; omega
  unfold Pl.mnc; rw [decide_eq_true h]; rfl
 ·have h : p.length ≠ 0 := fun e => by rw [e] at h; simp at h
  have e1 : IntKind.i64.wrap ((p.length : Int) - 1) = ((p.length - 1 : Nat) : Int) := by rw [wrap_i64 (by omega) (by omega)]; omega
  have e3 : rd i64 p ((p.length - 1 : Nat) : Int) = Pl.top p := rd_i p _
  rw [e1, e3]
  refine ⟨by omega, by omega, ⟨okA_ar hq, getD_inQ h1 (by omega), h3 (by omega)⟩, ⟨okF_f hq, h1, pol_1 hq _, h2, by simp⟩, ?_⟩
  unfold Pl.mnc; rw [decide_eq_false h]; rfl
theorem snd145 : Sound Try.prog 145 C145 := fn_sound (T := T145) (fn := Try.f145) (tokF ⟨snd107, trivial⟩) Try.func145 (by kernel_rfl) H0 vc145 (by kernel_rfl) (hC := nrcL (fun x h => h.1) fun x h => ⟨rfl, trivial⟩)
theorem gcd_go {q : Int} {f : Nat} {p b : List Int} (h : 0 < b.length) : Pl.gcdL q (f + 1) p b = Pl.gcdL q f b (Pl.ovr q p b).2 := by
 rw [Pl.gcdL, decide_eq_false (show ¬ b.length = 0 by omega)]; rfl
theorem gcd_fuel {q : Int} (hq : isQ q) : ∀ (n f g : Nat) (p b : List Int), b.length ≤ n → Pl.pol q p → Pl.pol q b → b.length < f → b.length < g → Pl.gcdL q f p b = Pl.gcdL q g p b
 | n, 0, g, p, b, _, _, _, h, _ => by omega
 | n, f, 0, p, b, _, _, _, _, h => by omega
 | n, f + 1, g + 1, p, b, hn, hp, hb, hf, hg => by
  by_cases h : b.length = 0
  ·rw [Pl.gcdL, Pl.gcdL, decide_eq_true h]; rfl
  ·rw [gcd_go (by omega), gcd_go (by omega)]
   obtain ⟨r1, r2⟩ := ovr_ok hq hp hb (by omega)
   match n, hn with
   | 0, hn => omega
   | n + 1, hn => exact gcd_fuel hq n f g b _ (by omega) hb r1 (by omega) (by omega)
theorem vc115 : ∀ x, C115.pre x → VC T115 H115 Try.f115 C115 x := by
 rintro ⟨v, (p : List Int), (b : List Int), ⟨⟩⟩ ⟨⟨q, hq, (rfl : v = _)⟩, hp, hb⟩
 have hp : Pl.pol (Pl.qF (fieldD q)) p := hp
 have hb : Pl.pol (Pl.qF (fieldD q)) b := hb
 rw [qF_d] at hp hb
 refine cast (α := ∃ (n : Nat), itl (fun (G : List Int × List Int × PUnit → Prop) (x : List Int × List Int × PUnit) => Br (decide ((↑(List.length x.2.1) : Int) > (0 : Int))) ((Pl.okF (D.rptr (fieldC q)) ∧ Pl.okPr (Pl.qF (D.rptr (fieldC q))) x.1 x.2.1 ∧ (0 : Nat) < List.length x.2.1 ∧ Pl.top x.2.1 ≠ (0 : Int)) ∧ G (x.2.1, (Pl.ovr (Pl.qF (D.rptr (fieldC q))) x.1 x.2.1).2, ())) ((Pl.okF (D.rptr (fieldC q)) ∧ Pl.pol (Pl.qF (D.rptr (fieldC q))) x.1) ∧ (Pl.mnc (Pl.qF (D.rptr (fieldC q))) x.1, ()) = C115.post (fieldD q, p, b, ()))) n (p, b, ())) (by kernel_rfl) ?_
 have hpo : C115.post (fieldD q, p, b, ()) = (Pl.gcd q p b, ()) := rfl
 rw [hpo, qF_f]
 have oF := okF_f hq
 refine itl_rule (fun s => Pl.pol q s.1 ∧ Pl.pol q s.2.1 ∧ Pl.gcdL q (s.2.1.length + 1) s.1 s.2.1 = Pl.gcdL q (b.length + 1) p b) (fun s => s.2.1.length) ⟨hp, hb, rfl⟩ ?_
 rintro ⟨a, c, ⟨⟩⟩ G ⟨h1, h2, h3⟩ hG
 simp only at h1 h2 h3 hG ⊢
 refine Br_of (fun h => ?_) (fun h => ?_)
 ·have h : 0 < c.length := by have := of_decide_eq_true h; omega
  obtain ⟨r1, r2⟩ := ovr_ok hq h1 h2 h
  rw [gcd_go h] at h3
  exact ⟨⟨oF, ⟨h1.1, h2.1, h1.2.1, h2.2.1⟩, h, h2.2.2 h⟩, hG _ ⟨h2, r1, by rw [← h3]; exact gcd_fuel hq _ _ _ _ _ (Nat.le_refl _) h2 r1 (by omega) r2⟩ r2⟩
 ·have h : c.length = 0 := by have := of_decide_eq_false h; omega
  rw [Pl.gcdL, decide_eq_true h, cond_true] at h3
  refine ⟨⟨oF, h1⟩, ?_⟩
  unfold Pl.gcd
  rw [← h3]
theorem snd115 : Sound Try.prog 115 C115 := fn_sound (T := T115) (fn := Try.f115) (tok0 ⟨snd116, snd145, trivial⟩) Try.func115 (by kernel_rfl) H115 vc115 (by kernel_rfl) (hC := nrcLL (fun x h => h.1) fun x h => ⟨rfl, trivial⟩)
theorem vc110 : ∀ x, C110.pre x → VC T110 H110 Try.f110 C110 x := by
 rintro ⟨⟨(q : Int), (p0 : Int), (k : Int), (m0 : Int), ⟨⟩⟩, (p : List Int), (c : Int), ⟨⟩⟩ ⟨(h0 : Pl.okr _), (hp : ∀ y ∈ p, Pl.inQ q y), (lp : p.length ≤ 1000000), (hc : Pl.inQ q c)⟩
 obtain ⟨hq, _, _, _⟩ := okr_open h0
 refine cast (α := ∃ (n : Nat), itl (fun (G : List Int × Int × PUnit → Prop) (x : List Int × Int × PUnit) => Br (decide (x.2.1 < (↑p.length : Int))) ((0 : Int) ≤ x.2.1 ∧ x.2.1 < (↑p.length : Int) ∧ (Pl.okr (q, p0, k, m0, ()) ∧ Pl.inQ q (rd i64 p x.2.1) ∧ Pl.inQ q c) ∧ ((↑(List.length x.1) : Int) + (↑[Pl.mul q (rd i64 p x.2.1) c].length : Int)) * (8 : Int) ≤ (140737488355328 : Int) ∧ G (List.append x.1 [Pl.mul q (rd i64 p x.2.1) c], IntKind.i64.wrap (x.2.1 + (1 : Int)), ())) (Pl.len9 x.1 ∧ (Pl.trim x.1, ()) = C110.post ((q, p0, k, m0, ()), p, c, ()))) n ([], (0 : Int), ())) (by kernel_rfl) ?_
 have hpo : C110.post ((q, p0, k, m0, ()), p, c, ()) = (Pl.trim (p.map fun a => Pl.mul q a c), ()) := rfl
 rw [hpo]
 refine itl_rule (fun s => ∃ i : Nat, s.2.1 = (i : Int) ∧ i ≤ p.length ∧ s.1 = (p.take i).map fun a => Pl.mul q a c) (fun s => ((p.length : Int) - s.2.1).toNat) ⟨0, rfl, Nat.zero_le _, rfl⟩ ?_
 rintro ⟨o, i0, ⟨⟩⟩ G ⟨i, e, hi, ho⟩ hG
 simp only at e ho hG ⊢
 subst e ho
 refine Br_of (fun h => ?_) (fun h => ?_)
 ·have h : i < p.length := by have := of_decide_eq_true h; omega
  rw [rd_i, wrap_i64 (by omega) (by omega)]
  refine ⟨by omega, by omega, ⟨h0, getD_inQ hp h, hc⟩, by simp only [List.length_map, List.length_take, List.length_singleton]; omega, hG _ ⟨i + 1, rfl, h, ?_⟩ (by simp only; omega)⟩
  rw [List.take_succ_eq_append_getElem h, List.map_append, List.getD_eq_getElem?_getD, List.getElem?_eq_getElem h]; rfl
 ·have h : i = p.length := by have := of_decide_eq_false h; omega
  subst h
  rw [List.take_length]
  exact ⟨by unfold Pl.len9; rw [List.length_map]; omega, rfl⟩
theorem snd110 : Sound Try.prog 110 C110 := fn_sound (T := T110) (fn := Try.f110) (tok0 ⟨snd35, snd112, trivial⟩) Try.func110 (by kernel_rfl) H110 vc110 (by kernel_rfl)
theorem prow_one {q : Int} (a : List Int) (c : Int) (i : Nat) (o : List Int) : Pl.prow q a [c] i 1 o = o.set i (Pl.add q (o.getD i 0) (Pl.mul q (a.getD i 0) c)) := rfl
theorem prws_one {q : Int} (hq : isQ q) {a : List Int} (ha : ∀ x ∈ a, Pl.inQ q x) (c : Int) : ∀ i, i ≤ a.length → Pl.prws q a [c] i = (a.take i).map (fun x => Pl.mul q x c) ++ List.replicate (a.length - i) 0
 | 0, _ => by rw [Pl.prws]; simp
 | i + 1, h => by
  rw [Pl.prws, prws_one hq ha c i (by omega)]
  show Pl.prow q a [c] i 1 _ = _
  have hlen : ((a.take i).map (fun x => Pl.mul q x c)).length = i := by rw [List.length_map, List.length_take]; omega
  obtain ⟨k, hk⟩ : ∃ k, a.length - i = k + 1 := ⟨a.length - i - 1, by omega⟩
  rw [prow_one, hk, show a.length - (i + 1) = k by omega]
  have e1 : ((a.take i).map (fun x => Pl.mul q x c) ++ List.replicate (k + 1) (0 : Int)).getD i 0 = 0 := pad_0 hq (by omega)
  rw [e1, List.set_append_right _ _ (by omega), hlen, Nat.sub_self, List.replicate_succ, List.set_cons_zero, List.take_succ_eq_append_getElem (by omega), List.map_append, List.append_assoc]
  have e2 : Pl.add q 0 (Pl.mul q (a.getD i 0) c) = Pl.mul q a[i] c := by
   have hin := mul_inQ hq (a.getD i 0) c
   have : Pl.add q 0 (Pl.mul q (a.getD i 0) c) = Pl.mul q (a.getD i 0) c := congrArg KQ.v (show (0 : KQ hq) + ⟨_, hin⟩ = ⟨_, hin⟩ by grind)
   rw [this, List.getD_eq_getElem?_getD, List.getElem?_eq_getElem (show i < a.length by omega)]; rfl
  rw [e2]; rfl
theorem prod_one {q : Int} (hq : isQ q) {a : List Int} (ha : ∀ x ∈ a, Pl.inQ q x) (c : Int) : Pl.prod q a [c] = a.map fun x => Pl.mul q x c := by
 unfold Pl.prod
 by_cases h : a.length = 0
 ·rw [decide_eq_true h, List.length_eq_zero_iff.1 h]; rfl
 ·rw [decide_eq_false h, decide_eq_false (show ¬ [c].length = 0 by simp)]
  show Pl.prws q a [c] a.length = _
  rw [prws_one hq ha c a.length (Nat.le_refl _), List.take_length, Nat.sub_self, List.replicate_zero, List.append_nil]
theorem mnc_map {q : Int} (hq : isQ q) {p : List Int} (hp : Pl.pol q p) (h : p.length ≠ 0) : Pl.mnc q p = Pl.trim (p.map fun a => Pl.mul q a (Pl.inv q (Pl.top p))) := by
 unfold Pl.mnc
 rw [decide_eq_false h, cond_false, prod_one hq hp.1]
theorem vc70 : ∀ x, C70.pre x → VC T70 H70 Try.f70 C70 x := by
 rintro ⟨⟨(q : Int), (p0 : Int), (k : Int), (m0 : Int), ⟨⟩⟩, (p : List Int), (b : List Int), ⟨⟩⟩ ⟨(h0 : Pl.okr _), (hp : Pl.pol q p), (hb : Pl.pol q b)⟩
 obtain ⟨hq, _, _, _⟩ := okr_open h0
 refine cast (α := ∃ (n : Nat), itl (fun (G : List Int × List Int × (Int × Int × Int × Int × PUnit) × PUnit → Prop) (x : List Int × List Int × (Int × Int × Int × Int × PUnit) × PUnit) => Br (decide ((↑(List.length x.2.1) : Int) > (0 : Int))) ((Pl.okr x.2.2.1 ∧ Pl.pol x.2.2.1.1 x.1 ∧ Pl.pol x.2.2.1.1 x.2.1 ∧ (0 : Nat) < List.length x.2.1) ∧ G (x.2.1, (Pl.ovr x.2.2.1.1 x.1 x.2.1).2, x.2.2)) (Br ((↑(List.length x.1) : Int) == (0 : Int)) (([], ()) = C70.post ((q, p0, k, m0, ()), p, b, ())) ((0 : Int) ≤ IntKind.i64.wrap ((↑(List.length x.1) : Int) - (1 : Int)) ∧ IntKind.i64.wrap ((↑(List.length x.1) : Int) - (1 : Int)) < (↑(List.length x.1) : Int) ∧ (Pl.okr x.2.2.1 ∧ Pl.inQ x.2.2.1.1 (rd i64 x.1 (IntKind.i64.wrap ((↑(List.length x.1) : Int) - (1 : Int))))) ∧ (Pl.okr x.2.2.1 ∧ (∀ (y : Int), y ∈ x.1 → Pl.inQ x.2.2.1.1 y) ∧ x.1.length ≤ (1000000 : Nat) ∧ Pl.inQ x.2.2.1.1 (Pl.inv x.2.2.1.1 (rd i64 x.1 (IntKind.i64.wrap ((↑(List.length x.1) : Int) - (1 : Int)))))) ∧ (Pl.trim (List.map (fun (a : Int) => Pl.mul x.2.2.1.1 a (Pl.inv x.2.2.1.1 (rd i64 x.1 (IntKind.i64.wrap ((↑(List.length x.1) : Int) - (1 : Int)))))) x.1), ()) = C70.post ((q, p0, k, m0, ()), p, b, ())))) n (p, b, (q, p0, k, m0, ()), ())) (by kernel_rfl) ?_
 have hpo : C70.post ((q, p0, k, m0, ()), p, b, ()) = (Pl.gcd q p b, ()) := rfl
 rw [hpo]
 refine itl_rule (fun s => Pl.pol q s.1 ∧ Pl.pol q s.2.1 ∧ s.2.2.1 = (q, p0, k, m0, ()) ∧ Pl.gcdL q (s.2.1.length + 1) s.1 s.2.1 = Pl.gcdL q (b.length + 1) p b) (fun s => s.2.1.length) ⟨hp, hb, rfl, rfl⟩ ?_
 rintro ⟨a, c, f, ⟨⟩⟩ G ⟨h1, h2, hf, h3⟩ hG
 simp only at h1 h2 hf h3 hG ⊢
 subst hf
 simp only
 refine Br_of (fun h => ?_) (fun h => ?_)
 ·have h : 0 < c.length := by have := of_decide_eq_true h; omega
  obtain ⟨r1, r2⟩ := ovr_ok hq h1 h2 h
  rw [gcd_go h] at h3
  exact ⟨⟨h0, h1, h2, h⟩, hG _ ⟨h2, r1, rfl, by rw [← h3]; exact gcd_fuel hq _ _ _ _ _ (Nat.le_refl _) h2 r1 (by omega) r2⟩ r2⟩
 ·have h : c.length = 0 := by have := of_decide_eq_false h; omega
  rw [Pl.gcdL, decide_eq_true h, cond_true] at h3
  have hg : Pl.gcd q p b = Pl.mnc q a := by unfold Pl.gcd; rw [← h3]
  rw [hg]
  refine Br_of (fun h4 => ?_) (fun h4 => ?_)
  ·have h4 : a.length = 0 := by have := eq_of_beq h4; omega
   unfold Pl.mnc; rw [decide_eq_true h4]; rfl
  ·have h4 : a.length ≠ 0 := fun e => by rw [e] at h4; simp at h4
   have l1 := h1.2.1
   have e1 : IntKind.i64.wrap ((a.length : Int) - 1) = ((a.length - 1 : Nat) : Int) := by rw [wrap_i64 (by omega) (by omega)]; omega
   have e3 : rd i64 a ((a.length - 1 : Nat) : Int) = Pl.top a := rd_i a _
   rw [e1, e3, mnc_map hq h1 h4]
   exact ⟨by omega, by omega, ⟨h0, getD_inQ h1.1 (by omega)⟩, ⟨h0, h1.1, l1, inv_inQ hq _⟩, rfl⟩
theorem snd70 : Sound Try.prog 70 C70 := fn_sound (T := T70) (fn := Try.f70) (tok0 ⟨snd72, snd99, snd110, trivial⟩) Try.func70 (by kernel_rfl) H70 vc70 (by kernel_rfl)
theorem vc64 : ∀ x, C64.pre x → VC T64 ⟨[], [(1, [3])], [], [], []⟩ Try.f64 C64 x := by
 rintro ⟨⟨(q : Int), (p0 : Int), (k : Int), (m0 : Int), ⟨⟩⟩, (l : List Int), (n : Int), ⟨⟩⟩ ⟨(h0 : Pl.okr _), (hn : Pl.most n)⟩
 refine cast (α := (Pl.okr (q, p0, k, m0, ()) ∧ Pl.most n) ∧ Pl.len9 (List.map (fun (x : i64.El) => x % q) (List.take n.toNat l)) ∧ (Pl.trim (List.map (fun (x : i64.El) => x % q) (List.take n.toNat l)), ()) = C64.post ((q, p0, k, m0, ()), l, n, ())) (by kernel_rfl) ?_
 exact ⟨⟨h0, hn⟩, by unfold Pl.len9; rw [List.length_map, List.length_take]; have := hn.2; have := hn.1; omega, rfl⟩
theorem snd64 : Sound Try.prog 64 C64 := fn_sound (T := T64) (fn := Try.f64) (tok0 ⟨snd26, snd112, trivial⟩) Try.func64 (by kernel_rfl) ⟨[], [(1, [3])], [], [], []⟩ vc64 (by kernel_rfl)
theorem both_0 {q : Int} {l r : List Int} (h1 : Pl.chk q l = 0) (h2 : Pl.chk q r = 0) : Pl.both q l r = 0 := by unfold Pl.both; rw [h1, h2]; rfl
theorem chk_len {q : Int} {l : List Int} (h : Pl.chk q l = 0) : Pl.len9 l := by have := (chk_in h).1; unfold Pl.len9; omega
theorem chk_pol {q : Int} {l : List Int} (h : Pl.chk q l = 0) : Pl.pol q l := by obtain ⟨a, b, c⟩ := chk_in h; exact ⟨b, by omega, c⟩
theorem els_all {q : Int} {l : List Int} (h : ∀ x ∈ l, Pl.inQ q x) : Pl.els q l = true := by
 unfold Pl.els
 rw [List.all_eq_true]
 intro x hx
 obtain ⟨a, b⟩ := h x hx
 rw [decide_eq_true a, decide_eq_true b]; rfl
theorem pol_chk {q : Int} {l : List Int} (h : Pl.pol q l) (hl : l.length ≤ 200) : Pl.chk q l = 0 := chk_ok (by omega) (els_all h.1) h.2.2
theorem snd65v : Sound Try.prog 65 C65v := snd_less snd65 (fun x h => ⟨h.1, chk_len h.2⟩) fun x h => by
 obtain ⟨v, l, x, ⟨⟩⟩ := x
 have h : Pl.chk (Pl.qF v) l = 0 := h.2
 show encs [I, I] ((Pl.vale (Pl.qF v) l x).1, (Pl.vale (Pl.qF v) l x).2, ()) = encs [I, I] (Pl.val (Pl.qF v) l (x % Pl.qF v), (0 : Int), ())
 unfold Pl.vale
 rw [decide_eq_false (not_not_intro h)]; rfl
theorem vc66v : ∀ x, C66v.pre x → VC T66v H0 Try.f66 C66v x := by
 rintro ⟨v, (l : List Int), (r : List Int), ⟨⟩⟩ ⟨⟨q, hq, (rfl : v = _)⟩, (hl : Pl.chk (Pl.qF (fieldD q)) l = 0), (hr : Pl.chk (Pl.qF (fieldD q)) r = 0)⟩
 rw [qF_d] at hl hr
 refine cast (α := (Pl.okF (D.rptr (fieldC q)) ∧ Pl.len9 l ∧ Pl.len9 r) ∧ Br (Pl.both (Pl.qF (D.rptr (fieldC q))) l r != (0 : Int)) (([], Pl.both (Pl.qF (D.rptr (fieldC q))) l r, ()) = C66v.post (fieldD q, l, r, ())) ((Pl.okF (D.rptr (fieldC q)) ∧ Pl.okPr (Pl.qF (D.rptr (fieldC q))) l r) ∧ (Pl.trim (Pl.prod (Pl.qF (D.rptr (fieldC q))) l r), (0 : Int), ()) = C66v.post (fieldD q, l, r, ()))) (by kernel_rfl) ?_
 have hp : C66v.post (fieldD q, l, r, ()) = (Pl.trim (Pl.prod q l r), 0, ()) := rfl
 rw [hp, qF_f, both_0 hl hr]
 have a := chk_pol hl
 have b := chk_pol hr
 exact ⟨⟨okF_f hq, chk_len hl, chk_len hr⟩, Br_of (fun h => absurd h (by simp)) (fun _ => ⟨⟨okF_f hq, a.1, b.1, a.2.1, b.2.1⟩, rfl⟩)⟩
theorem vc67v : ∀ x, C67v.pre x → VC T67v H0 Try.f67 C67v x := by
 rintro ⟨v, (l : List Int), (r : List Int), ⟨⟩⟩ ⟨⟨q, hq, (rfl : v = _)⟩, (hl : Pl.chk (Pl.qF (fieldD q)) l = 0), (hr : Pl.chk (Pl.qF (fieldD q)) r = 0)⟩
 rw [qF_d] at hl hr
 refine cast (α := (Pl.okF (D.rptr (fieldC q)) ∧ Pl.len9 l ∧ Pl.len9 r) ∧ Br (Pl.both (Pl.qF (D.rptr (fieldC q))) l r != (0 : Int)) (([], Pl.both (Pl.qF (D.rptr (fieldC q))) l r, ()) = C67v.post (fieldD q, l, r, ())) ((Pl.okF (D.rptr (fieldC q)) ∧ Pl.pol (Pl.qF (D.rptr (fieldC q))) l ∧ Pl.pol (Pl.qF (D.rptr (fieldC q))) r) ∧ (Pl.gcd (Pl.qF (D.rptr (fieldC q))) l r, (0 : Int), ()) = C67v.post (fieldD q, l, r, ()))) (by kernel_rfl) ?_
 have hp : C67v.post (fieldD q, l, r, ()) = (Pl.gcd q l r, 0, ()) := rfl
 rw [hp, qF_f, both_0 hl hr]
 exact ⟨⟨okF_f hq, chk_len hl, chk_len hr⟩, Br_of (fun h => absurd h (by simp)) (fun _ => ⟨⟨okF_f hq, chk_pol hl, chk_pol hr⟩, rfl⟩)⟩
theorem vc71v : ∀ x, C71v.pre x → VC T71v H0 Try.f71 C71v x := by
 rintro ⟨v, (l : List Int), (r : List Int), ⟨⟩⟩ ⟨⟨q, hq, (rfl : v = _)⟩, (hl : Pl.chk (Pl.qF (fieldD q)) l = 0), (hr : Pl.chk (Pl.qF (fieldD q)) r = 0)⟩
 rw [qF_d] at hl hr
 refine cast (α := (Pl.okF (D.rptr (fieldC q)) ∧ Pl.len9 l ∧ Pl.len9 r) ∧ Br (Pl.both (Pl.qF (D.rptr (fieldC q))) l r != (0 : Int)) (([], [], Pl.both (Pl.qF (D.rptr (fieldC q))) l r, ()) = C71v.post (fieldD q, l, r, ())) (Br ((↑r.length : Int) == (0 : Int)) (([], [], (6 : Int), ()) = C71v.post (fieldD q, l, r, ())) ((Pl.okF (D.rptr (fieldC q)) ∧ Pl.okPr (Pl.qF (D.rptr (fieldC q))) l r ∧ (0 : Nat) < r.length ∧ Pl.top r ≠ (0 : Int)) ∧ ((Pl.ovr (Pl.qF (D.rptr (fieldC q))) l r).1, (Pl.ovr (Pl.qF (D.rptr (fieldC q))) l r).2, (0 : Int), ()) = C71v.post (fieldD q, l, r, ())))) (by kernel_rfl) ?_
 have hp : C71v.post (fieldD q, l, r, ()) = ((Pl.dive q l r).1, (Pl.dive q l r).2.1, (Pl.dive q l r).2.2, ()) := rfl
 rw [hp, qF_f, both_0 hl hr]
 have a := chk_pol hl
 have b := chk_pol hr
 refine ⟨⟨okF_f hq, chk_len hl, chk_len hr⟩, Br_of (fun h => absurd h (by simp)) (fun _ => Br_of (fun h => ?_) (fun h => ?_))⟩
 ·have h : r.length = 0 := by have := eq_of_beq h; omega
  unfold Pl.dive; rw [decide_eq_true h]; rfl
 ·have h : r.length ≠ 0 := fun e => by rw [e] at h; simp at h
  refine ⟨⟨okF_f hq, ⟨a.1, b.1, a.2.1, b.2.1⟩, by omega, b.2.2 (by omega)⟩, ?_⟩
  unfold Pl.dive; rw [decide_eq_false h]; rfl
theorem snd66v : Sound Try.prog 66 C66v := fn_sound (T := T66v) (fn := Try.f66) (tok0 ⟨snd114, snd107, trivial⟩) Try.func66 (by kernel_rfl) H0 vc66v (by kernel_rfl) (hC := nrcLL (fun x h => h.1) fun x h => ⟨rfl, trivial, trivial⟩)
theorem snd67v : Sound Try.prog 67 C67v := fn_sound (T := T67v) (fn := Try.f67) (tok0 ⟨snd114, snd115, trivial⟩) Try.func67 (by kernel_rfl) H0 vc67v (by kernel_rfl) (hC := nrcLL (fun x h => h.1) fun x h => ⟨rfl, trivial, trivial⟩)
theorem snd71v : Sound Try.prog 71 C71v := fn_sound (T := T71v) (fn := Try.f71) (tok0 ⟨snd114, snd116, trivial⟩) Try.func71 (by kernel_rfl) H0 vc71v (by kernel_rfl) (hC := nrcLL (fun x h => h.1) fun x h => ⟨rfl, rfl, trivial, trivial⟩)
end Fd
end
section
set_option linter.unusedVariables false
set_option linter.unusedSimpArgs false
set_option linter.unusedSectionVars false
set_option maxRecDepth 100000
namespace Fd
open Go Fw Go.Proofs

theorem prow_len {q : Int} {a b : List Int} (i : Nat) : ∀ (k : Nat) (out : List Int), (Pl.prow q a b i k out).length = out.length
 | 0, _ => rfl
 | k + 1, out => by rw [Pl.prow, Pl.pst, List.length_set]; exact prow_len i k out
theorem prod_pol {q : Int} (hq : isQ q) {a b : List Int} (ha : Pl.pol q a) (hb : Pl.pol q b) : Pl.trim (Pl.prod q a b) = Pl.prod q a b := by
 refine trim_eq fun h => ?_
 by_cases h1 : a.length = 0
 ·unfold Pl.prod at h; rw [decide_eq_true h1] at h; exact absurd h (by simp)
 by_cases h2 : b.length = 0
 ·unfold Pl.prod at h; rw [decide_eq_true h2, Bool.or_true] at h; exact absurd h (by simp)
 have hpr : Pl.prod q a b = Pl.prws q a b a.length := by unfold Pl.prod; rw [decide_eq_false h1, decide_eq_false h2]; rfl
 rw [hpr]
 unfold Pl.top
 obtain ⟨n, hn⟩ : ∃ n, a.length = n + 1 := ⟨a.length - 1, by omega⟩
 obtain ⟨k, hk⟩ : ∃ k, b.length = k + 1 := ⟨b.length - 1, by omega⟩
 have hl : (Pl.prws q a b a.length).length = a.length + b.length - 1 := (prws_ok hq a.length).1
 rw [hl, show a.length + b.length - 1 - 1 = n + k by omega, hn, Pl.prws, hk, Pl.prow, Pl.pst]
 have hlen : (Pl.prow q a b n k (Pl.prws q a b n)).length = a.length + b.length - 1 := by rw [prow_len, (prws_ok hq n).1]
 rw [List.getD_eq_getElem?_getD, List.getElem?_set_self (by omega), prow_far hq n k _ _ (Nat.le_refl _), prws_far hq (by omega) n (n + k) (by omega)]
 have hai : Pl.inQ q (a.getD n 0) := getD_inQ ha.1 (by omega)
 have hbi : Pl.inQ q (b.getD k 0) := getD_inQ hb.1 (by omega)
 have hin := mul_inQ hq (a.getD n 0) (b.getD k 0)
 have e : Pl.add q 0 (Pl.mul q (a.getD n 0) (b.getD k 0)) = Pl.mul q (a.getD n 0) (b.getD k 0) := congrArg KQ.v (show (0 : KQ hq) + ⟨_, hin⟩ = ⟨_, hin⟩ by grind)
 show Pl.add q 0 (Pl.mul q (a.getD n 0) (b.getD k 0)) ≠ 0
 rw [e]
 refine mul_ne0 hq hai hbi ?_ ?_
 ·have := ha.2.2 (by omega); unfold Pl.top at this; rwa [hn] at this
 ·have := hb.2.2 (by omega); unfold Pl.top at this; rwa [hk] at this
theorem gcd_len {q : Int} (hq : isQ q) : ∀ (f : Nat) (p b : List Int), Pl.pol q p → Pl.pol q b → Pl.pol q (Pl.gcdL q f p b)
 | 0, p, b, hp, _ => hp
 | f + 1, p, b, hp, hb => by
  by_cases h : b.length = 0
  ·rw [Pl.gcdL, decide_eq_true h]; exact hp
  ·rw [gcd_go (by omega)]
   exact gcd_len hq f b _ hb (ovr_ok hq hp hb (by omega)).1
theorem mnc_len {q : Int} (hq : isQ q) {p : List Int} (hp : Pl.pol q p) : (Pl.mnc q p).length ≤ 1000000 := by
 by_cases h : p.length = 0
 ·unfold Pl.mnc; rw [decide_eq_true h]; exact Nat.zero_le _
 ·rw [mnc_map hq hp h, trim_len, List.length_map]
  exact Nat.le_trans (trimN_le _ _) hp.2.1
theorem ovr_1 {q : Int} (hq : isQ q) {p b : List Int} (hp : Pl.pol q p) (hb : Pl.pol q b) : (Pl.ovr q p b).1.length ≤ p.length + 1 := by
 unfold Pl.ovr
 rcases Nat.lt_or_ge p.length b.length with h | h
 ·rw [decide_eq_true h]; exact Nat.zero_le _
 ·rw [decide_eq_false (by omega), cond_false]
  have := (dvL_ok hq (b := b) (k := Pl.inv q (Pl.top b)) (p.length - b.length + 1) (o := List.replicate (p.length - b.length + 1) 0) (r := p) (fun x hx => by rw [(List.mem_replicate.1 hx).2]; exact zero_inQ hq) hp.1).1.1
  show (Pl.trim _).length ≤ _
  rw [trim_len]
  have := trimN_le (Pl.dvL q b (Pl.inv q (Pl.top b)) (p.length - b.length + 1) (List.replicate (p.length - b.length + 1) 0) p).1 (Pl.dvL q b (Pl.inv q (Pl.top b)) (p.length - b.length + 1) (List.replicate (p.length - b.length + 1) 0) p).1.length
  rw [List.length_replicate] at *
  omega
theorem same_self (a : List Int) : Pl.same a a = true := decide_eq_true rfl
theorem Br_ns {a : List Int} {p r : Prop} (h : r) : Br (!Pl.same a a) p r := Br_of (fun e => by rw [same_self] at e; cases e) (fun _ => h)
theorem Br_s {a : List Int} {p r : Prop} (h : p) : Br (Pl.same a a) p r := Br_of (fun _ => h) (fun e => by rw [same_self] at e; cases e)
theorem vc13 : ∀ x, C13.pre x → VC T13 H0 Try.f13 C13 x := by
 rintro ⟨⟨(o : Int), (a : Int), ⟨⟩⟩, (l : List Int), (m : List Int), ⟨⟩⟩ -
 refine cast (α := True ∧ (Pl.okr (Pl.someQ o (2000 : Int), Pl.lpf (Pl.someQ o (2000 : Int)), Pl.K (Pl.someQ o (2000 : Int)), Pl.Mod (Pl.someQ o (2000 : Int)), ()) ∧ Pl.most (12 : Int)) ∧ (Pl.okr (Pl.someQ o (2000 : Int), Pl.lpf (Pl.someQ o (2000 : Int)), Pl.K (Pl.someQ o (2000 : Int)), Pl.Mod (Pl.someQ o (2000 : Int)), ()) ∧ Pl.most (12 : Int)) ∧ (Pl.okF (D.rptr (fieldC (Pl.someQ o (2000 : Int)))) ∧ Pl.chk (Pl.qF (D.rptr (fieldC (Pl.someQ o (2000 : Int))))) (Pl.poly (Pl.someQ o (2000 : Int)) l (Int.toNat (12 : Int))) = (0 : Int)) ∧ Pl.okC (D.rptr (fieldC (Pl.someQ o (2000 : Int))), Pl.poly (Pl.someQ o (2000 : Int)) l (Int.toNat (12 : Int)), Pl.poly (Pl.someQ o (2000 : Int)) m (Int.toNat (12 : Int)), ()) ∧ Pl.okC (D.rptr (fieldC (Pl.someQ o (2000 : Int))), Pl.poly (Pl.someQ o (2000 : Int)) l (Int.toNat (12 : Int)), Pl.poly (Pl.someQ o (2000 : Int)) m (Int.toNat (12 : Int)), ()) ∧ Pl.okr (Pl.someQ o (2000 : Int), Pl.lpf (Pl.someQ o (2000 : Int)), Pl.K (Pl.someQ o (2000 : Int)), Pl.Mod (Pl.someQ o (2000 : Int)), ()) ∧ (Pl.okr (Pl.someQ o (2000 : Int), Pl.lpf (Pl.someQ o (2000 : Int)), Pl.K (Pl.someQ o (2000 : Int)), Pl.Mod (Pl.someQ o (2000 : Int)), ()) ∧ Pl.okPx (Pl.someQ o (2000 : Int)) (Pl.poly (Pl.someQ o (2000 : Int)) l (Int.toNat (12 : Int))) (a % Pl.someQ o (2000 : Int))) ∧ Br (Pl.val (Pl.qF (D.rptr (fieldC (Pl.someQ o (2000 : Int))))) (Pl.poly (Pl.someQ o (2000 : Int)) l (Int.toNat (12 : Int))) (a % Pl.qF (D.rptr (fieldC (Pl.someQ o (2000 : Int))))) != Pl.val (Pl.someQ o (2000 : Int)) (Pl.poly (Pl.someQ o (2000 : Int)) l (Int.toNat (12 : Int))) (a % Pl.someQ o (2000 : Int))) ((false, ()) = C13.post ((o, a, ()), l, m, ())) ((Pl.okr (Pl.someQ o (2000 : Int), Pl.lpf (Pl.someQ o (2000 : Int)), Pl.K (Pl.someQ o (2000 : Int)), Pl.Mod (Pl.someQ o (2000 : Int)), ()) ∧ Pl.okPr (Pl.someQ o (2000 : Int)) (Pl.poly (Pl.someQ o (2000 : Int)) l (Int.toNat (12 : Int))) (Pl.poly (Pl.someQ o (2000 : Int)) m (Int.toNat (12 : Int)))) ∧ (Pl.trim (Pl.prod (Pl.qF (D.rptr (fieldC (Pl.someQ o (2000 : Int))))) (Pl.poly (Pl.someQ o (2000 : Int)) l (Int.toNat (12 : Int))) (Pl.poly (Pl.someQ o (2000 : Int)) m (Int.toNat (12 : Int))))).length ≤ (1000000000 : Nat) ∧ Br (!Pl.same (Pl.trim (Pl.prod (Pl.qF (D.rptr (fieldC (Pl.someQ o (2000 : Int))))) (Pl.poly (Pl.someQ o (2000 : Int)) l (Int.toNat (12 : Int))) (Pl.poly (Pl.someQ o (2000 : Int)) m (Int.toNat (12 : Int))))) (Pl.prod (Pl.someQ o (2000 : Int)) (Pl.poly (Pl.someQ o (2000 : Int)) l (Int.toNat (12 : Int))) (Pl.poly (Pl.someQ o (2000 : Int)) m (Int.toNat (12 : Int))))) ((false, ()) = C13.post ((o, a, ()), l, m, ())) ((Pl.okr (Pl.someQ o (2000 : Int), Pl.lpf (Pl.someQ o (2000 : Int)), Pl.K (Pl.someQ o (2000 : Int)), Pl.Mod (Pl.someQ o (2000 : Int)), ()) ∧ Pl.pol (Pl.someQ o (2000 : Int)) (Pl.poly (Pl.someQ o (2000 : Int)) l (Int.toNat (12 : Int))) ∧ Pl.pol (Pl.someQ o (2000 : Int)) (Pl.poly (Pl.someQ o (2000 : Int)) m (Int.toNat (12 : Int)))) ∧ (Pl.gcd (Pl.qF (D.rptr (fieldC (Pl.someQ o (2000 : Int))))) (Pl.poly (Pl.someQ o (2000 : Int)) l (Int.toNat (12 : Int))) (Pl.poly (Pl.someQ o (2000 : Int)) m (Int.toNat (12 : Int)))).length ≤ (1000000000 : Nat) ∧ Br (!Pl.same (Pl.gcd (Pl.qF (D.rptr (fieldC (Pl.someQ o (2000 : Int))))) (Pl.poly (Pl.someQ o (2000 : Int)) l (Int.toNat (12 : Int))) (Pl.poly (Pl.someQ o (2000 : Int)) m (Int.toNat (12 : Int)))) (Pl.gcd (Pl.someQ o (2000 : Int)) (Pl.poly (Pl.someQ o (2000 : Int)) l (Int.toNat (12 : Int))) (Pl.poly (Pl.someQ o (2000 : Int)) m (Int.toNat (12 : Int))))) ((false, ()) = C13.post ((o, a, ()), l, m, ())) (Pl.okC (D.rptr (fieldC (Pl.someQ o (2000 : Int))), Pl.poly (Pl.someQ o (2000 : Int)) l (Int.toNat (12 : Int)), Pl.poly (Pl.someQ o (2000 : Int)) m (Int.toNat (12 : Int)), ()) ∧ Br ((↑(Pl.poly (Pl.someQ o (2000 : Int)) m (Int.toNat (12 : Int))).length : Int) == (0 : Int)) (Br ((Pl.dive (Pl.qF (D.rptr (fieldC (Pl.someQ o (2000 : Int))))) (Pl.poly (Pl.someQ o (2000 : Int)) l (Int.toNat (12 : Int))) (Pl.poly (Pl.someQ o (2000 : Int)) m (Int.toNat (12 : Int)))).2.2 == (6 : Int)) (Br ((↑(Pl.dive (Pl.qF (D.rptr (fieldC (Pl.someQ o (2000 : Int))))) (Pl.poly (Pl.someQ o (2000 : Int)) l (Int.toNat (12 : Int))) (Pl.poly (Pl.someQ o (2000 : Int)) m (Int.toNat (12 : Int)))).1.length : Int) == (0 : Int)) (Br ((↑(Pl.dive (Pl.qF (D.rptr (fieldC (Pl.someQ o (2000 : Int))))) (Pl.poly (Pl.someQ o (2000 : Int)) l (Int.toNat (12 : Int))) (Pl.poly (Pl.someQ o (2000 : Int)) m (Int.toNat (12 : Int)))).2.1.length : Int) == (0 : Int)) (True ∧ (true, ()) = C13.post ((o, a, ()), l, m, ())) ((false, ()) = C13.post ((o, a, ()), l, m, ()))) ((false, ()) = C13.post ((o, a, ()), l, m, ()))) ((false, ()) = C13.post ((o, a, ()), l, m, ()))) ((Pl.okr (Pl.someQ o (2000 : Int), Pl.lpf (Pl.someQ o (2000 : Int)), Pl.K (Pl.someQ o (2000 : Int)), Pl.Mod (Pl.someQ o (2000 : Int)), ()) ∧ Pl.pol (Pl.someQ o (2000 : Int)) (Pl.poly (Pl.someQ o (2000 : Int)) l (Int.toNat (12 : Int))) ∧ Pl.pol (Pl.someQ o (2000 : Int)) (Pl.poly (Pl.someQ o (2000 : Int)) m (Int.toNat (12 : Int))) ∧ (0 : Nat) < (Pl.poly (Pl.someQ o (2000 : Int)) m (Int.toNat (12 : Int))).length) ∧ Br ((Pl.dive (Pl.qF (D.rptr (fieldC (Pl.someQ o (2000 : Int))))) (Pl.poly (Pl.someQ o (2000 : Int)) l (Int.toNat (12 : Int))) (Pl.poly (Pl.someQ o (2000 : Int)) m (Int.toNat (12 : Int)))).2.2 == (0 : Int)) ((Pl.dive (Pl.qF (D.rptr (fieldC (Pl.someQ o (2000 : Int))))) (Pl.poly (Pl.someQ o (2000 : Int)) l (Int.toNat (12 : Int))) (Pl.poly (Pl.someQ o (2000 : Int)) m (Int.toNat (12 : Int)))).1.length ≤ (1000000000 : Nat) ∧ Br (Pl.same (Pl.dive (Pl.qF (D.rptr (fieldC (Pl.someQ o (2000 : Int))))) (Pl.poly (Pl.someQ o (2000 : Int)) l (Int.toNat (12 : Int))) (Pl.poly (Pl.someQ o (2000 : Int)) m (Int.toNat (12 : Int)))).1 (Pl.ovr (Pl.someQ o (2000 : Int)) (Pl.poly (Pl.someQ o (2000 : Int)) l (Int.toNat (12 : Int))) (Pl.poly (Pl.someQ o (2000 : Int)) m (Int.toNat (12 : Int)))).1) ((Pl.dive (Pl.qF (D.rptr (fieldC (Pl.someQ o (2000 : Int))))) (Pl.poly (Pl.someQ o (2000 : Int)) l (Int.toNat (12 : Int))) (Pl.poly (Pl.someQ o (2000 : Int)) m (Int.toNat (12 : Int)))).2.1.length ≤ (1000000000 : Nat) ∧ Br (Pl.same (Pl.dive (Pl.qF (D.rptr (fieldC (Pl.someQ o (2000 : Int))))) (Pl.poly (Pl.someQ o (2000 : Int)) l (Int.toNat (12 : Int))) (Pl.poly (Pl.someQ o (2000 : Int)) m (Int.toNat (12 : Int)))).2.1 (Pl.ovr (Pl.someQ o (2000 : Int)) (Pl.poly (Pl.someQ o (2000 : Int)) l (Int.toNat (12 : Int))) (Pl.poly (Pl.someQ o (2000 : Int)) m (Int.toNat (12 : Int)))).2) (True ∧ (true, ()) = C13.post ((o, a, ()), l, m, ())) ((false, ()) = C13.post ((o, a, ()), l, m, ()))) ((false, ()) = C13.post ((o, a, ()), l, m, ()))) ((false, ()) = C13.post ((o, a, ()), l, m, ()))))))) (by kernel_rfl) ?_
 have hq := someQ_isQ o 2000
 generalize Pl.someQ o 2000 = q at *
 rw [qF_f]
 have hr : Pl.okr (q, Pl.lpf q, Pl.K q, Pl.Mod q, ()) := okr_RF hq
 have oF := okF_f hq
 have pol : ∀ l : List Int, Pl.pol q (Pl.poly q l (Int.toNat 12)) ∧ (Pl.poly q l (Int.toNat 12)).length ≤ 12 := fun l => by
  have hin : ∀ x ∈ (l.take (Int.toNat 12)).map (· % q), Pl.inQ q x := fun x hx => by
   obtain ⟨y, _, rfl⟩ := List.mem_map.1 hx
   exact emod_inQ hq y
  have hl : ((l.take (Int.toNat 12)).map (· % q)).length ≤ 12 := by rw [List.length_map, List.length_take]; have : Int.toNat 12 = 12 := rfl; omega
  refine ⟨trim_pol hin (by omega), ?_⟩
  unfold Pl.poly
  rw [trim_len]
  exact Nat.le_trans (trimN_le _ _) hl
 obtain ⟨p1, p2⟩ := pol l
 obtain ⟨r1, r2⟩ := pol m
 generalize Pl.poly q l (Int.toNat 12) = p at *
 generalize Pl.poly q m (Int.toNat 12) = r at *
 have hp : C13.post ((o, a, ()), l, m, ()) = (true, ()) := rfl
 rw [hp]
 have c1 := pol_chk p1 (by omega)
 have c2 := pol_chk r1 (by omega)
 have oC : Pl.okC (D.rptr (fieldC q), p, r, ()) := ⟨oF, by rw [qF_f]; exact c1, by rw [qF_f]; exact c2⟩
 rw [prod_pol hq p1 r1]
 have hpl := (prod_ok hq (a := p) (b := r)).1
 have hgl := mnc_len hq (gcd_len hq (r.length + 1) p r p1 r1)
 refine ⟨trivial, ⟨hr, by omega, by omega⟩, ⟨hr, by omega, by omega⟩, ⟨oF, c1⟩, oC, oC, hr, ⟨hr, p1.1, chk_len c1, emod_inQ hq a⟩, Br_of (fun h => absurd h (by simp)) (fun _ => ⟨⟨hr, p1.1, r1.1, p1.2.1, r1.2.1⟩, by omega, Br_ns ⟨⟨hr, p1, r1⟩, Nat.le_trans hgl (by omega), Br_ns ⟨oC, ?_⟩⟩⟩)⟩
 refine Br_of (fun h => ?_) (fun h => ?_)
 ·have h : r.length = 0 := by have := eq_of_beq h; omega
  have hd : Pl.dive q p r = ([], [], 6) := by unfold Pl.dive; rw [decide_eq_true h]; rfl
  rw [hd]
  exact ⟨trivial, rfl⟩
 ·have h : r.length ≠ 0 := fun e => by rw [e] at h; simp at h
  have hd : Pl.dive q p r = ((Pl.ovr q p r).1, (Pl.ovr q p r).2, 0) := by unfold Pl.dive; rw [decide_eq_false h]; rfl
  rw [hd]
  obtain ⟨o1, o2⟩ := ovr_ok hq p1 r1 (by omega)
  have o3 := ovr_1 hq p1 r1
  exact ⟨⟨hr, p1, r1, by omega⟩, show Br true _ _ from ⟨by show (Pl.ovr q p r).1.length ≤ _; omega, Br_s ⟨by show (Pl.ovr q p r).2.length ≤ _; omega, Br_s ⟨trivial, rfl⟩⟩⟩⟩
theorem snd13 : Sound Try.prog 13 C13 := fn_sound (T := T13) (fn := Try.f13) (tok0 ⟨snd19, snd64, snd65v, snd66v, snd67v, snd71v, snd29, snd68, snd69, snd70, snd72, snd50, snd24, trivial⟩) Try.func13 (by kernel_rfl) H0 vc13 (by kernel_rfl)
end Fd
end
section
namespace Go.Proofs.Ytfhlgbgclkahnaa
open Go.ChangeShapes Go.WideShapes Go.ChangeAt Go.RowKit
set_option linter.unusedVariables false
set_option maxRecDepth 100000

theorem laidTry : laidOutB Try.prog = true := by kernel_rfl
theorem cells3 : Try.prog.cellsOf 3 = 1 := by kernel_rfl
section
variable {H : Type} {enc : TypeId × Value → H} {W : World}
abbrev O0 : Fw.OO := ⟨fun _ => False, Fw.nn⟩
theorem srep_ints {b0 : Nat} {v : Value} {d : DataW H} {ps : List MemPlace} (hval : Value.okWide Try.prog W .any b0 30 v) (hd : DataW.Trod enc Try.prog W 0 (fun _ => true) true 30 v d ps) : ∃ l : List Int, Fw.SRep W O0 (.int .i64) l v := by
 obtain ⟨a0, len0, cap0, rfl⟩ := okWide_slice Try.underlying30 hval
 obtain ⟨fuel, hf⟩ := hd
 rcases open_ints Try.underlying30 Try.underlying3 cells3 hf with ⟨hcs, _⟩ | ⟨a, len, cap, zs, hcs, _, hl, _, hz, _, hcell, _⟩
 ·simp [Value.cells] at hcs
  obtain ⟨rfl, rfl, rfl⟩ := hcs
  exact ⟨[], none, 0, rfl, Nat.le_refl _, fun h => absurd h (Nat.lt_irrefl 0)⟩
 ·simp [Value.cells] at hcs
  obtain ⟨rfl, rfl, rfl⟩ := hcs
  simp only [if_true] at hz
  have hlen : (zs.take len0).length = len0 := by rw [List.length_take]; omega
  refine ⟨zs.take len0, some a, cap0, by rw [hlen], by rw [hlen]; exact hl, fun _ => ⟨a, rfl, fun j hj => ⟨fun h => h, ?_⟩⟩⟩
  have hj' : j < len0 := by rw [hlen] at hj; exact hj
  have h1 := hcell j (by omega)
  show W.cell? (a.add (j * 1)) = some (.int .i64 (zs.take len0)[j])
  rw [Nat.mul_one, h1, List.getElem_take, List.getD_eq_getElem?_getD, List.getElem?_eq_getElem (by omega)]; rfl
end
end Go.Proofs.Ytfhlgbgclkahnaa
end
