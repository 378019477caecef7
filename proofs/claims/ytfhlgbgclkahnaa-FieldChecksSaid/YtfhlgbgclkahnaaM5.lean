import Derived.WalkKit
import Derived.ProofKit
import Derived.OpenShut
import Derived.Below
import Derived.Deep.Matrix
import Derived.Test.YtfhlgbgclkahnaaRows
import Derived.Test.YtfhlgbgclkahnaaM4
section
set_option linter.unusedVariables false
set_option linter.unusedSimpArgs false
set_option maxRecDepth 100000
namespace Fd
open Go Fw Go.Proofs

theorem row_at {α : Type} {ms : List (Option (List α))} {j : Nat} {xs : List α} (h : ms[j]? = some (some xs)) : mal ms (j + 1) ∧ mrow ms (j + 1) = xs :=
 ⟨⟨xs, h⟩, by show (ms.getD j none).getD [] = xs; rw [List.getD_eq_getElem?_getD, h]; rfl⟩
theorem recX_len (m : List (List Int)) : ∀ i, (Pl.recX m i).length = 2 * i
 | 0 => rfl
 | i + 1 => by rw [Pl.recX, List.length_append, recX_len m i]; simp; omega
theorem recR_len : ∀ i, (Pl.recR i).length = i
 | 0 => rfl
 | i + 1 => by rw [Pl.recR, List.length_append, recR_len i]; simp
theorem recW_len : ∀ i, (Pl.recW i).length = i
 | 0 => rfl
 | i + 1 => by rw [Pl.recW, List.length_append, recW_len i]; simp
theorem recO_len : ∀ i, (Pl.recO i).length = 2 * i
 | 0 => rfl
 | i + 1 => by rw [Pl.recO, List.length_append, List.length_replicate]; simp; omega
theorem recO_1 (i : Nat) : mal (Pl.recO i) (2 * i - 1) ∧ mrow (Pl.recO i) (2 * i - 1) = Pl.recR i := by
 cases i with
 | zero => exact ⟨trivial, rfl⟩
 | succ k =>
  rw [show 2 * (k + 1) - 1 = 2 * k + 1 by omega, Pl.recO]
  exact row_at (by rw [List.getElem?_append_right (by simp)]; simp)
theorem recO_2 (i : Nat) (R : List Nat) : mal (mkill (Pl.recO i) (2 * i - 1) ++ [some R]) (2 * i) ∧ mrow (mkill (Pl.recO i) (2 * i - 1) ++ [some R]) (2 * i) = Pl.recW i ∧ (mkill (Pl.recO i) (2 * i - 1) ++ [some R]).length = 2 * i + 1 ∧
  ∀ W, mkill (mkill (Pl.recO i) (2 * i - 1) ++ [some R]) (2 * i) ++ [some W] = List.replicate (2 * i) none ++ [some R, some W] := by
 cases i with
 | zero => exact ⟨trivial, rfl, rfl, fun W => rfl⟩
 | succ k =>
  have e : mkill (Pl.recO (k + 1)) (2 * (k + 1) - 1) ++ [some R] = List.replicate (2 * k) none ++ [none, some (Pl.recW (k + 1)), some R] := by
   rw [show 2 * (k + 1) - 1 = 2 * k + 1 by omega, Pl.recO]
   show (List.replicate (2 * k) none ++ [some (Pl.recR (k + 1)), some (Pl.recW (k + 1))]).set (2 * k) none ++ [some R] = _
   rw [List.set_append_right _ _ (by simp), List.length_replicate, Nat.sub_self]
   simp
  rw [e, show 2 * (k + 1) = (2 * k + 1) + 1 by omega]
  obtain ⟨a1, a2⟩ := row_at (ms := List.replicate (2 * k) none ++ [none, some (Pl.recW (k + 1)), some R]) (j := 2 * k + 1) (xs := Pl.recW (k + 1)) (by rw [List.getElem?_append_right (by simp)]; simp)
  refine ⟨a1, a2, by simp, fun W => ?_⟩
  show (List.replicate (2 * k) none ++ [none, some (Pl.recW (k + 1)), some R]).set (2 * k + 1) none ++ [some W] = _
  rw [List.set_append_right _ _ (by simp), List.length_replicate, show 2 * k + 1 - 2 * k = 1 by omega, show 2 * k + 1 + 1 = 2 * k + 2 from rfl, show List.replicate (2 * k + 2) (none : Option (List Nat)) = List.replicate (2 * k) none ++ [none, none] by rw [show 2 * k + 2 = (2 * k + 1) + 1 from rfl, List.replicate_succ', List.replicate_succ', List.append_assoc]; rfl]
  simp
theorem vc90 : ∀ (t : Nat) (d : D) (ls : List D) (b : Bool) (m : List (List Int)) (h : Hp) (xs' : XS) (os' : OS) (r1 r2 : Nat), Pl.okMx m → xs' = Pl.recX m m.length → os' = Pl.recO m.length → r1 = 2 * m.length - 1 → r2 = 2 * m.length →
  VCP T90 H90 Try.f90 pt90 [.d (.rptr (.iface t d :: ls)), .d (.slc b (.slc i64) m)] (base3 h) (.d (.ref 1 1)) ((MS.mk xs' os' t d ls r1 t d ls r2).put (base3 h)) := by
 rintro t d ls b m h xs' os' r1 r2 ⟨hm1, hm2⟩ hx' ho' hr1 hr2
 refine cast (α := [D.rptr (D.iface t d :: ls), D.ref (2 : Nat) (0 : Nat), D.rptr (D.iface t d :: ls), D.ref (2 : Nat) (0 : Nat)] = [D.rptr (D.iface t d :: ls), D.ref (2 : Nat) (0 : Nat), D.rptr (D.iface t d :: ls), D.ref (2 : Nat) (0 : Nat)] ∧ ∃ (n : Nat), itl (fun (G : Int × List (Option (List Int)) × (D × Nat × D × Nat × PUnit) × List (Option (List Nat)) × PUnit → Prop) (x : Int × List (Option (List Int)) × (D × Nat × D × Nat × PUnit) × List (Option (List Nat)) × PUnit) => Br (decide (x.1 < (↑m.length : Int))) ((0 : Int) ≤ x.1 ∧ x.1 < (↑m.length : Int) ∧ (0 : Int) ≤ (↑m.length : Int) ∧ (↑m.length : Int) = (↑m.length : Int) ∧ (↑m.length : Int) * (8 : Int) ≤ (140737488355328 : Int) ∧ mal (mnew x.2.1 (List.replicate (↑m.length : Int).toNat (0 : Int))) (List.length x.2.1 + (1 : Nat)) ∧ (0 : Int) ≤ x.1 ∧ x.1 < (↑(mrow (mnew x.2.1 (List.replicate (↑m.length : Int).toNat (0 : Int))) (List.length x.2.1 + (1 : Nat))).length : Int) ∧ mal (mnew x.2.1 (List.replicate (↑m.length : Int).toNat (0 : Int))) (List.length x.2.1 + (1 : Nat)) ∧ (0 : Int) ≤ x.1 ∧ x.1 < (↑(mrow (mnew x.2.1 (List.replicate (↑m.length : Int).toNat (0 : Int))) (List.length x.2.1 + (1 : Nat))).length : Int) ∧ List.length (rd i64.slc m x.1) ≤ (1000000000 : Nat) ∧ mal x.2.2.2.1 x.2.2.1.2.1 ∧ ((↑(mrow x.2.2.2.1 x.2.2.1.2.1).length : Int) + (↑[((mnew x.2.1 (List.replicate (↑m.length : Int).toNat (0 : Int))).set (List.length x.2.1) (some ((mrow (mnew x.2.1 (List.replicate (↑m.length : Int).toNat (0 : Int))) (List.length x.2.1 + (1 : Nat))).set (Int.toNat x.1) (1 : Int)))).length + (1 : Nat)].length : Int)) * (24 : Int) ≤ (140737488355328 : Int) ∧ mal ((mkill x.2.2.2.1 x.2.2.1.2.1).append [some (mrow x.2.2.2.1 x.2.2.1.2.1 ++ [((mnew x.2.1 (List.replicate (↑m.length : Int).toNat (0 : Int))).set (List.length x.2.1) (some ((mrow (mnew x.2.1 (List.replicate (↑m.length : Int).toNat (0 : Int))) (List.length x.2.1 + (1 : Nat))).set (Int.toNat x.1) (1 : Int)))).length + (1 : Nat)])]) x.2.2.1.2.2.2.1 ∧ ((↑(mrow ((mkill x.2.2.2.1 x.2.2.1.2.1).append [some (mrow x.2.2.2.1 x.2.2.1.2.1 ++ [((mnew x.2.1 (List.replicate (↑m.length : Int).toNat (0 : Int))).set (List.length x.2.1) (some ((mrow (mnew x.2.1 (List.replicate (↑m.length : Int).toNat (0 : Int))) (List.length x.2.1 + (1 : Nat))).set (Int.toNat x.1) (1 : Int)))).length + (1 : Nat)])]) x.2.2.1.2.2.2.1).length : Int) + (↑[List.length x.2.1 + (1 : Nat)].length : Int)) * (24 : Int) ≤ (140737488355328 : Int) ∧ [Ar.raw.enc (Ar.raw.enc x.2.2.1.1), D.ref (2 : Nat) (List.length x.2.2.2.1 + (1 : Nat)), Ar.raw.enc (Ar.raw.enc x.2.2.1.2.2.1), D.ref (2 : Nat) (((mkill x.2.2.2.1 x.2.2.1.2.1).append [some (mrow x.2.2.2.1 x.2.2.1.2.1 ++ [((mnew x.2.1 (List.replicate (↑m.length : Int).toNat (0 : Int))).set (List.length x.2.1) (some ((mrow (mnew x.2.1 (List.replicate (↑m.length : Int).toNat (0 : Int))) (List.length x.2.1 + (1 : Nat))).set (Int.toNat x.1) (1 : Int)))).length + (1 : Nat)])]).length + (1 : Nat))] = [Ar.raw.enc x.2.2.1.1, D.ref (2 : Nat) (List.length x.2.2.2.1 + (1 : Nat)), Ar.raw.enc x.2.2.1.2.2.1, D.ref (2 : Nat) (((mkill x.2.2.2.1 x.2.2.1.2.1).append [some (mrow x.2.2.2.1 x.2.2.1.2.1 ++ [((mnew x.2.1 (List.replicate (↑m.length : Int).toNat (0 : Int))).set (List.length x.2.1) (some ((mrow (mnew x.2.1 (List.replicate (↑m.length : Int).toNat (0 : Int))) (List.length x.2.1 + (1 : Nat))).set (Int.toNat x.1) (1 : Int)))).length + (1 : Nat)])]).length + (1 : Nat))] ∧ G (IntKind.i64.wrap (x.1 + (1 : Int)), ((mnew x.2.1 (List.replicate (↑m.length : Int).toNat (0 : Int))).set (List.length x.2.1) (some ((mrow (mnew x.2.1 (List.replicate (↑m.length : Int).toNat (0 : Int))) (List.length x.2.1 + (1 : Nat))).set (Int.toNat x.1) (1 : Int)))).append [some (rd i64.slc m x.1)], (Ar.raw.enc x.2.2.1.1, List.length x.2.2.2.1 + (1 : Nat), Ar.raw.enc x.2.2.1.2.2.1, ((mkill x.2.2.2.1 x.2.2.1.2.1).append [some (mrow x.2.2.2.1 x.2.2.1.2.1 ++ [((mnew x.2.1 (List.replicate (↑m.length : Int).toNat (0 : Int))).set (List.length x.2.1) (some ((mrow (mnew x.2.1 (List.replicate (↑m.length : Int).toNat (0 : Int))) (List.length x.2.1 + (1 : Nat))).set (Int.toNat x.1) (1 : Int)))).length + (1 : Nat)])]).length + (1 : Nat), ()), (mkill ((mkill x.2.2.2.1 x.2.2.1.2.1).append [some (mrow x.2.2.2.1 x.2.2.1.2.1 ++ [((mnew x.2.1 (List.replicate (↑m.length : Int).toNat (0 : Int))).set (List.length x.2.1) (some ((mrow (mnew x.2.1 (List.replicate (↑m.length : Int).toNat (0 : Int))) (List.length x.2.1 + (1 : Nat))).set (Int.toNat x.1) (1 : Int)))).length + (1 : Nat)])]) x.2.2.1.2.2.2.1).append [some (mrow ((mkill x.2.2.2.1 x.2.2.1.2.1).append [some (mrow x.2.2.2.1 x.2.2.1.2.1 ++ [((mnew x.2.1 (List.replicate (↑m.length : Int).toNat (0 : Int))).set (List.length x.2.1) (some ((mrow (mnew x.2.1 (List.replicate (↑m.length : Int).toNat (0 : Int))) (List.length x.2.1 + (1 : Nat))).set (Int.toNat x.1) (1 : Int)))).length + (1 : Nat)])]) x.2.2.1.2.2.2.1 ++ [List.length x.2.1 + (1 : Nat)])], ())) (([] : List Int).length + (1 : Nat) = (1 : Nat) ∧ x.2.1 = xs' ∧ [some [Ar.raw.enc x.2.2.1.1, D.ref (2 : Nat) x.2.2.1.2.1, Ar.raw.enc x.2.2.1.2.2.1, D.ref (2 : Nat) x.2.2.1.2.2.2.1]] = [some ((fun (s : MS) => [D.rptr (D.iface s.t1 s.d1 :: s.l1), D.ref (2 : Nat) s.r1, D.rptr (D.iface s.t2 s.d2 :: s.l2), D.ref (2 : Nat) s.r2]) { xs := xs', os := os', t1 := t, d1 := d, l1 := ls, r1 := r1, t2 := t, d2 := d, l2 := ls, r2 := r2 })] ∧ x.2.2.2.1 = os' ∧ True)) n ((0 : Int), [], (D.rptr (D.iface t d :: ls), (0 : Nat), D.rptr (D.iface t d :: ls), (0 : Nat), ()), [], ())) (by kernel_rfl) ?_
 refine ⟨rfl, itl_rule (fun s => ∃ i : Nat, i ≤ m.length ∧ s = ((i : Int), Pl.recX m i, (D.rptr (.iface t d :: ls), 2 * i - 1, D.rptr (.iface t d :: ls), 2 * i, ()), Pl.recO i, ())) (fun s => m.length - s.1.toNat) ⟨0, Nat.zero_le _, rfl⟩ ?_⟩
 rintro x G ⟨i, hi, rfl⟩ hG
 simp only
 refine Br_of (fun hlt => ?_) (fun hge => ?_)
 ·have hlt : i < m.length := by have := of_decide_eq_true hlt; omega
  have hXl := recX_len m i
  have hOl := recO_len i
  obtain ⟨o1, o2⟩ := recO_1 i
  rw [o2]
  have hZ : mnew (Pl.recX m i) (List.replicate (m.length : Int).toNat (0 : Int)) = Pl.recX m i ++ [some (List.replicate m.length 0)] := by rw [Int.toNat_natCast]; rfl
  rw [hZ]
  obtain ⟨z1, z2⟩ := row_at (ms := Pl.recX m i ++ [some (List.replicate m.length (0 : Int))]) (j := (Pl.recX m i).length) (xs := List.replicate m.length 0) (by rw [List.getElem?_append_right (Nat.le_refl _)]; simp)
  rw [z2]
  have hset : (Pl.recX m i ++ [some (List.replicate m.length (0 : Int))]).set (Pl.recX m i).length (some ((List.replicate m.length (0 : Int)).set (Int.toNat (i : Int)) (1 : Int))) = Pl.recX m i ++ [some (Pl.unitR m.length i)] := by
   rw [List.set_append_right _ _ (Nat.le_refl _), Nat.sub_self, Int.toNat_natCast]; rfl
  rw [hset]
  have hl1 : (Pl.recX m i ++ [some (Pl.unitR m.length i)]).length + 1 = 2 * i + 2 := by rw [List.length_append, hXl]; rfl
  rw [hl1, hXl, hOl]
  obtain ⟨p1, p2, p3, p4⟩ := recO_2 i (Pl.recR i ++ [2 * i + 2])
  have p1 : mal ((mkill (Pl.recO i) (2 * i - 1)).append [some (Pl.recR i ++ [2 * i + 2])]) (2 * i) := p1
  have p2 : mrow ((mkill (Pl.recO i) (2 * i - 1)).append [some (Pl.recR i ++ [2 * i + 2])]) (2 * i) = Pl.recW i := p2
  have p3 : ((mkill (Pl.recO i) (2 * i - 1)).append [some (Pl.recR i ++ [2 * i + 2])]).length = 2 * i + 1 := p3
  have p4 : (mkill ((mkill (Pl.recO i) (2 * i - 1)).append [some (Pl.recR i ++ [2 * i + 2])]) (2 * i)).append [some (Pl.recW i ++ [2 * i + 1])] = Pl.recO (i + 1) := p4 _
  rw [p2, p3, p4, wrap_i64 (by omega) (by omega)]
  have hrl : rd i64.slc m (i : Int) = m.getD i [] := rfl
  rw [hrl, recR_len, recW_len, List.length_replicate]
  rw [hXl] at z1
  refine ⟨by omega, by omega, by omega, trivial, by omega, z1, by omega, by omega, z1, by omega, by omega, hm2 _ (by rw [List.getD_eq_getElem?_getD, List.getElem?_eq_getElem hlt]; exact List.getElem_mem hlt), o1, by simp only [List.length_singleton]; omega, p1, by simp only [List.length_singleton]; omega, rfl, hG _ ⟨i + 1, hlt, ?_⟩ (by simp only; omega)⟩
  have e1 : (Pl.recX m i ++ [some (Pl.unitR m.length i)]).append [some (m.getD i [])] = Pl.recX m (i + 1) := by
   show (Pl.recX m i ++ [some (Pl.unitR m.length i)]) ++ [some (m.getD i [])] = _
   rw [List.append_assoc]; rfl
  rw [e1]
  rfl
 ·have hge : i = m.length := by have := of_decide_eq_false hge; omega
  subst hge hx' ho' hr1 hr2
  exact ⟨rfl, rfl, rfl, rfl, trivial⟩
theorem snd90 : SoundPT Try.prog 90 pt90 := pt_sound (T := T90) (fn := Try.f90) (tokg (T := T90) ⟨snd123, trivial⟩ trivial trivial noInv noCv) Try.func90 (by kernel_rfl) H90 (fun avs h p v h' hf hp => by
 obtain ⟨t, d, ls, b, m, rfl, e0, e1, e2, rfl, rfl, rfl⟩ := new90_some hf
 have e : base3 h = h := by
  unfold base3
  funext id
  rw [upd_eq, upd_eq, upd_eq]
  by_cases h2 : id = 2
  ·subst h2; rw [if_pos rfl, e2]
  ·rw [if_neg h2]
   by_cases h1 : id = 1
   ·subst h1; rw [if_pos rfl, e1]
   ·rw [if_neg h1]
    by_cases h0 : id = 0
    ·subst h0; rw [if_pos rfl, e0]
    ·rw [if_neg h0]
 rw [← e]
 exact vc90 t d ls b m h _ _ _ _ hp rfl rfl rfl rfl) (by kernel_rfl)
end Fd
end
section
set_option linter.unusedVariables false
set_option linter.unusedSimpArgs false
set_option maxRecDepth 100000
namespace Fd
open Go Fw Go.Proofs

def C95 : Con := ⟨[.raw, I], [I], fun (x : D × Int × Unit) => Pl.okF x.1, fun (x : D × Int × Unit) => (x.2.1 % Pl.qF x.1, ()), none⟩
def Cf2 (f : Int → Int → Int → Int) : Con := ⟨[.raw, I, I], [I], fun (x : D × Int × Int × Unit) => Pl.okF x.1, fun (x : D × Int × Int × Unit) => (f (Pl.qF x.1) (x.2.1 % Pl.qF x.1) (x.2.2.1 % Pl.qF x.1), ()), none⟩
def C34 : Con := Cf2 Pl.mul
def TF (fs : List (Nat × Con)) : Ctx := TV fs VV
def T30 : Ctx := TF [(95, C95)]
def C42 : Con := ⟨[.raw], [I], fun (x : D × Unit) => Pl.okF x.1, fun (x : D × Unit) => (Pl.gen (Pl.qF x.1), ()), none⟩
def C80 : Con := ⟨[.raw], [L], fun (x : D × Unit) => Pl.okF x.1, fun (x : D × Unit) => (Pl.md (Pl.qF x.1), ()), none⟩
def Pl.conj (q : Int) : Nat → Int → List Int
 | 0, _ => []
 | n + 1, a => a :: Pl.conj q n (Pl.pow q a (Pl.lpf q))
def Pl.cjs (q a : Int) : List Int := Pl.conj q (Pl.K q).toNat a
def C104 : Con := ⟨[.raw, I], [L], fun (x : D × Int × Unit) => Pl.okF x.1 ∧ Pl.inQ (Pl.qF x.1) x.2.1, fun (x : D × Int × Unit) => (Pl.cjs (Pl.qF x.1) x.2.1, ()), none⟩
def H104 : Hints := lo [(0, ⟨[0, 9], [(1, si), (5, so), (10, si)]⟩)]
def T104 : Ctx := TT [(100, C100)]
def Pl.trace (q a : Int) : Int := (Pl.cjs q a).foldl (Pl.add q) 0
def C55 : Con := ⟨[.raw, I], [I], fun (x : D × Int × Unit) => Pl.okF x.1, fun (x : D × Int × Unit) => (Pl.trace (Pl.qF x.1) (x.2.1 % Pl.qF x.1), ()), none⟩
def H55 : Hints := lo [(0, ⟨[0, 14, 15], [(5, si), (16, si)]⟩)]
def T55 : Ctx := TF [(95, C95), (104, C104)]
def Pl.dotL (q : Int) : Int → List Int → List Int → Int
 | s, a :: l, b :: m => Pl.dotL q (Pl.add q s (Pl.mul q a b)) l m
 | s, _, _ => s
def Pl.dot (q : Int) (a b : List Int) : Int := Pl.dotL q 0 a b
def C94 : Con := ⟨[.raw, L, L], [I], fun (x : D × List Int × List Int × Unit) => Pl.okF x.1 ∧ Pl.inAll (Pl.qF x.1) x.2.1 ∧ Pl.inAll (Pl.qF x.1) x.2.2.1 ∧ x.2.1.length ≤ x.2.2.1.length, fun (x : D × List Int × List Int × Unit) => (Pl.dot (Pl.qF x.1) x.2.1 x.2.2.1, ()), none⟩
def H94 : Hints := lo [(0, ⟨[0, 2, 10, 11], [(7, si), (12, si)]⟩)]
def Pl.els (q : Int) (l : List Int) : Bool := l.all fun a => decide (0 ≤ a) && decide (a < q)
def C93 : Con := ⟨[.raw, L], [B], fun (x : D × List Int × Unit) => Pl.okF x.1 ∧ x.2.1.length ≤ 1000000000, fun (x : D × List Int × Unit) => (Pl.els (Pl.qF x.1) x.2.1, ()), none⟩
def Hz2 : Hints := ⟨[], [(1, [2])], [], [], []⟩
def T93 : Ctx := TT [(139, C139)]
def C135 : Con := ⟨[L, .raw], [B], fun (x : List Int × D × Unit) => (∃ f, Pl.okF f ∧ x.2.1 = .rptr [f]) ∧ x.1.length ≤ 1000000000, fun (x : List Int × D × Unit) => (!Pl.els (Pl.qF (match x.2.1 with | .rptr [f] => f | _ => .rptr [])) x.1, ()), none⟩
def badC (f : D) : D := .clo 135 [.rptr [f]]
def Pl.bad (v : D) (l : List Int) : Bool := match v with
 | .clo 135 [.rptr [f]] => !Pl.els (Pl.qF f) l
 | _ => false
def Vbad : Con := ⟨[.raw, L], [B], fun (x : D × List Int × Unit) => (∃ f, Pl.okF f ∧ x.1 = badC f) ∧ x.2.1.length ≤ 1000000000, fun (x : D × List Int × Unit) => (Pl.bad x.1 x.2.1, ()), none⟩
def Pl.idxR (p : List Int → Bool) : List (List Int) → Int → Int
 | [], _ => -1
 | x :: l, i => bif p x then i else Pl.idxR p l (i + 1)
def Pl.okBd (m : List (List Int)) (v : D) : Prop := (∃ f, Pl.okF f ∧ v = badC f) ∧ m.length ≤ 1000000000 ∧ ∀ r ∈ m, r.length ≤ 1000000000
def C160 : Con := ⟨[LL, .raw], [I], fun (x : List (List Int) × D × Unit) => Pl.okBd x.1 x.2.1, fun (x : List (List Int) × D × Unit) => (Pl.idxR (Pl.bad x.2.1) x.1 0, ()), none⟩
def H160 : Hints := lo [(0, ⟨[0, 1, 7], [(8, si)]⟩)]
def T160 : Ctx := TC [] Vbad
def C134 : Con := ⟨[LL, .raw], [B], fun (x : List (List Int) × D × Unit) => Pl.okBd x.1 x.2.1, fun (x : List (List Int) × D × Unit) => (x.1.any (Pl.bad x.2.1), ()), none⟩
def T134 : Ctx := TT [(160, C160)]
def T135 : Ctx := TT [(93, C93)]
def Pl.wide (m : List (List Int)) : Nat := (m.getD 0 []).length
def Pl.shape (q : Int) (m : List (List Int)) : Int :=
 bif decide (m.length > 64) || (decide (m.length > 0) && decide (Pl.wide m > 64)) then 2 else
 bif m.any (fun r => decide (r.length ≠ Pl.wide m)) then 7 else bif m.any (fun r => !Pl.els q r) then 1 else 0
def Pl.okMM (m : List (List Int)) : Prop := m.length ≤ 1000000000 ∧ ∀ r ∈ m, r.length ≤ 1000000000
def C89 : Con := ⟨[.raw, LL], [I], fun (x : D × List (List Int) × Unit) => Pl.okF x.1 ∧ Pl.okMM x.2.1, fun (x : D × List (List Int) × Unit) => (Pl.shape (Pl.qF x.1) x.2.1, ()), none⟩
def H89 : Hints := ⟨[], [(1, [2])], [(0, ⟨[1, 2, 24, 25], [(26, si)]⟩)], [], []⟩
def T89 : Ctx := TT [(134, C134)]
def Pl.sys (q : Int) (m : List (List Int)) (b : List Int) : Int :=
 bif decide (Pl.shape q m ≠ 0) then Pl.shape q m else bif decide (b.length ≠ m.length) then 7 else bif Pl.els q b then 0 else 1
def C92 : Con := ⟨[.raw, LL, L], [I], fun (x : D × List (List Int) × List Int × Unit) => Pl.okF x.1 ∧ Pl.okMM x.2.1 ∧ x.2.2.1.length ≤ 1000000000, fun (x : D × List (List Int) × List Int × Unit) => (Pl.sys (Pl.qF x.1) x.2.1 x.2.2.1, ()), none⟩
def T92 : Ctx := TT [(89, C89), (93, C93)]

end Fd
end
section
set_option linter.unusedVariables false
set_option linter.unusedSimpArgs false
set_option maxRecDepth 100000
namespace Fd
open Go Fw Go.Proofs

theorem drop_cons {α : Type} {l : List α} {i : Nat} (d : α) (h : i < l.length) : l.drop i = l.getD i d :: l.drop (i + 1) := by
 rw [List.drop_eq_getElem_cons h, List.getD_eq_getElem?_getD, List.getElem?_eq_getElem h]; rfl
theorem qF_f (q : Int) : Pl.qF (D.rptr (fieldC q)) = q := rfl
theorem qF_d (q : Int) : Pl.qF (fieldD q) = q := rfl
theorem okF_f {q : Int} (hq : isQ q) : Pl.okF (D.rptr (fieldC q)) := ⟨q, hq, rfl⟩
theorem okF_d {q : Int} (hq : isQ q) : Pl.okF (fieldD q) := ⟨q, hq, rfl⟩
theorem okA_ar {q : Int} (hq : isQ q) : Pl.okA (arD q) := ⟨q, hq, rfl⟩
theorem okM_ar {q : Int} (hq : isQ q) : Pl.okM (arD q) := ⟨q, hq, .inl rfl⟩
theorem okM_f {q : Int} (hq : isQ q) : Pl.okM (D.iface 23 (D.rptr (fieldC q))) := ⟨q, hq, .inr (.inr (.inr rfl))⟩
theorem qA_f (q : Int) : Pl.qA (D.iface 23 (D.rptr (fieldC q))) = q := rfl
theorem okF_nr {v : D} (h : Pl.okF v) : v.nr := by
 obtain ⟨q, hq, rfl⟩ := h
 exact nr_field hq
theorem wrap_mod {q a : Int} (q2 : 2 ≤ q) (q6 : q ≤ 65536) : (IntKind.i64.wrap (a.tmod q + q)).tmod q = a % q := by
 have h1 := Int.tmod_lt_of_pos a (show 0 < q by omega)
 have h2 := Int.lt_tmod_of_pos a (show 0 < q by omega)
 rw [wrap_i64 (by omega) (by omega), tmod_pos (by omega), Int.add_emod_right]
 rcases ilt a 0 with h | h
 ·have h3 := Int.emod_add_mul_ediv a q
  have h4 := Int.tmod_add_mul_tdiv a q
  have e : a.tmod q = a - q * a.tdiv q := by omega
  rw [e, Int.sub_mul_emod_self_left]
 ·rw [Int.tmod_eq_emod_of_nonneg h, Int.emod_emod]
theorem vc95 : ∀ x, C95.pre x → VC (TT []) H0 Try.f95 C95 x := by
 rintro ⟨v, (a : Int), ⟨⟩⟩ ⟨q, hq, (rfl : v = _)⟩
 show q ≠ (0 : Int) ∧ q ≠ (0 : Int) ∧ ((IntKind.i64.wrap (a.tmod q + q)).tmod q, ()) = C95.post (fieldD q, a, ())
 have q2 := hq.1
 have q6 := hq.2.1
 refine ⟨by omega, by omega, ?_⟩
 rw [wrap_mod q2 q6]; rfl
theorem vc34 : ∀ x, C34.pre x → VC T30 H0 Try.f34 C34 x := by
 rintro ⟨v, (a : Int), (b : Int), ⟨⟩⟩ ⟨q, hq, (rfl : v = _)⟩
 show Pl.okF (D.rptr (fieldC q)) ∧ Pl.okF (D.rptr (fieldC q)) ∧ (Pl.okM (arD q) ∧ Pl.inQ (Pl.qA (arD q)) (a % Pl.qF (D.rptr (fieldC q))) ∧ Pl.inQ (Pl.qA (arD q)) (b % Pl.qF (D.rptr (fieldC q)))) ∧ (Pl.mul (Pl.qA (arD q)) (a % Pl.qF (D.rptr (fieldC q))) (b % Pl.qF (D.rptr (fieldC q))), ()) = C34.post (fieldD q, a, b, ())
 rw [qF_f, qA_ar hq]
 exact ⟨okF_f hq, okF_f hq, ⟨okM_ar hq, emod_inQ hq a, emod_inQ hq b⟩, rfl⟩
theorem vc42 : ∀ x, C42.pre x → VC (TT []) H0 Try.f42 C42 x := by
 rintro ⟨v, ⟨⟩⟩ ⟨q, hq, (rfl : v = _)⟩
 show (Pl.gen q, ()) = C42.post (fieldD q, ())
 rfl
theorem vc80 : ∀ x, C80.pre x → VC (TT [(123, C123)]) H0 Try.f80 C80 x := by
 rintro ⟨v, ⟨⟩⟩ ⟨q, hq, (rfl : v = _)⟩
 show (Pl.md q).length ≤ (1000000000 : Nat) ∧ (Pl.md q, ()) = C80.post (fieldD q, ())
 refine ⟨?_, rfl⟩
 have := (md_spec hq).1
 have := isQ.K64 hq
 omega
theorem conj_len (q : Int) : ∀ (n : Nat) (a : Int), (Pl.conj q n a).length = n
 | 0, _ => rfl
 | n + 1, a => by rw [Pl.conj, List.length_cons, conj_len]
theorem conj_in {q : Int} (hq : isQ q) : ∀ (n : Nat) (a : Int), Pl.inQ q a → ∀ x ∈ Pl.conj q n a, Pl.inQ q x
 | 0, _, _, x, hx => by cases hx
 | n + 1, a, ha, x, hx => by
  rw [Pl.conj] at hx
  rcases List.mem_cons.1 hx with rfl | hx
  ·exact ha
  ·exact conj_in hq n _ (pow_inQ hq _ _) x hx
theorem vc104 : ∀ x, C104.pre x → VC T104 H104 Try.f104 C104 x := by
 rintro ⟨v, (a : Int), ⟨⟩⟩ ⟨⟨q, hq, (rfl : v = _)⟩, (ha : Pl.inQ (Pl.qF (fieldD q)) a)⟩
 rw [qF_d] at ha
 show ∃ (n : Nat), itl (fun (G : Int × List Int × Int × PUnit → Prop) (x : Int × List Int × Int × PUnit) => Br (decide (x.snd.snd.fst < Pl.K q)) (((↑(List.length x.snd.fst) : Int) + (↑[x.fst].length : Int)) * (8 : Int) ≤ (140737488355328 : Int) ∧ (Pl.okM (D.iface (23 : Nat) (D.rptr (fieldC q))) ∧ Pl.inQ (Pl.qA (D.iface (23 : Nat) (D.rptr (fieldC q)))) x.fst ∧ (0 : Int) ≤ Pl.lpf q ∧ Pl.lpf q ≤ (4611686018427387904 : Int)) ∧ G (Pl.pow (Pl.qA (D.iface (23 : Nat) (D.rptr (fieldC q)))) x.fst (Pl.lpf q), List.append x.snd.fst [x.fst], IntKind.i64.wrap (x.snd.snd.fst + (1 : Int)), ())) ((x.snd.1, ()) = C104.post (fieldD q, a, ()))) n (a, [], (0 : Int), ())
 rw [qA_f]
 have hp : C104.post (fieldD q, a, ()) = (Pl.cjs q a, ()) := rfl
 rw [hp]
 have hK := isQ.K64 hq
 have hK1 := hq.2.2
 have hl2 := hq.prime.1
 have hl6 := (lpf_spec hq.1 hq.2.1).2.1
 have hq6 := hq.2.1
 refine itl_rule (fun s => ∃ i : Nat, s.2.2.1 = (i : Int) ∧ i ≤ (Pl.K q).toNat ∧ Pl.inQ q s.1 ∧ s.2.1.length = i ∧ s.2.1 ++ Pl.conj q ((Pl.K q).toNat - i) s.1 = Pl.cjs q a) (fun s => (Pl.K q - s.2.2.1).toNat) ⟨0, rfl, Nat.zero_le _, ha, rfl, rfl⟩ ?_
 rintro ⟨z, out, i0, ⟨⟩⟩ G ⟨i, e, hi, hz, ho, hc⟩ hG
 simp only at e hz ho hc hG ⊢
 subst e
 refine Br_of (fun h => ?_) (fun h => ?_)
 ·have h : (i : Int) < Pl.K q := of_decide_eq_true h
  rw [wrap_i64 (by omega) (by omega)]
  refine ⟨by simp only [List.length_singleton]; omega, ⟨okM_f hq, hz, by omega, by omega⟩, hG _ ⟨i + 1, rfl, by omega, pow_inQ hq _ _, ?_, ?_⟩ (by simp only; omega)⟩
  ·show (out ++ [z]).length = i + 1
   rw [List.length_append, ho]; rfl
  ·show (out ++ [z]) ++ Pl.conj q ((Pl.K q).toNat - (i + 1)) (Pl.pow q z (Pl.lpf q)) = _
   rw [← hc, List.append_assoc, show (Pl.K q).toNat - i = ((Pl.K q).toNat - (i + 1)) + 1 by omega]; rfl
 ·have h : ¬ (i : Int) < Pl.K q := of_decide_eq_false h
  rw [show (Pl.K q).toNat - i = 0 by omega] at hc
  rw [← hc]
  show (out, ()) = (out ++ [], ())
  rw [List.append_nil]
theorem cjs_len {q : Int} (hq : isQ q) (a : Int) : (Pl.cjs q a).length < 17 := by
 unfold Pl.cjs; rw [conj_len]; exact isQ.K64 hq
theorem cjs_in {q : Int} (hq : isQ q) {a : Int} (ha : Pl.inQ q a) : ∀ x ∈ Pl.cjs q a, Pl.inQ q x := conj_in hq _ a ha
theorem rd_i (l : List Int) (i : Nat) : rd i64 l (i : Int) = l.getD i 0 := rfl
theorem vc55 : ∀ x, C55.pre x → VC T55 H55 Try.f55 C55 x := by
 rintro ⟨v, (a : Int), ⟨⟩⟩ ⟨q, hq, (rfl : v = _)⟩
 show Pl.okF (D.rptr (fieldC q)) ∧ (Pl.okF (D.rptr (fieldC q)) ∧ Pl.inQ (Pl.qF (D.rptr (fieldC q))) (a % Pl.qF (D.rptr (fieldC q)))) ∧ ∃ (n : Nat), itl (fun (G : Int × Int × PUnit → Prop) (x : Int × Int × PUnit) => Br (decide (x.snd.fst < (↑(Pl.cjs (Pl.qF (D.rptr (fieldC q))) (a % Pl.qF (D.rptr (fieldC q)))).length : Int))) ((0 : Int) ≤ x.snd.fst ∧ x.snd.fst < (↑(Pl.cjs (Pl.qF (D.rptr (fieldC q))) (a % Pl.qF (D.rptr (fieldC q)))).length : Int) ∧ (Pl.okA (arD q) ∧ Pl.inQ (Pl.qA (arD q)) x.fst ∧ Pl.inQ (Pl.qA (arD q)) (rd i64 (Pl.cjs (Pl.qF (D.rptr (fieldC q))) (a % Pl.qF (D.rptr (fieldC q)))) x.snd.fst)) ∧ G (Pl.add (Pl.qA (arD q)) x.fst (rd i64 (Pl.cjs (Pl.qF (D.rptr (fieldC q))) (a % Pl.qF (D.rptr (fieldC q)))) x.snd.fst), IntKind.i64.wrap (x.snd.fst + (1 : Int)), ())) ((x.fst, ()) = C55.post (fieldD q, a, ()))) n ((0 : Int), (0 : Int), ())
 rw [qF_f, qA_ar hq]
 have hp : C55.post (fieldD q, a, ()) = ((Pl.cjs q (a % q)).foldl (Pl.add q) 0, ()) := rfl
 rw [hp]
 have hl := cjs_len hq (a % q)
 have hin := cjs_in hq (emod_inQ hq a)
 generalize Pl.cjs q (a % q) = l at *
 refine ⟨okF_f hq, ⟨okF_f hq, emod_inQ hq a⟩, itl_rule (fun s => ∃ i : Nat, s.2.1 = (i : Int) ∧ i ≤ l.length ∧ Pl.inQ q s.1 ∧ (l.drop i).foldl (Pl.add q) s.1 = l.foldl (Pl.add q) 0) (fun s => ((l.length : Int) - s.2.1).toNat) ⟨0, rfl, Nat.zero_le _, zero_inQ hq, rfl⟩ ?_⟩
 rintro ⟨s, i0, ⟨⟩⟩ G ⟨i, e, hi, hs, hf⟩ hG
 simp only at e hs hf hG ⊢
 subst e
 refine Br_of (fun h => ?_) (fun h => ?_)
 ·have h : i < l.length := by have := of_decide_eq_true h; omega
  rw [rd_i, wrap_i64 (by omega) (by omega)]
  rw [drop_cons 0 h, List.foldl_cons] at hf
  exact ⟨by omega, by omega, ⟨okA_ar hq, hs, getD_inQ hin h⟩, hG _ ⟨i + 1, rfl, by omega, add_inQ hq _ _, hf⟩ (by simp only; omega)⟩
 ·have h : i = l.length := by have := of_decide_eq_false h; omega
  subst h
  rw [List.drop_length] at hf
  rw [← hf]; rfl
theorem vc94 : ∀ x, C94.pre x → VC (TF []) H94 Try.f94 C94 x := by
 rintro ⟨v, (a : List Int), (b : List Int), ⟨⟩⟩ ⟨⟨q, hq, (rfl : v = _)⟩, (ha : Pl.inAll (Pl.qF (fieldD q)) a), (hb : Pl.inAll (Pl.qF (fieldD q)) b), (hl : a.length ≤ b.length)⟩
 rw [qF_d] at ha hb
 show ∃ (n : Nat), itl (fun (G : Int × Int × PUnit → Prop) (x : Int × Int × PUnit) => Br (decide (x.snd.fst < (↑a.length : Int))) ((0 : Int) ≤ x.snd.fst ∧ x.snd.fst < (↑a.length : Int) ∧ (0 : Int) ≤ x.snd.fst ∧ x.snd.fst < (↑b.length : Int) ∧ (Pl.okM (arD q) ∧ Pl.inQ (Pl.qA (arD q)) (rd i64 a x.snd.fst) ∧ Pl.inQ (Pl.qA (arD q)) (rd i64 b x.snd.fst)) ∧ (Pl.okA (arD q) ∧ Pl.inQ (Pl.qA (arD q)) x.fst ∧ Pl.inQ (Pl.qA (arD q)) (Pl.mul (Pl.qA (arD q)) (rd i64 a x.snd.fst) (rd i64 b x.snd.fst))) ∧ G (Pl.add (Pl.qA (arD q)) x.fst (Pl.mul (Pl.qA (arD q)) (rd i64 a x.snd.fst) (rd i64 b x.snd.fst)), IntKind.i64.wrap (x.snd.fst + (1 : Int)), ())) ((x.fst, ()) = C94.post (fieldD q, a, b, ()))) n ((0 : Int), (0 : Int), ())
 rw [qA_ar hq]
 have hp : C94.post (fieldD q, a, b, ()) = (Pl.dotL q 0 a b, ()) := rfl
 rw [hp]
 obtain ⟨ha, hal⟩ := ha
 obtain ⟨hb, hbl⟩ := hb
 refine itl_rule (fun s => ∃ i : Nat, s.2.1 = (i : Int) ∧ i ≤ a.length ∧ Pl.inQ q s.1 ∧ Pl.dotL q s.1 (a.drop i) (b.drop i) = Pl.dotL q 0 a b) (fun s => ((a.length : Int) - s.2.1).toNat) ⟨0, rfl, Nat.zero_le _, zero_inQ hq, rfl⟩ ?_
 rintro ⟨s, i0, ⟨⟩⟩ G ⟨i, e, hi, hs, hf⟩ hG
 simp only at e hs hf hG ⊢
 subst e
 refine Br_of (fun h => ?_) (fun h => ?_)
 ·have h : i < a.length := by have := of_decide_eq_true h; omega
  rw [rd_i, rd_i, wrap_i64 (by omega) (by omega)]
  rw [drop_cons 0 h, drop_cons 0 (show i < b.length by omega), Pl.dotL] at hf
  exact ⟨by omega, by omega, by omega, by omega, ⟨okM_ar hq, getD_inQ ha h, getD_inQ hb (by omega)⟩, ⟨okA_ar hq, hs, mul_inQ hq _ _⟩, hG _ ⟨i + 1, rfl, by omega, add_inQ hq _ _, hf⟩ (by simp only; omega)⟩
 ·have h : i = a.length := by have := of_decide_eq_false h; omega
  subst h
  rw [List.drop_length] at hf
  rw [← hf]; rfl
theorem nr_out {q : Int} (hq : isQ q) : (D.clo 140 [D.rptr [D.rptr (fieldC q)]]).nr := ⟨⟨nr_field hq, trivial⟩, trivial⟩
theorem vc93 : ∀ x, C93.pre x → VC T93 Hz2 Try.f93 C93 x := by
 rintro ⟨v, (l : List Int), ⟨⟩⟩ ⟨⟨q, hq, (rfl : v = _)⟩, (hl : l.length ≤ 1000000000)⟩
 show Pl.okTl l (D.clo (140 : Nat) [D.rptr [D.rptr (fieldC q)]]) ∧
   (!l.any (Pl.tells (D.clo (140 : Nat) [D.rptr [D.rptr (fieldC q)]])), ()) = C93.post (fieldD q, l, ())
 refine ⟨⟨hl, nr_out hq, .inr (.inr ⟨fieldC q, rfl, q, _, _, rfl, nr_ar hq, trivial, trivial, rfl, trivial, trivial⟩)⟩, ?_⟩
 show _ = (Pl.els q l, ())
 congr 1
 unfold Pl.els
 rw [List.not_any_eq_all_not]
 congr 1
 funext a
 show (!(decide (a < 0) || decide (a ≥ q))) = _
 by_cases h1 : 0 ≤ a <;> by_cases h2 : a < q
 ·rw [decide_eq_false (show ¬ a < 0 by omega), decide_eq_false (show ¬ a ≥ q by omega), decide_eq_true h1, decide_eq_true h2]; rfl
 ·rw [decide_eq_true (show a ≥ q by omega), decide_eq_false h2]; simp
 ·rw [decide_eq_true (show a < 0 by omega), decide_eq_false h1]; rfl
 ·rw [decide_eq_true (show a < 0 by omega), decide_eq_false h1]; rfl
theorem vc135 : ∀ x, C135.pre x → VC T135 H0 Try.f135 C135 x := by
 rintro ⟨(l : List Int), v, ⟨⟩⟩ ⟨⟨f, ⟨q, hq, (rfl : f = _)⟩, (rfl : v = _)⟩, (hl : l.length ≤ 1000000000)⟩
 show (Pl.okF (fieldD q) ∧ l.length ≤ (1000000000 : Nat)) ∧
   (!Pl.els (Pl.qF (fieldD q)) l, ()) = C135.post (l, D.rptr [fieldD q], ())
 exact ⟨⟨okF_d hq, hl⟩, rfl⟩
theorem rd_r (m : List (List Int)) (i : Nat) : rd i64.slc m (i : Int) = m.getD i [] := rfl
theorem rd_r0 (m : List (List Int)) : rd i64.slc m (0 : Int) = m.getD 0 [] := rfl
theorem rowD_mem {m : List (List Int)} {i : Nat} (h : i < m.length) : m.getD i [] ∈ m := by
 rw [List.getD_eq_getElem?_getD, List.getElem?_eq_getElem h]; exact List.getElem_mem h
theorem idxR_le (p : List Int → Bool) : ∀ (m : List (List Int)) (k : Int), 0 ≤ k → (Pl.idxR p m k = -1 ∧ m.any p = false) ∨ (0 ≤ Pl.idxR p m k ∧ m.any p = true)
 | [], k, hk => .inl ⟨rfl, rfl⟩
 | x :: m, k, hk => by
  rw [Pl.idxR, List.any_cons]
  cases hp : p x with
  | true => exact .inr ⟨hk, rfl⟩
  | false => exact idxR_le p m (k + 1) (by omega)
theorem vc160 : ∀ x, C160.pre x → VC T160 H160 Try.f160 C160 x := by
 rintro ⟨(m : List (List Int)), v, ⟨⟩⟩ ⟨⟨f, ⟨q, hq, (rfl : f = _)⟩, (rfl : v = _)⟩, (hl : m.length ≤ 1000000000), (hr : ∀ r ∈ m, r.length ≤ 1000000000)⟩
 show ∃ (n : Nat), itl (fun (G : Int × PUnit → Prop) (x : Int × PUnit) => Br (decide (x.fst < (↑m.length : Int))) ((0 : Int) ≤ x.fst ∧ x.fst < (↑m.length : Int) ∧ ((∃ (f : D), Pl.okF f ∧ D.clo (135 : FuncId) [D.rptr [fieldD q]] = badC f) ∧ List.length (rd i64.slc m x.fst) ≤ (1000000000 : Nat)) ∧ Br (Pl.bad (D.clo (135 : FuncId) [D.rptr [fieldD q]]) (rd i64.slc m x.fst)) (x = C160.post (m, badC (fieldD q), ())) (G (IntKind.i64.wrap (x.fst + (1 : Int)), ()))) (((-1 : Int), ()) = C160.post (m, badC (fieldD q), ()))) n ((0 : Int), ())
 have hp : C160.post (m, badC (fieldD q), ()) = (Pl.idxR (Pl.bad (badC (fieldD q))) m 0, ()) := rfl
 rw [hp]
 have hb : D.clo (135 : FuncId) [D.rptr [fieldD q]] = badC (fieldD q) := rfl
 rw [hb]
 refine itl_rule (fun s => ∃ i : Nat, s.1 = (i : Int) ∧ i ≤ m.length ∧ Pl.idxR (Pl.bad (badC (fieldD q))) (m.drop i) (i : Int) = Pl.idxR (Pl.bad (badC (fieldD q))) m 0) (fun s => ((m.length : Int) - s.1).toNat) ⟨0, rfl, Nat.zero_le _, rfl⟩ ?_
 rintro ⟨i0, ⟨⟩⟩ G ⟨i, e, hi, hf⟩ hG
 simp only at e hf hG ⊢
 subst e
 refine Br_of (fun h => ?_) (fun h => ?_)
 ·have h : i < m.length := by have := of_decide_eq_true h; omega
  rw [rd_r, wrap_i64 (by omega) (by omega)]
  rw [drop_cons [] h, Pl.idxR] at hf
  refine ⟨by omega, by omega, ⟨⟨_, okF_d hq, rfl⟩, hr _ (rowD_mem h)⟩, Br_of (fun h1 => ?_) (fun h1 => ?_)⟩
  ·rw [h1, cond_true] at hf
   rw [← hf]
  ·rw [h1, cond_false] at hf
   exact hG _ ⟨i + 1, rfl, by omega, hf⟩ (by simp only; omega)
 ·have h : i = m.length := by have := of_decide_eq_false h; omega
  subst h
  rw [List.drop_length] at hf
  rw [← hf]; rfl
theorem vc134 : ∀ x, C134.pre x → VC T134 H0 Try.f134 C134 x := by
 rintro ⟨(m : List (List Int)), v, ⟨⟩⟩ (h0 : Pl.okBd m v)
 have h1 := h0
 obtain ⟨⟨f, ⟨q, hq, (rfl : f = _)⟩, (rfl : v = _)⟩, _, _⟩ := h1
 show Pl.okBd m (D.clo (135 : FuncId) [D.rptr [fieldD q]]) ∧
   (decide (Pl.idxR (Pl.bad (D.clo (135 : FuncId) [D.rptr [fieldD q]])) m (0 : Int) ≥ (0 : Int)), ()) =
    C134.post (m, badC (fieldD q), ())
 refine ⟨h0, ?_⟩
 show _ = (m.any (Pl.bad (badC (fieldD q))), ())
 have hb : D.clo (135 : FuncId) [D.rptr [fieldD q]] = badC (fieldD q) := rfl
 rw [hb]
 rcases idxR_le (Pl.bad (badC (fieldD q))) m 0 (Int.le_refl _) with ⟨h1, h2⟩ | ⟨h1, h2⟩
 ·rw [h1, h2]; rfl
 ·rw [h2, decide_eq_true h1]
theorem vc89 : ∀ x, C89.pre x → VC T89 H89 Try.f89 C89 x := by
 rintro ⟨v, (m : List (List Int)), ⟨⟩⟩ ⟨⟨q, hq, (rfl : v = _)⟩, (hl : m.length ≤ 1000000000), (hr : ∀ r ∈ m, r.length ≤ 1000000000)⟩
 show Br (decide ((↑m.length : Int) > (64 : Int))) (((2 : Int), ()) = C89.post (fieldD q, m, ())) (Br (decide ((↑m.length : Int) > (0 : Int))) ((0 : Int) ≤ (0 : Int) ∧ (0 : Int) < (↑m.length : Int) ∧ Br (decide ((↑(List.length (rd i64.slc m (0 : Int))) : Int) > (64 : Int))) (((2 : Int), ()) = C89.post (fieldD q, m, ())) (∃ (n : Nat), itl (fun (G : Int × PUnit → Prop) (x : Int × PUnit) => Br (decide (x.fst < (↑m.length : Int))) ((0 : Int) ≤ x.fst ∧ x.fst < (↑m.length : Int) ∧ (0 : Int) ≤ (0 : Int) ∧ (0 : Int) < (↑m.length : Int) ∧ Br ((↑(List.length (rd i64.slc m x.fst)) : Int) != (↑(List.length (rd i64.slc m (0 : Int))) : Int)) (((7 : Int), ()) = C89.post (fieldD q, m, ())) (G (IntKind.i64.wrap (x.fst + (1 : Int)), ()))) (Pl.okBd m (D.clo (135 : Nat) [D.rptr [D.rptr (fieldC q)]]) ∧ Br (m.any (Pl.bad (D.clo (135 : Nat) [D.rptr [D.rptr (fieldC q)]]))) (((1 : Int), ()) = C89.post (fieldD q, m, ())) (((0 : Int), ()) = C89.post (fieldD q, m, ())))) n ((0 : Int), ()))) (∃ (n : Nat), itl (fun (G : Int × PUnit → Prop) (x : Int × PUnit) => Br (decide (x.fst < (↑m.length : Int))) ((0 : Int) ≤ x.fst ∧ x.fst < (↑m.length : Int) ∧ (0 : Int) ≤ (0 : Int) ∧ (0 : Int) < (↑m.length : Int) ∧ Br ((↑(List.length (rd i64.slc m x.fst)) : Int) != (↑(List.length (rd i64.slc m (0 : Int))) : Int)) (((7 : Int), ()) = C89.post (fieldD q, m, ())) (G (IntKind.i64.wrap (x.fst + (1 : Int)), ()))) (Pl.okBd m (D.clo (135 : Nat) [D.rptr [D.rptr (fieldC q)]]) ∧ Br (m.any (Pl.bad (D.clo (135 : Nat) [D.rptr [D.rptr (fieldC q)]]))) (((1 : Int), ()) = C89.post (fieldD q, m, ())) (((0 : Int), ()) = C89.post (fieldD q, m, ())))) n ((0 : Int), ())))
 have hp : C89.post (fieldD q, m, ()) = (Pl.shape q m, ()) := rfl
 rw [hp, rd_r0]
 have hb : D.clo (135 : Nat) [D.rptr [D.rptr (fieldC q)]] = badC (fieldD q) := rfl
 rw [hb]
 have hbad : Pl.bad (badC (fieldD q)) = fun r => !Pl.els q r := rfl
 rw [hbad]
 refine Br_of (fun h => ?_) (fun h => ?_)
 ·unfold Pl.shape
  have h : m.length > 64 := by have := of_decide_eq_true h; omega
  rw [decide_eq_true h]; rfl
 have h : ¬ m.length > 64 := by have := of_decide_eq_false h; omega
 have rest : ¬ (m.length > 0 ∧ Pl.wide m > 64) → ∃ n, itl (fun (G : Int × Unit → Prop) (x : Int × Unit) => Br (decide (x.1 < (m.length : Int))) ((0 : Int) ≤ x.1 ∧ x.1 < (m.length : Int) ∧ (0 : Int) ≤ (0 : Int) ∧ (0 : Int) < (m.length : Int) ∧ Br (((rd i64.slc m x.1).length : Int) != ((m.getD 0 []).length : Int)) (((7 : Int), ()) = (Pl.shape q m, ())) (G (IntKind.i64.wrap (x.1 + (1 : Int)), ())))
   (Pl.okBd m (badC (fieldD q)) ∧ Br (m.any fun r => !Pl.els q r) (((1 : Int), ()) = (Pl.shape q m, ())) (((0 : Int), ()) = (Pl.shape q m, ())))) n ((0 : Int), ()) := fun hw => by
  refine itl_rule (fun s => ∃ i : Nat, s.1 = (i : Int) ∧ i ≤ m.length ∧ (m.drop i).any (fun r => decide (r.length ≠ Pl.wide m)) = m.any (fun r => decide (r.length ≠ Pl.wide m))) (fun s => ((m.length : Int) - s.1).toNat) ⟨0, rfl, Nat.zero_le _, rfl⟩ ?_
  have hs : Pl.shape q m = bif m.any (fun r => decide (r.length ≠ Pl.wide m)) then 7 else bif m.any (fun r => !Pl.els q r) then 1 else 0 := by
   unfold Pl.shape
   have e : (decide (m.length > 64) || (decide (m.length > 0) && decide (Pl.wide m > 64))) = false := by
    rw [decide_eq_false h]
    by_cases c1 : m.length > 0
    ·rw [decide_eq_false (fun c2 => hw ⟨c1, c2⟩)]; simp
    ·rw [decide_eq_false c1]; rfl
   rw [e]; rfl
  rintro ⟨i0, ⟨⟩⟩ G ⟨i, e, hi, hf⟩ hG
  simp only at e hf hG ⊢
  subst e
  refine Br_of (fun h => ?_) (fun h => ?_)
  ·have h : i < m.length := by have := of_decide_eq_true h; omega
   rw [rd_r, wrap_i64 (by omega) (by omega)]
   rw [drop_cons [] h, List.any_cons] at hf
   refine ⟨by omega, by omega, by omega, by omega, Br_of (fun h1 => ?_) (fun h1 => ?_)⟩
   ·have h1 : (m.getD i []).length ≠ Pl.wide m := by
     have : ((m.getD i []).length : Int) ≠ ((m.getD 0 []).length : Int) := by simpa using h1
     unfold Pl.wide; omega
    rw [decide_eq_true h1, Bool.true_or] at hf
    rw [hs, ← hf]; rfl
   ·have h1 : (m.getD i []).length = Pl.wide m := by
     have : ((m.getD i []).length : Int) = ((m.getD 0 []).length : Int) := by simpa using h1
     unfold Pl.wide; omega
    rw [decide_eq_false (not_not_intro h1), Bool.false_or] at hf
    exact hG _ ⟨i + 1, rfl, by omega, hf⟩ (by simp only; omega)
  ·have h : i = m.length := by have := of_decide_eq_false h; omega
   subst h
   rw [List.drop_length] at hf
   rw [hs, ← hf]
   exact ⟨⟨⟨_, okF_d hq, rfl⟩, hl, hr⟩, Br_of (fun h => by rw [h]; rfl) (fun h => by rw [h]; rfl)⟩
 refine Br_of (fun h2 => ?_) (fun h2 => ?_)
 ·have h2 : m.length > 0 := by have := of_decide_eq_true h2; omega
  refine ⟨by omega, by omega, Br_of (fun h3 => ?_) (fun h3 => ?_)⟩
  ·have h3 : Pl.wide m > 64 := by have := of_decide_eq_true h3; unfold Pl.wide; omega
   unfold Pl.shape
   rw [decide_eq_true h2, decide_eq_true h3, decide_eq_false h]; rfl
  ·have h3 : ¬ Pl.wide m > 64 := by have := of_decide_eq_false h3; unfold Pl.wide; omega
   exact rest (fun hh => h3 hh.2)
 ·have h2 : ¬ m.length > 0 := by have := of_decide_eq_false h2; omega
  exact rest (fun hh => h2 hh.1)
theorem vc92 : ∀ x, C92.pre x → VC T92 H0 Try.f92 C92 x := by
  rintro ⟨v, (m : List (List Int)), (b : List Int), ⟨⟩⟩ ⟨⟨q, hq, (rfl : v = _)⟩, (hm : Pl.okMM m), (hb : b.length ≤ 1000000000)⟩
  show (Pl.okF (D.rptr (fieldC q)) ∧ Pl.okMM m) ∧ Br (Pl.shape (Pl.qF (D.rptr (fieldC q))) m != (0 : Int)) ((Pl.shape (Pl.qF (D.rptr (fieldC q))) m, ()) = C92.post (fieldD q, m, b, ())) (Br ((↑b.length : Int) != (↑m.length : Int)) (((7 : Int), ()) = C92.post (fieldD q, m, b, ())) ((Pl.okF (D.rptr (fieldC q)) ∧ b.length ≤ (1000000000 : Nat)) ∧ Br (!Pl.els (Pl.qF (D.rptr (fieldC q))) b) (((1 : Int), ()) = C92.post (fieldD q, m, b, ())) (((0 : Int), ()) = C92.post (fieldD q, m, b, ()))))
  have hp : C92.post (fieldD q, m, b, ()) = (Pl.sys q m b, ()) := rfl
  rw [hp, qF_f]
  unfold Pl.sys
  refine ⟨⟨okF_f hq, hm⟩, Br_of (fun h => ?_) (fun h => ?_)⟩
  · have h : Pl.shape q m ≠ 0 := by simpa using h
    rw [decide_eq_true h]; rfl
  · have h : Pl.shape q m = 0 := by simpa using h
    rw [decide_eq_false (not_not_intro h), cond_false]
    refine Br_of (fun h1 => ?_) (fun h1 => ?_)
    · have h1 : b.length ≠ m.length := by have : (b.length : Int) ≠ m.length := by simpa using h1
                                          omega
      rw [decide_eq_true h1]; rfl
    · have h1 : b.length = m.length := by have : (b.length : Int) = m.length := by simpa using h1
                                          omega
      rw [decide_eq_false (not_not_intro h1), cond_false]
      refine ⟨⟨okF_f hq, hb⟩, Br_of (fun h2 => ?_) (fun h2 => ?_)⟩
      · have h2 : Pl.els q b = false := by simpa using h2
        rw [h2]; rfl
      · have h2 : Pl.els q b = true := by simpa using h2
        rw [h2]; rfl

theorem nrc95 : NRC C95 := ⟨fun x hx => ⟨okF_nr hx, trivial, trivial⟩, fun x hx => ⟨trivial, trivial⟩⟩
theorem nrcF {f : Int → Int → Int → Int} : NRC (Cf2 f) := ⟨fun x hx => ⟨okF_nr hx, trivial, trivial, trivial⟩, fun x hx => ⟨trivial, trivial⟩⟩
theorem nrc42 : NRC C42 := ⟨fun x hx => ⟨okF_nr hx, trivial⟩, fun x hx => ⟨trivial, trivial⟩⟩
theorem nrc80 : NRC C80 := ⟨fun x hx => ⟨okF_nr hx, trivial⟩, fun x hx => ⟨rfl, trivial⟩⟩
theorem nrc104 : NRC C104 := ⟨fun x hx => ⟨okF_nr hx.1, trivial, trivial⟩, fun x hx => ⟨rfl, trivial⟩⟩
theorem nrc55 : NRC C55 := ⟨fun x hx => ⟨okF_nr hx, trivial, trivial⟩, fun x hx => ⟨trivial, trivial⟩⟩
theorem nrc94 : NRC C94 := ⟨fun x hx => ⟨okF_nr hx.1, rfl, rfl, trivial⟩, fun x hx => ⟨trivial, trivial⟩⟩
theorem nrc93 : NRC C93 := ⟨fun x hx => ⟨okF_nr hx.1, rfl, trivial⟩, fun x hx => ⟨trivial, trivial⟩⟩
theorem nrc135 : NRC C135 := by
 refine ⟨?_, fun x hx => ⟨trivial, trivial⟩⟩
 rintro ⟨l, v, ⟨⟩⟩ ⟨⟨f, hf, (rfl : v = _)⟩, _⟩
 exact ⟨rfl, ⟨okF_nr hf, trivial⟩, trivial⟩
theorem nr_bad {f : D} (hf : Pl.okF f) : (badC f).nr := ⟨⟨okF_nr hf, trivial⟩, trivial⟩
theorem nrc160 : NRC C160 := by
 refine ⟨?_, fun x hx => ⟨trivial, trivial⟩⟩
 rintro ⟨l, v, ⟨⟩⟩ ⟨⟨f, hf, (rfl : v = _)⟩, _⟩
 exact ⟨rfl, nr_bad hf, trivial⟩
theorem nrc134 : NRC C134 := by
 refine ⟨?_, fun x hx => ⟨trivial, trivial⟩⟩
 rintro ⟨l, v, ⟨⟩⟩ ⟨⟨f, hf, (rfl : v = _)⟩, _⟩
 exact ⟨rfl, nr_bad hf, trivial⟩
theorem nrc89 : NRC C89 := ⟨fun x hx => ⟨okF_nr hx.1, rfl, trivial⟩, fun x hx => ⟨trivial, trivial⟩⟩
theorem nrc92 : NRC C92 := ⟨fun x hx => ⟨okF_nr hx.1, rfl, rfl, trivial⟩, fun x hx => ⟨trivial, trivial⟩⟩
theorem tokF {fs : List (Nat × Con)} (h : AllS Try.prog fs) : Tok Try.prog (TF fs) := tokg (T := TF fs) h trivial trivial invsV noCv
theorem snd95 : Sound Try.prog 95 C95 := fn_sound (T := TT []) (fn := Try.f95) (tok0 trivial) Try.func95 (by kernel_rfl) H0 vc95 (by kernel_rfl) (hC := nrc95)
theorem snd34 : Sound Try.prog 34 C34 := fn_sound (T := T30) (fn := Try.f34) (tokF ⟨snd95, trivial⟩) Try.func34 (by kernel_rfl) H0 vc34 (by kernel_rfl) (hC := nrcF)
theorem snd42 : Sound Try.prog 42 C42 := fn_sound (T := TT []) (fn := Try.f42) (tok0 trivial) Try.func42 (by kernel_rfl) H0 vc42 (by kernel_rfl) (hC := nrc42)
theorem snd80 : Sound Try.prog 80 C80 := fn_sound (T := TT [(123, C123)]) (fn := Try.f80) (tok0 ⟨snd123, trivial⟩) Try.func80 (by kernel_rfl) H0 vc80 (by kernel_rfl) (hC := nrc80)
theorem snd104 : Sound Try.prog 104 C104 := fn_sound (T := T104) (fn := Try.f104) (tok0 ⟨snd100, trivial⟩) Try.func104 (by kernel_rfl) H104 vc104 (by kernel_rfl) (hC := nrc104)
theorem snd55 : Sound Try.prog 55 C55 := fn_sound (T := T55) (fn := Try.f55) (tokF ⟨snd95, snd104, trivial⟩) Try.func55 (by kernel_rfl) H55 vc55 (by kernel_rfl) (hC := nrc55)
theorem snd94 : Sound Try.prog 94 C94 := fn_sound (T := TF []) (fn := Try.f94) (tokF trivial) Try.func94 (by kernel_rfl) H94 vc94 (by kernel_rfl) (hC := nrc94)
theorem snd93 : Sound Try.prog 93 C93 := fn_sound (T := T93) (fn := Try.f93) (tok0 ⟨snd139, trivial⟩) Try.func93 (by kernel_rfl) Hz2 vc93 (by kernel_rfl) (hC := nrc93)
theorem snd135 : Sound Try.prog 135 C135 := fn_sound (T := T135) (fn := Try.f135) (tok0 ⟨snd93, trivial⟩) Try.func135 (by kernel_rfl) H0 vc135 (by kernel_rfl) (hC := nrc135)
theorem sndVbad : SoundCv Try.prog Vbad := cv_of fun x hx => by
 obtain ⟨v, (l : List Int), ⟨⟩⟩ := x
 obtain ⟨⟨f, hf, (hv : v = badC f)⟩, hl⟩ := hx
 subst hv
 exact ⟨135, [.rptr [f]], [.slc false i64 l], C135, (l, .rptr [f], ()), snd135, .inl ⟨rfl, rfl⟩, ⟨⟨f, hf, rfl⟩, hl⟩, rfl, rfl⟩
theorem snd160 : Sound Try.prog 160 C160 := fn_sound (T := T160) (fn := Try.f160) (tokg (T := T160) trivial trivial trivial noInv (fun C h => by injection h with h; subst h; exact sndVbad)) Try.func160 (by kernel_rfl) H160 vc160 (by kernel_rfl) (hC := nrc160)
theorem snd134 : Sound Try.prog 134 C134 := fn_sound (T := T134) (fn := Try.f134) (tok0 ⟨snd160, trivial⟩) Try.func134 (by kernel_rfl) H0 vc134 (by kernel_rfl) (hC := nrc134)
theorem snd89 : Sound Try.prog 89 C89 := fn_sound (T := T89) (fn := Try.f89) (tok0 ⟨snd134, trivial⟩) Try.func89 (by kernel_rfl) H89 vc89 (by kernel_rfl) (hC := nrc89)
theorem snd92 : Sound Try.prog 92 C92 := fn_sound (T := T92) (fn := Try.f92) (tok0 ⟨snd89, snd93, trivial⟩) Try.func92 (by kernel_rfl) H0 vc92 (by kernel_rfl) (hC := nrc92)
end Fd
end
section
set_option linter.unusedVariables false
set_option linter.unusedSimpArgs false
set_option maxRecDepth 100000
namespace Fd
open Go Fw Go.Proofs

def Pl.recS (q : Int) (m : List (List Int)) : XO × List Int := Pl.ech q (2 * m.length - 1) (2 * m.length) (Pl.recX m m.length, Pl.recO m.length)
def Pl.rowsO (xo : XO) (r : Nat) : List (List Int) := (mrow xo.2 r).map (mrow xo.1)
def Pl.echR (q : Int) (m : List (List Int)) : List (List Int) := Pl.rowsO (Pl.recS q m).1 (2 * m.length - 1)
def Pl.echD (q : Int) (m : List (List Int)) : List (List Int) := Pl.rowsO (Pl.recS q m).1 (2 * m.length)
def Pl.echC (q : Int) (m : List (List Int)) : List Int := (Pl.recS q m).2
def ars4 : List (Nat × Fw.Obj) := [(0, .aren 3 i64 []), (1, .abox 107 []), (2, .aren 30 (.ref 0) []), (4, .aren 3 i64 [])]
def Pl.denL (q : Int) (b : List Int) : List (List Int) → Option (List Int)
 | [] => none
 | w :: l => bif decide (Pl.dot q w b ≠ 0) then some w else Pl.denL q b l
def Pl.den (q : Int) (m : List (List Int)) (b : List Int) : Option (List Int) := Pl.denL q b ((Pl.echD q m).drop (Pl.echC q m).length)
def Pl.solL (q : Int) (b : List Int) : List Int → List (List Int) → List Int → List Int
 | c :: cs, r :: rs, x => Pl.solL q b cs rs (x.set c.toNat (Pl.dot q r b))
 | _, _, x => x
def Pl.sol (q : Int) (m : List (List Int)) (b : List Int) : List Int := Pl.solL q b (Pl.echC q m) (Pl.echD q m) (List.replicate (Pl.wide m) 0)
def Pl.okSy (x : D × List (List Int) × List Int × Unit) : Prop := Pl.okF x.1 ∧ Pl.okMM x.2.1 ∧ x.2.2.1.length ≤ 1000000000
def C101s : Con := ⟨[.raw, LL, L], [L, .raw], fun (x : D × List (List Int) × List Int × Unit) => Pl.okSy x ∧ Pl.sys (Pl.qF x.1) x.2.1 x.2.2.1 = 0 ∧ Pl.den (Pl.qF x.1) x.2.1 x.2.2.1 = none, fun (x : D × List (List Int) × List Int × Unit) => (Pl.sol (Pl.qF x.1) x.2.1 x.2.2.1, .val (.slice none 0 0), ()), none⟩
def Pl.denW (q : Int) (m : List (List Int)) (b : List Int) : List Int := (Pl.den q m b).getD []
def C101d : Con := ⟨[.raw, LL, L], [L, L], fun (x : D × List (List Int) × List Int × Unit) => Pl.okSy x ∧ Pl.sys (Pl.qF x.1) x.2.1 x.2.2.1 = 0 ∧ Pl.den (Pl.qF x.1) x.2.1 x.2.2.1 ≠ none, fun (x : D × List (List Int) × List Int × Unit) => ([], Pl.denW (Pl.qF x.1) x.2.1 x.2.2.1, ()), none⟩
def T101 : Ctx := ⟨tt, [(94, C94)], [], none, [(90, pt90), (91, pt91)], 100, [0, 1, 2, 4], [], 0, [], ars4, [], []⟩
def H101 : Hints := ⟨[], [], [(0, ⟨[0, 1, 2, 8, 9, 26, 27], [(6, so), (28, si), (0, s0), (1, .ad 107), (2, sO), (4, s0)]⟩), (2, ⟨[0, 2, 8, 47, 48], [(6, so), (49, si), (0, s0), (1, .ad 107), (2, sO), (4, s0)]⟩)], [90, 91], [(3, ([8, 9], [0, 1, 2, 4]))]⟩
def T46 (C : Con) : Ctx := TT [(92, C92), (101, C)]
def Pl.deny (q : Int) (m : List (List Int)) (b : List Int) : List Int × Bool := bif decide (Pl.sys q m b ≠ 0) then ([], false) else (match Pl.den q m b with
 | some w => (w, true)
 | none => ([], false))
def Cdeny (p : D × List (List Int) × List Int × Unit → Prop) : Con := ⟨[.raw, LL, L], [L, B], fun (x : D × List (List Int) × List Int × Unit) => Pl.okSy x ∧ p x, fun (x : D × List (List Int) × List Int × Unit) => ((Pl.deny (Pl.qF x.1) x.2.1 x.2.2.1).1, (Pl.deny (Pl.qF x.1) x.2.1 x.2.2.1).2, ()), none⟩
def Pl.isS (x : D × List (List Int) × List Int × Unit) : Prop := Pl.sys (Pl.qF x.1) x.2.1 x.2.2.1 = 0 → Pl.den (Pl.qF x.1) x.2.1 x.2.2.1 = none
def Pl.isD (x : D × List (List Int) × List Int × Unit) : Prop := Pl.sys (Pl.qF x.1) x.2.1 x.2.2.1 = 0 ∧ Pl.den (Pl.qF x.1) x.2.1 x.2.2.1 ≠ none
def C46s : Con := Cdeny Pl.isS
def C46d : Con := Cdeny Pl.isD
def C46 : Con := Cdeny fun _ => True
end Fd
end
section
set_option linter.unusedVariables false
set_option linter.unusedSimpArgs false
set_option linter.unusedSectionVars false
set_option maxRecDepth 100000
namespace Fd
open Go Fw Go.Proofs

section
variable {q : Int} {r1 r2 n w : Nat} {xs : XS} {os : OS}
theorem kf_bound {col : Int} {N : Nat} (hl : Pl.len os r1 = N) : ∀ (f : Nat) (k : Int), k ≤ N → k ≤ Pl.kf xs os r1 col f k ∧ Pl.kf xs os r1 col f k ≤ N
 | 0, k, h => ⟨Int.le_refl _, h⟩
 | f + 1, k, h => by
  rw [Pl.kf]
  cases hb : (decide (k < (Pl.len os r1 : Int)) && decide (Pl.ent xs os r1 k col = 0)) with
  | false => exact ⟨Int.le_refl _, h⟩
  | true =>
   have h1 : k < (Pl.len os r1 : Int) := by simp at hb; exact hb.1
   rw [hl] at h1
   have := kf_bound (col := col) hl f (k + 1) (by omega)
   rw [cond_true]
   exact ⟨by omega, this.2⟩
theorem Rec_okv (hq : isQ q) : Pl.okA (arD q) ∧ Pl.qA (arD q) = q := ⟨okA_ar hq, qA_ar hq⟩
theorem Rec_elim1 (hq : isQ q) (h : Pl.Rec q r1 r2 n w xs os) {at_ col i : Int} (a0 : 0 ≤ at_) (a1 : at_ < n) (c0 : 0 ≤ col) (c1 : col < w) (i0 : 0 ≤ i) (i1 : i < n) : Pl.Rec q r1 r2 n w (Pl.elim1 q r1 r2 os at_ col i xs) os := by
 by_cases h1 : i = at_
 ·rw [elim_no (.inl h1)]; exact h
 ·by_cases h2 : Pl.ent xs os r1 i col = 0
  ·rw [elim_no (.inr h2)]; exact h
  ·rw [elim_yes h1 h2]
   obtain ⟨v1, v2⟩ := Rec_okv hq
   exact (Rec_tk hq v1 v2 h i0 i1 a0 a1 h1 (Rec_ent h i0 i1 c0 c1).2.2).2
theorem Rec_elim (hq : isQ q) {at_ col : Int} (a0 : 0 ≤ at_) (a1 : at_ < n) (c0 : 0 ≤ col) (c1 : col < w) : ∀ (m : Nat) {xs : XS}, m ≤ n → Pl.Rec q r1 r2 n w xs os → Pl.Rec q r1 r2 n w (Pl.elim q r1 r2 os at_ col m xs) os
 | 0, xs, _, h => h
 | m + 1, xs, hm, h => Rec_elim1 hq (Rec_elim hq a0 a1 c0 c1 m (by omega) h) a0 a1 c0 c1 (by omega) (by omega)
theorem Rec_col (hq : isQ q) (h : Pl.Rec q r1 r2 n w xs os) {cs : List Int} {col : Int} (hcs : cs.length ≤ n) (c0 : 0 ≤ col) (c1 : col < w) :
  Pl.Rec q r1 r2 n w (Pl.col q r1 r2 (xs, os) cs col).1.1 (Pl.col q r1 r2 (xs, os) cs col).1.2 ∧ (Pl.col q r1 r2 (xs, os) cs col).2.length ≤ n ∧ ((Pl.col q r1 r2 (xs, os) cs col).2 = cs ∨ (Pl.col q r1 r2 (xs, os) cs col).2 = cs ++ [col]) := by
 have hl : Pl.len os r1 = n := h.l1
 have hk := kf_bound (xs := xs) (col := col) hl (Pl.len os r1 + 1) cs.length (by omega)
 by_cases e : Pl.colK r1 (xs, os) cs.length col = (Pl.len os r1 : Int)
 ·rw [col_no e]; exact ⟨h, hcs, .inl rfl⟩
 ·obtain ⟨k, hkk⟩ : ∃ k, Pl.colK r1 (xs, os) cs.length col = k := ⟨_, rfl⟩
  rw [col_yes (n := n) hkk hl (by rw [← hkk, ← hl]; exact e)]
  rw [hl] at e
  have e1 : Pl.colK r1 (xs, os) cs.length col = Pl.kf xs os r1 col (Pl.len os r1 + 1) cs.length := rfl
  have h2 := (Rec_sw h (i := cs.length) (k := k) (by omega) (by omega) (by omega) (by omega)).2
  obtain ⟨v1, v2⟩ := Rec_okv hq
  have h3 := (Rec_sc hq v1 v2 h2 (i := cs.length) (c := Pl.inv q (Pl.ent xs (Pl.colO r1 r2 os cs.length k) r1 cs.length col)) (by omega) (by omega) (inv_inQ hq _)).2
  exact ⟨Rec_elim hq (by omega) (by omega) c0 c1 n (Nat.le_refl _) h3, by rw [List.length_append]; simp; omega, .inr rfl⟩
theorem Rec_cols (hq : isQ q) (h : Pl.Rec q r1 r2 n w xs os) : ∀ (j : Nat), j ≤ w → Pl.Rec q r1 r2 n w (Pl.cols q r1 r2 (xs, os) j).1.1 (Pl.cols q r1 r2 (xs, os) j).1.2 ∧ (Pl.cols q r1 r2 (xs, os) j).2.length ≤ n ∧ ∀ c ∈ (Pl.cols q r1 r2 (xs, os) j).2, 0 ≤ c ∧ c < w
 | 0, _ => ⟨h, Nat.zero_le _, fun c hc => by cases hc⟩
 | j + 1, hj => by
  obtain ⟨h1, h2, h3⟩ := Rec_cols hq h j (by omega)
  rw [Pl.cols]
  obtain ⟨k1, k2, k3⟩ := Rec_col hq h1 (cs := (Pl.cols q r1 r2 (xs, os) j).2) (col := (j : Int)) h2 (by omega) (by omega)
  refine ⟨k1, k2, fun c hc => ?_⟩
  rcases k3 with k3 | k3
  ·have hc' : c ∈ (Pl.col q r1 r2 (Pl.cols q r1 r2 (xs, os) j).1 (Pl.cols q r1 r2 (xs, os) j).2 (j : Int)).2 := hc
   rw [show Pl.col q r1 r2 (Pl.cols q r1 r2 (xs, os) j).1 = Pl.col q r1 r2 ((Pl.cols q r1 r2 (xs, os) j).1.1, (Pl.cols q r1 r2 (xs, os) j).1.2) from rfl, k3] at hc'
   exact h3 c hc'
  ·have hc' : c ∈ (Pl.col q r1 r2 (Pl.cols q r1 r2 (xs, os) j).1 (Pl.cols q r1 r2 (xs, os) j).2 (j : Int)).2 := hc
   rw [show Pl.col q r1 r2 (Pl.cols q r1 r2 (xs, os) j).1 = Pl.col q r1 r2 ((Pl.cols q r1 r2 (xs, os) j).1.1, (Pl.cols q r1 r2 (xs, os) j).1.2) from rfl, k3] at hc'
   rcases List.mem_append.1 hc' with hc' | hc'
   ·exact h3 c hc'
   ·have : c = (j : Int) := by simpa using hc'
    subst this
    omega
end
theorem recX_get (m : List (List Int)) : ∀ (n i : Nat), i < n → (Pl.recX m n)[2 * i]? = some (some (Pl.unitR m.length i)) ∧ (Pl.recX m n)[2 * i + 1]? = some (some (m.getD i []))
 | 0, i, h => by omega
 | n + 1, i, h => by
  have hl := recX_len m n
  rw [Pl.recX]
  by_cases e : i = n
  ·subst e
   rw [List.getElem?_append_right (by omega), List.getElem?_append_right (by omega), hl, Nat.sub_self, show 2 * i + 1 - 2 * i = 1 by omega]
   exact ⟨rfl, rfl⟩
  ·rw [List.getElem?_append_left (by omega), List.getElem?_append_left (by omega)]
   exact recX_get m n i (by omega)
theorem recR_mem : ∀ {n r : Nat}, r ∈ Pl.recR n ↔ ∃ i, i < n ∧ r = 2 * i + 2
 | 0, r => by simp [Pl.recR]
 | n + 1, r => by
  rw [Pl.recR, List.mem_append, recR_mem (n := n), List.mem_singleton]
  constructor
  ·rintro (⟨i, h, rfl⟩ | rfl)
   ·exact ⟨i, by omega, rfl⟩
   ·exact ⟨n, by omega, rfl⟩
  ·rintro ⟨i, h, rfl⟩
   by_cases e : i = n
   ·subst e; exact .inr rfl
   ·exact .inl ⟨i, by omega, rfl⟩
theorem recW_mem : ∀ {n r : Nat}, r ∈ Pl.recW n ↔ ∃ i, i < n ∧ r = 2 * i + 1
 | 0, r => by simp [Pl.recW]
 | n + 1, r => by
  rw [Pl.recW, List.mem_append, recW_mem (n := n), List.mem_singleton]
  constructor
  ·rintro (⟨i, h, rfl⟩ | rfl)
   ·exact ⟨i, by omega, rfl⟩
   ·exact ⟨n, by omega, rfl⟩
  ·rintro ⟨i, h, rfl⟩
   by_cases e : i = n
   ·subst e; exact .inr rfl
   ·exact .inl ⟨i, by omega, rfl⟩
theorem recR_nd : ∀ n, (Pl.recR n).Nodup
 | 0 => List.nodup_nil
 | n + 1 => by
  rw [Pl.recR, List.nodup_append]
  refine ⟨recR_nd n, by simp, fun a ha b hb => ?_⟩
  obtain ⟨i, hi, rfl⟩ := recR_mem.1 ha
  have := List.mem_singleton.1 hb
  omega
theorem recW_nd : ∀ n, (Pl.recW n).Nodup
 | 0 => List.nodup_nil
 | n + 1 => by
  rw [Pl.recW, List.nodup_append]
  refine ⟨recW_nd n, by simp, fun a ha b hb => ?_⟩
  obtain ⟨i, hi, rfl⟩ := recW_mem.1 ha
  have := List.mem_singleton.1 hb
  omega
theorem recO_rows {n : Nat} (h : 0 < n) : (mal (Pl.recO n) (2 * n - 1) ∧ mrow (Pl.recO n) (2 * n - 1) = Pl.recR n) ∧ mal (Pl.recO n) (2 * n) ∧ mrow (Pl.recO n) (2 * n) = Pl.recW n := by
 obtain ⟨k, rfl⟩ : ∃ k, n = k + 1 := ⟨n - 1, by omega⟩
 refine ⟨recO_1 _, ?_⟩
 rw [show 2 * (k + 1) = (2 * k + 1) + 1 by omega, Pl.recO]
 exact row_at (by rw [List.getElem?_append_right (by simp)]; simp)
theorem Rec_new {q : Int} (hq : isQ q) {m : List (List Int)} {w : Nat} (h0 : 0 < m.length) (hn : m.length ≤ 1000000) (hw : w ≤ 1000000000) (hr : ∀ r ∈ m, r.length = w ∧ ∀ x ∈ r, Pl.inQ q x) : Pl.Rec q (2 * m.length - 1) (2 * m.length) m.length w (Pl.recX m m.length) (Pl.recO m.length) := by
 obtain ⟨⟨a1, a2⟩, b1, b2⟩ := recO_rows h0
 refine ⟨a1, b1, by omega, by omega, by omega, by rw [a2, recR_len], by rw [b2, recW_len], ?_, ?_, ?_, by omega, hw⟩
 ·rw [a2, b2, List.nodup_append]
  refine ⟨recR_nd _, recW_nd _, fun a ha b hb => ?_⟩
  obtain ⟨i, _, rfl⟩ := recR_mem.1 ha
  obtain ⟨j, _, rfl⟩ := recW_mem.1 hb
  omega
 ·rw [a2]
  intro r hr'
  obtain ⟨i, hi, rfl⟩ := recR_mem.1 hr'
  obtain ⟨c1, c2⟩ := row_at (recX_get m m.length i hi).2
  obtain ⟨d1, d2⟩ := hr _ (rowD_mem hi)
  exact ⟨c1, by omega, by rw [c2]; exact d1, by rw [c2]; exact d2⟩
 ·rw [b2]
  intro r hr'
  obtain ⟨i, hi, rfl⟩ := recW_mem.1 hr'
  obtain ⟨c1, c2⟩ := row_at (recX_get m m.length i hi).1
  refine ⟨c1, by omega, by rw [c2]; unfold Pl.unitR; rw [List.length_set, List.length_replicate], ?_⟩
  rw [c2]
  unfold Pl.unitR
  intro x hx
  rcases List.mem_or_eq_of_mem_set hx with h | rfl
  ·rw [List.eq_of_mem_replicate h]; exact zero_inQ hq
  ·exact one_inQ hq
theorem els_in {q : Int} {l : List Int} (h : Pl.els q l = true) : ∀ x ∈ l, Pl.inQ q x := by
 intro x hx
 unfold Pl.els at h
 have := List.all_eq_true.1 h x hx
 simp at this
 exact this
theorem shape_0 {q : Int} {m : List (List Int)} (h : Pl.shape q m = 0) : m.length ≤ 64 ∧ Pl.wide m ≤ 64 ∧ ∀ r ∈ m, r.length = Pl.wide m ∧ ∀ x ∈ r, Pl.inQ q x := by
 unfold Pl.shape at h
 by_cases h1 : m.length > 64
 ·rw [decide_eq_true h1] at h; simp at h
 rw [decide_eq_false h1, Bool.false_or] at h
 have h2 : ¬ (m.length > 0 ∧ Pl.wide m > 64) := fun hh => by rw [decide_eq_true hh.1, decide_eq_true hh.2] at h; simp at h
 have e : (decide (m.length > 0) && decide (Pl.wide m > 64)) = false := by
  by_cases c1 : m.length > 0
  ·rw [decide_eq_false (fun c2 => h2 ⟨c1, c2⟩)]; simp
  ·rw [decide_eq_false c1]; rfl
 rw [e, cond_false] at h
 cases h3 : m.any fun r => decide (r.length ≠ Pl.wide m) with
 | true => rw [h3] at h; simp at h
 | false =>
  rw [h3, cond_false] at h
  cases h4 : m.any fun r => !Pl.els q r with
  | true => rw [h4] at h; simp at h
  | false =>
   refine ⟨by omega, ?_, fun r hr => ⟨?_, ?_⟩⟩
   ·by_cases c1 : m.length > 0
    ·omega
    ·have : m = [] := List.length_eq_zero_iff.1 (by omega)
     subst this; exact Nat.zero_le _
   ·have := List.any_eq_false.1 h3 r hr
    simpa using this
   ·have := List.any_eq_false.1 h4 r hr
    exact els_in (by simpa using this)
structure Pl.Fin (q : Int) (m : List (List Int)) : Prop where
 m1 : mal (Pl.recS q m).1.2 (2 * m.length - 1)
 m2 : mal (Pl.recS q m).1.2 (2 * m.length)
 a1 : ∀ i ∈ mrow (Pl.recS q m).1.2 (2 * m.length - 1), mal (Pl.recS q m).1.1 i
 a2 : ∀ i ∈ mrow (Pl.recS q m).1.2 (2 * m.length), mal (Pl.recS q m).1.1 i
 lR : (Pl.echR q m).length = m.length
 lD : (Pl.echD q m).length = m.length
 rR : ∀ r ∈ Pl.echR q m, r.length = Pl.wide m ∧ ∀ x ∈ r, Pl.inQ q x
 rD : ∀ r ∈ Pl.echD q m, r.length = m.length ∧ ∀ x ∈ r, Pl.inQ q x
 lC : (Pl.echC q m).length ≤ m.length
 cC : ∀ c ∈ Pl.echC q m, 0 ≤ c ∧ c < Pl.wide m
theorem rows_good {q : Int} {xs : XS} {w : Nat} {l : List Nat} (h : Pl.good q xs w l) : ∀ r ∈ l.map (mrow xs), r.length = w ∧ ∀ x ∈ r, Pl.inQ q x := by
 intro r hr
 obtain ⟨i, hi, rfl⟩ := List.mem_map.1 hr
 exact (h i hi).2.2
theorem pre_new {q : Int} (hq : isQ q) {m : List (List Int)} (hs : Pl.shape q m = 0) : Pl.okMx m ∧ Pl.preE (Pl.tyA q) (Pl.tyA q) (Pl.datA q) (Pl.datA q) (2 * m.length - 1) (2 * m.length) (Pl.recX m m.length) (Pl.recO m.length) ∧ Pl.Fin q m := by
 obtain ⟨h1, h2, h3⟩ := shape_0 hs
 have hM : Pl.okMx m := ⟨by omega, fun r hr => by rw [(h3 r hr).1]; omega⟩
 refine ⟨hM, ?_⟩
 by_cases h0 : 0 < m.length
 ·have hR := Rec_new hq h0 (by omega) (show Pl.wide m ≤ 1000000000 by omega) h3
  have hqA : Pl.qA (.iface (Pl.tyA q) (Pl.datA q)) = q := qA_ar hq
  refine ⟨⟨okA_ar hq, rfl, hR.m1, .inr ⟨_, _, h0, by rw [hqA]; exact hR⟩⟩, ?_⟩
  have hl : Pl.len (Pl.recO m.length) (2 * m.length - 1) ≠ 0 := by show (mrow _ _).length ≠ 0; rw [hR.l1]; omega
  have hw0 : (mrow (Pl.recX m m.length) (Pl.ri (Pl.recO m.length) (2 * m.length - 1) 0)).length = Pl.wide m := (hR.g1 _ (ri_mem (by omega) (by rw [hR.l1]; omega))).2.2.1
  have hE : Pl.recS q m = Pl.cols q (2 * m.length - 1) (2 * m.length) (Pl.recX m m.length, Pl.recO m.length) (Pl.wide m) := by
   unfold Pl.recS Pl.ech
   rw [decide_eq_false hl, cond_false, hw0]
  obtain ⟨k1, k2, k3⟩ := Rec_cols hq hR (Pl.wide m) (Nat.le_refl _)
  rw [← hE] at k1 k2 k3
  exact ⟨k1.m1, k1.m2, fun i hi => (k1.g1 i hi).1, fun i hi => (k1.g2 i hi).1, by unfold Pl.echR Pl.rowsO; rw [List.length_map, k1.l1], by unfold Pl.echD Pl.rowsO; rw [List.length_map, k1.l2], rows_good k1.g1, rows_good k1.g2, k2, k3⟩
 ·have e : m = [] := List.length_eq_zero_iff.1 (by omega)
  subst e
  refine ⟨⟨okA_ar hq, rfl, trivial, .inl rfl⟩, ?_⟩
  have hE : Pl.recS q [] = (([], []), []) := rfl
  exact ⟨by rw [hE]; exact trivial, by rw [hE]; exact trivial, (fun i hi => by (rw [hE] at hi; cases hi)), (fun i hi => by (rw [hE] at hi; cases hi)), (by unfold Pl.echR Pl.rowsO; rw [hE]; rfl), (by unfold Pl.echD Pl.rowsO; rw [hE]; rfl),
   (fun r hr => by (unfold Pl.echR Pl.rowsO at hr; rw [hE] at hr; cases hr)), (fun r hr => by (unfold Pl.echD Pl.rowsO at hr; rw [hE] at hr; cases hr)), (by unfold Pl.echC; rw [hE]; exact Nat.zero_le _), (fun c hc => by (unfold Pl.echC at hc; rw [hE] at hc; cases hc))⟩
end Fd
end
section
set_option linter.unusedVariables false
set_option linter.unusedSimpArgs false
set_option maxRecDepth 100000
namespace Fd
open Go Fw Go.Proofs

theorem recS_eq {q : Int} (hq : isQ q) (m : List (List Int)) : Pl.ech (Pl.qA (D.iface (Pl.tyA q) (Pl.datA q))) (2 * m.length - 1) (2 * m.length) (Pl.recX m m.length, Pl.recO m.length) = Pl.recS q m := by
 rw [show Pl.qA (D.iface (Pl.tyA q) (Pl.datA q)) = q from qA_ar hq]; rfl
theorem rowsD_eq (q : Int) (m : List (List Int)) : List.map (mrow (Pl.recS q m).1.1) (mrow (Pl.recS q m).1.2 (2 * m.length)) = Pl.echD q m := rfl
theorem den_sys {q : Int} {m : List (List Int)} {b : List Int} (h : Pl.sys q m b = 0) : Pl.shape q m = 0 ∧ b.length = m.length ∧ ∀ x ∈ b, Pl.inQ q x := by
 unfold Pl.sys at h
 by_cases h1 : Pl.shape q m = 0
 ·rw [decide_eq_false (not_not_intro h1), cond_false] at h
  by_cases h2 : b.length = m.length
  ·rw [decide_eq_false (not_not_intro h2), cond_false] at h
   cases h3 : Pl.els q b with
   | false => rw [h3] at h; simp at h
   | true => exact ⟨h1, h2, els_in h3⟩
  ·rw [decide_eq_true h2] at h; simp at h
 ·rw [decide_eq_true h1, cond_true] at h; exact absurd h h1
theorem sub_drop {α : Type} (l : List α) (k : Nat) : sub l (k : Int) (l.length : Int) = l.drop k := by
 unfold sub
 simp
theorem solL_nil (q : Int) (b : List Int) (rs : List (List Int)) (x : List Int) : Pl.solL q b [] rs x = x := by
 cases rs <;> rfl
theorem rd_rr (m : List (List Int)) (i : Nat) : rd i64.slc m (i : Int) = m.getD i [] := rfl
theorem vc101s : ∀ x, C101s.pre x → VC T101 H101 Try.f101 C101s x := by
 rintro ⟨v, (m : List (List Int)), (b : List Int), ⟨⟩⟩ ⟨⟨⟨q, hq, (rfl : v = _)⟩, (hm : Pl.okMM m), (hb : b.length ≤ 1000000000)⟩, (hs : Pl.sys (Pl.qF (fieldD q)) m b = 0), (hd : Pl.den (Pl.qF (fieldD q)) m b = none)⟩
 rw [qF_d] at hs hd
 obtain ⟨s1, s2, s3⟩ := den_sys hs
 obtain ⟨p1, p2, F⟩ := pre_new hq s1
 obtain ⟨c1, c2⟩ := cst_row (Pl.recS q m).2
 have hp : C101s.post (fieldD q, m, b, ()) = (Pl.sol q m b, .val (.slice none 0 0), ()) := rfl
 refine cast (α := Pl.okMx m ∧ (Pl.preE (Pl.tyA q) (Pl.tyA q) (Pl.datA q) (Pl.datA q) ((2 : Nat) * m.length - (1 : Nat)) ((2 : Nat) * m.length) (Pl.recX m m.length) (Pl.recO m.length) ∧ ([] : List (Option (List Int))) = []) ∧ mal (Pl.ech (Pl.qA (D.iface (Pl.tyA q) (Pl.datA q))) ((2 : Nat) * m.length - (1 : Nat)) ((2 : Nat) * m.length) (Pl.recX m m.length, Pl.recO m.length)).1.2 ((2 : Nat) * m.length - (1 : Nat)) ∧ (∀ (i : (Ty.ref (0 : Nat)).El), i ∈ mrow (Pl.ech (Pl.qA (D.iface (Pl.tyA q) (Pl.datA q))) ((2 : Nat) * m.length - (1 : Nat)) ((2 : Nat) * m.length) (Pl.recX m m.length, Pl.recO m.length)).1.2 ((2 : Nat) * m.length - (1 : Nat)) → mal (Pl.ech (Pl.qA (D.iface (Pl.tyA q) (Pl.datA q))) ((2 : Nat) * m.length - (1 : Nat)) ((2 : Nat) * m.length) (Pl.recX m m.length, Pl.recO m.length)).1.1 i) ∧ mal (Pl.ech (Pl.qA (D.iface (Pl.tyA q) (Pl.datA q))) ((2 : Nat) * m.length - (1 : Nat)) ((2 : Nat) * m.length) (Pl.recX m m.length, Pl.recO m.length)).1.2 ((2 : Nat) * m.length) ∧ (∀ (i : (Ty.ref (0 : Nat)).El), i ∈ mrow (Pl.ech (Pl.qA (D.iface (Pl.tyA q) (Pl.datA q))) ((2 : Nat) * m.length - (1 : Nat)) ((2 : Nat) * m.length) (Pl.recX m m.length, Pl.recO m.length)).1.2 ((2 : Nat) * m.length) → mal (Pl.ech (Pl.qA (D.iface (Pl.tyA q) (Pl.datA q))) ((2 : Nat) * m.length - (1 : Nat)) ((2 : Nat) * m.length) (Pl.recX m m.length, Pl.recO m.length)).1.1 i) ∧ mal (Pl.cst (Pl.ech (Pl.qA (D.iface (Pl.tyA q) (Pl.datA q))) ((2 : Nat) * m.length - (1 : Nat)) ((2 : Nat) * m.length) (Pl.recX m m.length, Pl.recO m.length)).2) (Pl.ech (Pl.qA (D.iface (Pl.tyA q) (Pl.datA q))) ((2 : Nat) * m.length - (1 : Nat)) ((2 : Nat) * m.length) (Pl.recX m m.length, Pl.recO m.length)).2.length ∧ (0 : Int) ≤ (↑(mrow (Pl.cst (Pl.ech (Pl.qA (D.iface (Pl.tyA q) (Pl.datA q))) ((2 : Nat) * m.length - (1 : Nat)) ((2 : Nat) * m.length) (Pl.recX m m.length, Pl.recO m.length)).2) (Pl.ech (Pl.qA (D.iface (Pl.tyA q) (Pl.datA q))) ((2 : Nat) * m.length - (1 : Nat)) ((2 : Nat) * m.length) (Pl.recX m m.length, Pl.recO m.length)).2.length).length : Int) ∧ (↑(mrow (Pl.cst (Pl.ech (Pl.qA (D.iface (Pl.tyA q) (Pl.datA q))) ((2 : Nat) * m.length - (1 : Nat)) ((2 : Nat) * m.length) (Pl.recX m m.length, Pl.recO m.length)).2) (Pl.ech (Pl.qA (D.iface (Pl.tyA q) (Pl.datA q))) ((2 : Nat) * m.length - (1 : Nat)) ((2 : Nat) * m.length) (Pl.recX m m.length, Pl.recO m.length)).2.length).length : Int) ≤ (↑(List.map (mrow (Pl.ech (Pl.qA (D.iface (Pl.tyA q) (Pl.datA q))) ((2 : Nat) * m.length - (1 : Nat)) ((2 : Nat) * m.length) (Pl.recX m m.length, Pl.recO m.length)).1.1) (mrow (Pl.ech (Pl.qA (D.iface (Pl.tyA q) (Pl.datA q))) ((2 : Nat) * m.length - (1 : Nat)) ((2 : Nat) * m.length) (Pl.recX m m.length, Pl.recO m.length)).1.2 ((2 : Nat) * m.length))).length : Int) ∧ ∃ (n : Nat), itl (fun (G : List Int × Int × List (Option (List Int)) × PUnit × List (Option (List Nat)) × List (Option (List Int)) × PUnit → Prop) (x : List Int × Int × List (Option (List Int)) × PUnit × List (Option (List Nat)) × List (Option (List Int)) × PUnit) => Br (decide (x.2.1 < (↑(sub (List.map (mrow (Pl.ech (Pl.qA (D.iface (Pl.tyA q) (Pl.datA q))) ((2 : Nat) * m.length - (1 : Nat)) ((2 : Nat) * m.length) (Pl.recX m m.length, Pl.recO m.length)).1.1) (mrow (Pl.ech (Pl.qA (D.iface (Pl.tyA q) (Pl.datA q))) ((2 : Nat) * m.length - (1 : Nat)) ((2 : Nat) * m.length) (Pl.recX m m.length, Pl.recO m.length)).1.2 ((2 : Nat) * m.length))) (↑(mrow (Pl.cst (Pl.ech (Pl.qA (D.iface (Pl.tyA q) (Pl.datA q))) ((2 : Nat) * m.length - (1 : Nat)) ((2 : Nat) * m.length) (Pl.recX m m.length, Pl.recO m.length)).2) (Pl.ech (Pl.qA (D.iface (Pl.tyA q) (Pl.datA q))) ((2 : Nat) * m.length - (1 : Nat)) ((2 : Nat) * m.length) (Pl.recX m m.length, Pl.recO m.length)).2.length).length : Int) (↑(List.map (mrow (Pl.ech (Pl.qA (D.iface (Pl.tyA q) (Pl.datA q))) ((2 : Nat) * m.length - (1 : Nat)) ((2 : Nat) * m.length) (Pl.recX m m.length, Pl.recO m.length)).1.1) (mrow (Pl.ech (Pl.qA (D.iface (Pl.tyA q) (Pl.datA q))) ((2 : Nat) * m.length - (1 : Nat)) ((2 : Nat) * m.length) (Pl.recX m m.length, Pl.recO m.length)).1.2 ((2 : Nat) * m.length))).length : Int)).length : Int))) ((0 : Int) ≤ x.2.1 ∧ x.2.1 < (↑(sub (List.map (mrow (Pl.ech (Pl.qA (D.iface (Pl.tyA q) (Pl.datA q))) ((2 : Nat) * m.length - (1 : Nat)) ((2 : Nat) * m.length) (Pl.recX m m.length, Pl.recO m.length)).1.1) (mrow (Pl.ech (Pl.qA (D.iface (Pl.tyA q) (Pl.datA q))) ((2 : Nat) * m.length - (1 : Nat)) ((2 : Nat) * m.length) (Pl.recX m m.length, Pl.recO m.length)).1.2 ((2 : Nat) * m.length))) (↑(mrow (Pl.cst (Pl.ech (Pl.qA (D.iface (Pl.tyA q) (Pl.datA q))) ((2 : Nat) * m.length - (1 : Nat)) ((2 : Nat) * m.length) (Pl.recX m m.length, Pl.recO m.length)).2) (Pl.ech (Pl.qA (D.iface (Pl.tyA q) (Pl.datA q))) ((2 : Nat) * m.length - (1 : Nat)) ((2 : Nat) * m.length) (Pl.recX m m.length, Pl.recO m.length)).2.length).length : Int) (↑(List.map (mrow (Pl.ech (Pl.qA (D.iface (Pl.tyA q) (Pl.datA q))) ((2 : Nat) * m.length - (1 : Nat)) ((2 : Nat) * m.length) (Pl.recX m m.length, Pl.recO m.length)).1.1) (mrow (Pl.ech (Pl.qA (D.iface (Pl.tyA q) (Pl.datA q))) ((2 : Nat) * m.length - (1 : Nat)) ((2 : Nat) * m.length) (Pl.recX m m.length, Pl.recO m.length)).1.2 ((2 : Nat) * m.length))).length : Int)).length : Int) ∧ (Pl.okF (D.rptr (fieldC q)) ∧ Pl.inAll (Pl.qF (D.rptr (fieldC q))) (rd i64.slc (sub (List.map (mrow (Pl.ech (Pl.qA (D.iface (Pl.tyA q) (Pl.datA q))) ((2 : Nat) * m.length - (1 : Nat)) ((2 : Nat) * m.length) (Pl.recX m m.length, Pl.recO m.length)).1.1) (mrow (Pl.ech (Pl.qA (D.iface (Pl.tyA q) (Pl.datA q))) ((2 : Nat) * m.length - (1 : Nat)) ((2 : Nat) * m.length) (Pl.recX m m.length, Pl.recO m.length)).1.2 ((2 : Nat) * m.length))) (↑(mrow (Pl.cst (Pl.ech (Pl.qA (D.iface (Pl.tyA q) (Pl.datA q))) ((2 : Nat) * m.length - (1 : Nat)) ((2 : Nat) * m.length) (Pl.recX m m.length, Pl.recO m.length)).2) (Pl.ech (Pl.qA (D.iface (Pl.tyA q) (Pl.datA q))) ((2 : Nat) * m.length - (1 : Nat)) ((2 : Nat) * m.length) (Pl.recX m m.length, Pl.recO m.length)).2.length).length : Int) (↑(List.map (mrow (Pl.ech (Pl.qA (D.iface (Pl.tyA q) (Pl.datA q))) ((2 : Nat) * m.length - (1 : Nat)) ((2 : Nat) * m.length) (Pl.recX m m.length, Pl.recO m.length)).1.1) (mrow (Pl.ech (Pl.qA (D.iface (Pl.tyA q) (Pl.datA q))) ((2 : Nat) * m.length - (1 : Nat)) ((2 : Nat) * m.length) (Pl.recX m m.length, Pl.recO m.length)).1.2 ((2 : Nat) * m.length))).length : Int)) x.2.1) ∧ Pl.inAll (Pl.qF (D.rptr (fieldC q))) b ∧ List.length (rd i64.slc (sub (List.map (mrow (Pl.ech (Pl.qA (D.iface (Pl.tyA q) (Pl.datA q))) ((2 : Nat) * m.length - (1 : Nat)) ((2 : Nat) * m.length) (Pl.recX m m.length, Pl.recO m.length)).1.1) (mrow (Pl.ech (Pl.qA (D.iface (Pl.tyA q) (Pl.datA q))) ((2 : Nat) * m.length - (1 : Nat)) ((2 : Nat) * m.length) (Pl.recX m m.length, Pl.recO m.length)).1.2 ((2 : Nat) * m.length))) (↑(mrow (Pl.cst (Pl.ech (Pl.qA (D.iface (Pl.tyA q) (Pl.datA q))) ((2 : Nat) * m.length - (1 : Nat)) ((2 : Nat) * m.length) (Pl.recX m m.length, Pl.recO m.length)).2) (Pl.ech (Pl.qA (D.iface (Pl.tyA q) (Pl.datA q))) ((2 : Nat) * m.length - (1 : Nat)) ((2 : Nat) * m.length) (Pl.recX m m.length, Pl.recO m.length)).2.length).length : Int) (↑(List.map (mrow (Pl.ech (Pl.qA (D.iface (Pl.tyA q) (Pl.datA q))) ((2 : Nat) * m.length - (1 : Nat)) ((2 : Nat) * m.length) (Pl.recX m m.length, Pl.recO m.length)).1.1) (mrow (Pl.ech (Pl.qA (D.iface (Pl.tyA q) (Pl.datA q))) ((2 : Nat) * m.length - (1 : Nat)) ((2 : Nat) * m.length) (Pl.recX m m.length, Pl.recO m.length)).1.2 ((2 : Nat) * m.length))).length : Int)) x.2.1) ≤ b.length) ∧ Br (Pl.dot (Pl.qF (D.rptr (fieldC q))) (rd i64.slc (sub (List.map (mrow (Pl.ech (Pl.qA (D.iface (Pl.tyA q) (Pl.datA q))) ((2 : Nat) * m.length - (1 : Nat)) ((2 : Nat) * m.length) (Pl.recX m m.length, Pl.recO m.length)).1.1) (mrow (Pl.ech (Pl.qA (D.iface (Pl.tyA q) (Pl.datA q))) ((2 : Nat) * m.length - (1 : Nat)) ((2 : Nat) * m.length) (Pl.recX m m.length, Pl.recO m.length)).1.2 ((2 : Nat) * m.length))) (↑(mrow (Pl.cst (Pl.ech (Pl.qA (D.iface (Pl.tyA q) (Pl.datA q))) ((2 : Nat) * m.length - (1 : Nat)) ((2 : Nat) * m.length) (Pl.recX m m.length, Pl.recO m.length)).2) (Pl.ech (Pl.qA (D.iface (Pl.tyA q) (Pl.datA q))) ((2 : Nat) * m.length - (1 : Nat)) ((2 : Nat) * m.length) (Pl.recX m m.length, Pl.recO m.length)).2.length).length : Int) (↑(List.map (mrow (Pl.ech (Pl.qA (D.iface (Pl.tyA q) (Pl.datA q))) ((2 : Nat) * m.length - (1 : Nat)) ((2 : Nat) * m.length) (Pl.recX m m.length, Pl.recO m.length)).1.1) (mrow (Pl.ech (Pl.qA (D.iface (Pl.tyA q) (Pl.datA q))) ((2 : Nat) * m.length - (1 : Nat)) ((2 : Nat) * m.length) (Pl.recX m m.length, Pl.recO m.length)).1.2 ((2 : Nat) * m.length))).length : Int)) x.2.1) b != (0 : Int)) (([], D.slc false i64 (rd i64.slc (sub (List.map (mrow (Pl.ech (Pl.qA (D.iface (Pl.tyA q) (Pl.datA q))) ((2 : Nat) * m.length - (1 : Nat)) ((2 : Nat) * m.length) (Pl.recX m m.length, Pl.recO m.length)).1.1) (mrow (Pl.ech (Pl.qA (D.iface (Pl.tyA q) (Pl.datA q))) ((2 : Nat) * m.length - (1 : Nat)) ((2 : Nat) * m.length) (Pl.recX m m.length, Pl.recO m.length)).1.2 ((2 : Nat) * m.length))) (↑(mrow (Pl.cst (Pl.ech (Pl.qA (D.iface (Pl.tyA q) (Pl.datA q))) ((2 : Nat) * m.length - (1 : Nat)) ((2 : Nat) * m.length) (Pl.recX m m.length, Pl.recO m.length)).2) (Pl.ech (Pl.qA (D.iface (Pl.tyA q) (Pl.datA q))) ((2 : Nat) * m.length - (1 : Nat)) ((2 : Nat) * m.length) (Pl.recX m m.length, Pl.recO m.length)).2.length).length : Int) (↑(List.map (mrow (Pl.ech (Pl.qA (D.iface (Pl.tyA q) (Pl.datA q))) ((2 : Nat) * m.length - (1 : Nat)) ((2 : Nat) * m.length) (Pl.recX m m.length, Pl.recO m.length)).1.1) (mrow (Pl.ech (Pl.qA (D.iface (Pl.tyA q) (Pl.datA q))) ((2 : Nat) * m.length - (1 : Nat)) ((2 : Nat) * m.length) (Pl.recX m m.length, Pl.recO m.length)).1.2 ((2 : Nat) * m.length))).length : Int)) x.2.1), ()) = C101s.post (fieldD q, m, b, ())) (G (x.1, IntKind.i64.wrap (x.2.1 + (1 : Int)), x.2.2.1, (), x.2.2.2.2))) (Br (decide ((↑m.length : Int) > (0 : Int))) ((0 : Int) ≤ (0 : Int) ∧ (0 : Int) < (↑m.length : Int) ∧ (0 : Int) ≤ (↑(List.length (rd i64.slc m (0 : Int))) : Int) ∧ (↑(List.length (rd i64.slc m (0 : Int))) : Int) = (↑(List.length (rd i64.slc m (0 : Int))) : Int) ∧ (↑(List.length (rd i64.slc m (0 : Int))) : Int) * (8 : Int) ≤ (140737488355328 : Int) ∧ ∃ (n : Nat), itl (fun (G : List Int × Int × List (Option (List Int)) × PUnit × List (Option (List Nat)) × List (Option (List Int)) × PUnit → Prop) (x : List Int × Int × List (Option (List Int)) × PUnit × List (Option (List Nat)) × List (Option (List Int)) × PUnit) => Br (decide (x.2.1 < (↑(mrow (Pl.cst (Pl.ech (Pl.qA (D.iface (Pl.tyA q) (Pl.datA q))) ((2 : Nat) * m.length - (1 : Nat)) ((2 : Nat) * m.length) (Pl.recX m m.length, Pl.recO m.length)).2) (Pl.ech (Pl.qA (D.iface (Pl.tyA q) (Pl.datA q))) ((2 : Nat) * m.length - (1 : Nat)) ((2 : Nat) * m.length) (Pl.recX m m.length, Pl.recO m.length)).2.length).length : Int))) ((0 : Int) ≤ x.2.1 ∧ x.2.1 < (↑(mrow (Pl.cst (Pl.ech (Pl.qA (D.iface (Pl.tyA q) (Pl.datA q))) ((2 : Nat) * m.length - (1 : Nat)) ((2 : Nat) * m.length) (Pl.recX m m.length, Pl.recO m.length)).2) (Pl.ech (Pl.qA (D.iface (Pl.tyA q) (Pl.datA q))) ((2 : Nat) * m.length - (1 : Nat)) ((2 : Nat) * m.length) (Pl.recX m m.length, Pl.recO m.length)).2.length).length : Int) ∧ (0 : Int) ≤ x.2.1 ∧ x.2.1 < (↑(List.map (mrow (Pl.ech (Pl.qA (D.iface (Pl.tyA q) (Pl.datA q))) ((2 : Nat) * m.length - (1 : Nat)) ((2 : Nat) * m.length) (Pl.recX m m.length, Pl.recO m.length)).1.1) (mrow (Pl.ech (Pl.qA (D.iface (Pl.tyA q) (Pl.datA q))) ((2 : Nat) * m.length - (1 : Nat)) ((2 : Nat) * m.length) (Pl.recX m m.length, Pl.recO m.length)).1.2 ((2 : Nat) * m.length))).length : Int) ∧ (Pl.okF (D.rptr (fieldC q)) ∧ Pl.inAll (Pl.qF (D.rptr (fieldC q))) (rd i64.slc (List.map (mrow (Pl.ech (Pl.qA (D.iface (Pl.tyA q) (Pl.datA q))) ((2 : Nat) * m.length - (1 : Nat)) ((2 : Nat) * m.length) (Pl.recX m m.length, Pl.recO m.length)).1.1) (mrow (Pl.ech (Pl.qA (D.iface (Pl.tyA q) (Pl.datA q))) ((2 : Nat) * m.length - (1 : Nat)) ((2 : Nat) * m.length) (Pl.recX m m.length, Pl.recO m.length)).1.2 ((2 : Nat) * m.length))) x.2.1) ∧ Pl.inAll (Pl.qF (D.rptr (fieldC q))) b ∧ List.length (rd i64.slc (List.map (mrow (Pl.ech (Pl.qA (D.iface (Pl.tyA q) (Pl.datA q))) ((2 : Nat) * m.length - (1 : Nat)) ((2 : Nat) * m.length) (Pl.recX m m.length, Pl.recO m.length)).1.1) (mrow (Pl.ech (Pl.qA (D.iface (Pl.tyA q) (Pl.datA q))) ((2 : Nat) * m.length - (1 : Nat)) ((2 : Nat) * m.length) (Pl.recX m m.length, Pl.recO m.length)).1.2 ((2 : Nat) * m.length))) x.2.1) ≤ b.length) ∧ (0 : Int) ≤ rd i64 (mrow (Pl.cst (Pl.ech (Pl.qA (D.iface (Pl.tyA q) (Pl.datA q))) ((2 : Nat) * m.length - (1 : Nat)) ((2 : Nat) * m.length) (Pl.recX m m.length, Pl.recO m.length)).2) (Pl.ech (Pl.qA (D.iface (Pl.tyA q) (Pl.datA q))) ((2 : Nat) * m.length - (1 : Nat)) ((2 : Nat) * m.length) (Pl.recX m m.length, Pl.recO m.length)).2.length) x.2.1 ∧ rd i64 (mrow (Pl.cst (Pl.ech (Pl.qA (D.iface (Pl.tyA q) (Pl.datA q))) ((2 : Nat) * m.length - (1 : Nat)) ((2 : Nat) * m.length) (Pl.recX m m.length, Pl.recO m.length)).2) (Pl.ech (Pl.qA (D.iface (Pl.tyA q) (Pl.datA q))) ((2 : Nat) * m.length - (1 : Nat)) ((2 : Nat) * m.length) (Pl.recX m m.length, Pl.recO m.length)).2.length) x.2.1 < (↑(List.length x.1) : Int) ∧ (0 : Int) ≤ rd i64 (mrow (Pl.cst (Pl.ech (Pl.qA (D.iface (Pl.tyA q) (Pl.datA q))) ((2 : Nat) * m.length - (1 : Nat)) ((2 : Nat) * m.length) (Pl.recX m m.length, Pl.recO m.length)).2) (Pl.ech (Pl.qA (D.iface (Pl.tyA q) (Pl.datA q))) ((2 : Nat) * m.length - (1 : Nat)) ((2 : Nat) * m.length) (Pl.recX m m.length, Pl.recO m.length)).2.length) x.2.1 ∧ rd i64 (mrow (Pl.cst (Pl.ech (Pl.qA (D.iface (Pl.tyA q) (Pl.datA q))) ((2 : Nat) * m.length - (1 : Nat)) ((2 : Nat) * m.length) (Pl.recX m m.length, Pl.recO m.length)).2) (Pl.ech (Pl.qA (D.iface (Pl.tyA q) (Pl.datA q))) ((2 : Nat) * m.length - (1 : Nat)) ((2 : Nat) * m.length) (Pl.recX m m.length, Pl.recO m.length)).2.length) x.2.1 < (↑(List.length x.1) : Int) ∧ G (List.set x.1 (Int.toNat (rd i64 (mrow (Pl.cst (Pl.ech (Pl.qA (D.iface (Pl.tyA q) (Pl.datA q))) ((2 : Nat) * m.length - (1 : Nat)) ((2 : Nat) * m.length) (Pl.recX m m.length, Pl.recO m.length)).2) (Pl.ech (Pl.qA (D.iface (Pl.tyA q) (Pl.datA q))) ((2 : Nat) * m.length - (1 : Nat)) ((2 : Nat) * m.length) (Pl.recX m m.length, Pl.recO m.length)).2.length) x.2.1)) (Pl.dot (Pl.qF (D.rptr (fieldC q))) (rd i64.slc (List.map (mrow (Pl.ech (Pl.qA (D.iface (Pl.tyA q) (Pl.datA q))) ((2 : Nat) * m.length - (1 : Nat)) ((2 : Nat) * m.length) (Pl.recX m m.length, Pl.recO m.length)).1.1) (mrow (Pl.ech (Pl.qA (D.iface (Pl.tyA q) (Pl.datA q))) ((2 : Nat) * m.length - (1 : Nat)) ((2 : Nat) * m.length) (Pl.recX m m.length, Pl.recO m.length)).1.2 ((2 : Nat) * m.length))) x.2.1) b), IntKind.i64.wrap (x.2.1 + (1 : Int)), x.2.2.1, (), x.2.2.2.2)) ((x.1, constD (Value.slice none (0 : Nat) (0 : Nat)), ()) = C101s.post (fieldD q, m, b, ()))) n (List.replicate (↑(List.length (rd i64.slc m (0 : Int))) : Int).toNat (0 : Int), (0 : Int), x.2.2.1, (), x.2.2.2.2)) (∃ (n : Nat), itl (fun (G : List Int × Int × List (Option (List Int)) × PUnit × List (Option (List Nat)) × List (Option (List Int)) × PUnit → Prop) (x : List Int × Int × List (Option (List Int)) × PUnit × List (Option (List Nat)) × List (Option (List Int)) × PUnit) => Br (decide (x.2.1 < (↑(mrow (Pl.cst (Pl.ech (Pl.qA (D.iface (Pl.tyA q) (Pl.datA q))) ((2 : Nat) * m.length - (1 : Nat)) ((2 : Nat) * m.length) (Pl.recX m m.length, Pl.recO m.length)).2) (Pl.ech (Pl.qA (D.iface (Pl.tyA q) (Pl.datA q))) ((2 : Nat) * m.length - (1 : Nat)) ((2 : Nat) * m.length) (Pl.recX m m.length, Pl.recO m.length)).2.length).length : Int))) ((0 : Int) ≤ x.2.1 ∧ x.2.1 < (↑(mrow (Pl.cst (Pl.ech (Pl.qA (D.iface (Pl.tyA q) (Pl.datA q))) ((2 : Nat) * m.length - (1 : Nat)) ((2 : Nat) * m.length) (Pl.recX m m.length, Pl.recO m.length)).2) (Pl.ech (Pl.qA (D.iface (Pl.tyA q) (Pl.datA q))) ((2 : Nat) * m.length - (1 : Nat)) ((2 : Nat) * m.length) (Pl.recX m m.length, Pl.recO m.length)).2.length).length : Int) ∧ (0 : Int) ≤ x.2.1 ∧ x.2.1 < (↑(List.map (mrow (Pl.ech (Pl.qA (D.iface (Pl.tyA q) (Pl.datA q))) ((2 : Nat) * m.length - (1 : Nat)) ((2 : Nat) * m.length) (Pl.recX m m.length, Pl.recO m.length)).1.1) (mrow (Pl.ech (Pl.qA (D.iface (Pl.tyA q) (Pl.datA q))) ((2 : Nat) * m.length - (1 : Nat)) ((2 : Nat) * m.length) (Pl.recX m m.length, Pl.recO m.length)).1.2 ((2 : Nat) * m.length))).length : Int) ∧ (Pl.okF (D.rptr (fieldC q)) ∧ Pl.inAll (Pl.qF (D.rptr (fieldC q))) (rd i64.slc (List.map (mrow (Pl.ech (Pl.qA (D.iface (Pl.tyA q) (Pl.datA q))) ((2 : Nat) * m.length - (1 : Nat)) ((2 : Nat) * m.length) (Pl.recX m m.length, Pl.recO m.length)).1.1) (mrow (Pl.ech (Pl.qA (D.iface (Pl.tyA q) (Pl.datA q))) ((2 : Nat) * m.length - (1 : Nat)) ((2 : Nat) * m.length) (Pl.recX m m.length, Pl.recO m.length)).1.2 ((2 : Nat) * m.length))) x.2.1) ∧ Pl.inAll (Pl.qF (D.rptr (fieldC q))) b ∧ List.length (rd i64.slc (List.map (mrow (Pl.ech (Pl.qA (D.iface (Pl.tyA q) (Pl.datA q))) ((2 : Nat) * m.length - (1 : Nat)) ((2 : Nat) * m.length) (Pl.recX m m.length, Pl.recO m.length)).1.1) (mrow (Pl.ech (Pl.qA (D.iface (Pl.tyA q) (Pl.datA q))) ((2 : Nat) * m.length - (1 : Nat)) ((2 : Nat) * m.length) (Pl.recX m m.length, Pl.recO m.length)).1.2 ((2 : Nat) * m.length))) x.2.1) ≤ b.length) ∧ (0 : Int) ≤ rd i64 (mrow (Pl.cst (Pl.ech (Pl.qA (D.iface (Pl.tyA q) (Pl.datA q))) ((2 : Nat) * m.length - (1 : Nat)) ((2 : Nat) * m.length) (Pl.recX m m.length, Pl.recO m.length)).2) (Pl.ech (Pl.qA (D.iface (Pl.tyA q) (Pl.datA q))) ((2 : Nat) * m.length - (1 : Nat)) ((2 : Nat) * m.length) (Pl.recX m m.length, Pl.recO m.length)).2.length) x.2.1 ∧ rd i64 (mrow (Pl.cst (Pl.ech (Pl.qA (D.iface (Pl.tyA q) (Pl.datA q))) ((2 : Nat) * m.length - (1 : Nat)) ((2 : Nat) * m.length) (Pl.recX m m.length, Pl.recO m.length)).2) (Pl.ech (Pl.qA (D.iface (Pl.tyA q) (Pl.datA q))) ((2 : Nat) * m.length - (1 : Nat)) ((2 : Nat) * m.length) (Pl.recX m m.length, Pl.recO m.length)).2.length) x.2.1 < (↑(List.length x.1) : Int) ∧ (0 : Int) ≤ rd i64 (mrow (Pl.cst (Pl.ech (Pl.qA (D.iface (Pl.tyA q) (Pl.datA q))) ((2 : Nat) * m.length - (1 : Nat)) ((2 : Nat) * m.length) (Pl.recX m m.length, Pl.recO m.length)).2) (Pl.ech (Pl.qA (D.iface (Pl.tyA q) (Pl.datA q))) ((2 : Nat) * m.length - (1 : Nat)) ((2 : Nat) * m.length) (Pl.recX m m.length, Pl.recO m.length)).2.length) x.2.1 ∧ rd i64 (mrow (Pl.cst (Pl.ech (Pl.qA (D.iface (Pl.tyA q) (Pl.datA q))) ((2 : Nat) * m.length - (1 : Nat)) ((2 : Nat) * m.length) (Pl.recX m m.length, Pl.recO m.length)).2) (Pl.ech (Pl.qA (D.iface (Pl.tyA q) (Pl.datA q))) ((2 : Nat) * m.length - (1 : Nat)) ((2 : Nat) * m.length) (Pl.recX m m.length, Pl.recO m.length)).2.length) x.2.1 < (↑(List.length x.1) : Int) ∧ G (List.set x.1 (Int.toNat (rd i64 (mrow (Pl.cst (Pl.ech (Pl.qA (D.iface (Pl.tyA q) (Pl.datA q))) ((2 : Nat) * m.length - (1 : Nat)) ((2 : Nat) * m.length) (Pl.recX m m.length, Pl.recO m.length)).2) (Pl.ech (Pl.qA (D.iface (Pl.tyA q) (Pl.datA q))) ((2 : Nat) * m.length - (1 : Nat)) ((2 : Nat) * m.length) (Pl.recX m m.length, Pl.recO m.length)).2.length) x.2.1)) (Pl.dot (Pl.qF (D.rptr (fieldC q))) (rd i64.slc (List.map (mrow (Pl.ech (Pl.qA (D.iface (Pl.tyA q) (Pl.datA q))) ((2 : Nat) * m.length - (1 : Nat)) ((2 : Nat) * m.length) (Pl.recX m m.length, Pl.recO m.length)).1.1) (mrow (Pl.ech (Pl.qA (D.iface (Pl.tyA q) (Pl.datA q))) ((2 : Nat) * m.length - (1 : Nat)) ((2 : Nat) * m.length) (Pl.recX m m.length, Pl.recO m.length)).1.2 ((2 : Nat) * m.length))) x.2.1) b), IntKind.i64.wrap (x.2.1 + (1 : Int)), x.2.2.1, (), x.2.2.2.2)) ((x.1, constD (Value.slice none (0 : Nat) (0 : Nat)), ()) = C101s.post (fieldD q, m, b, ()))) n (x.1, (0 : Int), x.2.2.1, (), x.2.2.2.2)))) n ([], (0 : Int), List.map (fun (x : Option (List i64.El)) => none) (Pl.ech (Pl.qA (D.iface (Pl.tyA q) (Pl.datA q))) ((2 : Nat) * m.length - (1 : Nat)) ((2 : Nat) * m.length) (Pl.recX m m.length, Pl.recO m.length)).1.1, (), List.map (fun (x : Option (List (Ty.ref (0 : Nat)).El)) => none) (Pl.ech (Pl.qA (D.iface (Pl.tyA q) (Pl.datA q))) ((2 : Nat) * m.length - (1 : Nat)) ((2 : Nat) * m.length) (Pl.recX m m.length, Pl.recO m.length)).1.2, List.map (fun (x : Option (List i64.El)) => none) (Pl.cst (Pl.ech (Pl.qA (D.iface (Pl.tyA q) (Pl.datA q))) ((2 : Nat) * m.length - (1 : Nat)) ((2 : Nat) * m.length) (Pl.recX m m.length, Pl.recO m.length)).2), ())) (by kernel_rfl) ?_
 rw [recS_eq hq, qF_f, c2, rowsD_eq, hp]
 have hlC := F.lC
 have hlD := F.lD
 have hrD := F.rD
 have hcC := F.cC
 obtain ⟨_, hwide, _⟩ := shape_0 s1
 unfold Pl.den at hd
 have hsol : Pl.sol q m b = Pl.solL q b (Pl.echC q m) (Pl.echD q m) (List.replicate (Pl.wide m) 0) := rfl
 rw [hsol]
 have hCe : (Pl.recS q m).2 = Pl.echC q m := rfl
 have hsub : sub (Pl.echD q m) ((Pl.recS q m).2.length : Int) ((Pl.echD q m).length : Int) = (Pl.echD q m).drop (Pl.echC q m).length := sub_drop _ _
 rw [hsub]
 rw [hCe] at c1 ⊢
 have hX : ∀ {x : XS} , True := fun {x} => trivial
 generalize hC : Pl.echC q m = C at *
 generalize hD : Pl.echD q m = DD at *
 have hpre : ∀ r ∈ DD, Pl.okF (D.rptr (fieldC q)) ∧ Pl.inAll q r ∧ Pl.inAll q b ∧ r.length ≤ b.length := fun r hr => ⟨okF_f hq, ⟨(hrD r hr).2, by rw [(hrD r hr).1]; omega⟩, ⟨s3, hb⟩, by rw [(hrD r hr).1]; omega⟩
 have last : ∀ (x0 : List Int) (A : XS) (O : OS) (K : XS), x0.length = Pl.wide m ∨ C = [] → x0 = (bif decide (0 < m.length) then List.replicate (Pl.wide m) 0 else []) → ∃ n, itl (fun (G : List Int × Int × XS × Unit × OS × XS × Unit → Prop) (x : List Int × Int × XS × Unit × OS × XS × Unit) =>
   Br (decide (x.2.1 < (C.length : Int))) ((0 : Int) ≤ x.2.1 ∧ x.2.1 < (C.length : Int) ∧ (0 : Int) ≤ x.2.1 ∧ x.2.1 < (DD.length : Int) ∧ (Pl.okF (D.rptr (fieldC q)) ∧ Pl.inAll q (rd i64.slc DD x.2.1) ∧ Pl.inAll q b ∧ (rd i64.slc DD x.2.1).length ≤ b.length) ∧ (0 : Int) ≤ rd i64 C x.2.1 ∧ rd i64 C x.2.1 < (x.1.length : Int) ∧ (0 : Int) ≤ rd i64 C x.2.1 ∧ rd i64 C x.2.1 < (x.1.length : Int) ∧
     G (x.1.set (Int.toNat (rd i64 C x.2.1)) (Pl.dot q (rd i64.slc DD x.2.1) b), IntKind.i64.wrap (x.2.1 + (1 : Int)), x.2.2.1, (), x.2.2.2.2)) ((x.1, constD (Value.slice none (0 : Nat) (0 : Nat)), ()) = (Pl.solL q b C DD (List.replicate (Pl.wide m) 0), D.val (Value.slice none 0 0), ()))) n (x0, (0 : Int), A, (), O, K, ()) := by
  intro x0 A O K hx0 hx1
  have hst : Pl.solL q b C DD x0 = Pl.solL q b C DD (List.replicate (Pl.wide m) 0) := by
   by_cases h0 : 0 < m.length
   ·rw [hx1, decide_eq_true h0]; rfl
   ·have : C = [] := List.length_eq_zero_iff.1 (by omega)
    have e : m = [] := List.length_eq_zero_iff.1 (by omega)
    rw [this, solL_nil, solL_nil, hx1, decide_eq_false h0, e]; rfl
  refine itl_rule (fun (s : List Int × Int × XS × Unit × OS × XS × Unit) => ∃ i : Nat, s.2.1 = (i : Int) ∧ i ≤ C.length ∧ (s.1.length = Pl.wide m ∨ C = []) ∧ Pl.solL q b (C.drop i) (DD.drop i) s.1 = Pl.solL q b C DD (List.replicate (Pl.wide m) 0)) (fun s => ((C.length : Int) - s.2.1).toNat) ⟨0, rfl, Nat.zero_le _, hx0, hst⟩ ?_
  rintro ⟨x, i0, A, ⟨⟩, O, K, ⟨⟩⟩ G ⟨i, e, hi, hxl, hf⟩ hG
  simp only at e hxl hf hG ⊢
  subst e
  refine Br_of (fun h => ?_) (fun h => ?_)
  ·have h : i < C.length := by have := of_decide_eq_true h; omega
   rw [rd_rr, rd_i, wrap_i64 (by omega) (by omega)]
   have hne : C ≠ [] := fun e => by rw [e] at h; exact absurd h (Nat.not_lt_zero _)
   have hxl : x.length = Pl.wide m := hxl.resolve_right hne
   obtain ⟨k0, k1⟩ := hcC _ (show C.getD i 0 ∈ C from getD_mem h)
   have hiD : i < DD.length := by omega
   have hkx : C.getD i 0 < ((List.length x : Nat) : Int) := by
    have e : ((List.length x : Nat) : Int) = (Pl.wide m : Int) := congrArg Nat.cast hxl
    rw [e]; exact k1
   rw [drop_cons 0 h, drop_cons [] hiD, Pl.solL] at hf
   refine ⟨by omega, by omega, by omega, by omega, hpre _ (rowD_mem hiD), k0, hkx, k0, hkx, hG _ ⟨i + 1, rfl, by omega, .inl (by simp only [List.length_set]; exact hxl), hf⟩ (by simp only; omega)⟩
  ·have h : i = C.length := by have := of_decide_eq_false h; omega
   subst h
   rw [List.drop_length, solL_nil] at hf
   rw [← hf]; rfl
 refine ⟨p1, ⟨p2, rfl⟩, F.m1, F.a1, F.m2, F.a2, c1, by omega, by omega, itl_rule (fun (s : List Int × Int × XS × Unit × OS × XS × Unit) => ∃ (i : Nat), s.1 = [] ∧ s.2.1 = (i : Int) ∧ i ≤ (DD.drop C.length).length ∧ Pl.denL q b ((DD.drop C.length).drop i) = none) (fun s => (((DD.drop C.length).length : Int) - s.2.1).toNat) ⟨0, rfl, rfl, Nat.zero_le _, hd⟩ ?_⟩
 have hrE : ∀ r ∈ DD.drop C.length, r ∈ DD := fun r hr => List.mem_of_mem_drop hr
 have hlE : (DD.drop C.length).length ≤ 1000000000 := by rw [List.length_drop]; omega
 generalize DD.drop C.length = EE at *
 rintro ⟨x, i0, A, ⟨⟩, O, K, ⟨⟩⟩ G ⟨i, ex, e, hi, hf⟩ hG
 simp only at ex e hf hG ⊢
 subst ex e
 refine Br_of (fun h => ?_) (fun h => ?_)
 ·have h : i < EE.length := by have := of_decide_eq_true h; omega
  rw [rd_rr, wrap_i64 (by omega) (by omega)]
  rw [drop_cons [] h, Pl.denL] at hf
  refine ⟨by omega, by omega, hpre _ (hrE _ (rowD_mem h)), Br_of (fun h1 => ?_) (fun h1 => ?_)⟩
  ·have h1 : Pl.dot q (EE.getD i []) b ≠ 0 := by simpa using h1
   rw [decide_eq_true h1, cond_true] at hf
   cases hf
  ·have h1 : Pl.dot q (EE.getD i []) b = 0 := by simpa using h1
   rw [decide_eq_false (not_not_intro h1), cond_false] at hf
   exact hG _ ⟨i + 1, rfl, rfl, by omega, hf⟩ (by simp only; omega)
 ·refine Br_of (fun h0 => ?_) (fun h0 => ?_)
  ·have h0 : 0 < m.length := by have := of_decide_eq_true h0; omega
   have hw : (rd i64.slc m (0 : Int)).length = Pl.wide m := rfl
   rw [hw]
   refine ⟨by omega, by omega, by omega, trivial, by omega, last _ _ _ _ (.inl (by simp)) ?_⟩
   rw [decide_eq_true h0]; simp
  ·have h0 : ¬ 0 < m.length := by have := of_decide_eq_false h0; omega
   exact last _ _ _ _ (.inr (List.length_eq_zero_iff.1 (by omega))) (by rw [decide_eq_false h0]; rfl)
theorem vc101d : ∀ x, C101d.pre x → VC T101 H101 Try.f101 C101d x := by
 rintro ⟨v, (m : List (List Int)), (b : List Int), ⟨⟩⟩ ⟨⟨⟨q, hq, (rfl : v = _)⟩, (hm : Pl.okMM m), (hb : b.length ≤ 1000000000)⟩, (hs : Pl.sys (Pl.qF (fieldD q)) m b = 0), (hd : Pl.den (Pl.qF (fieldD q)) m b ≠ none)⟩
 rw [qF_d] at hs hd
 obtain ⟨s1, s2, s3⟩ := den_sys hs
 obtain ⟨p1, p2, F⟩ := pre_new hq s1
 obtain ⟨c1, c2⟩ := cst_row (Pl.recS q m).2
 have hp : C101d.post (fieldD q, m, b, ()) = ([], Pl.denW q m b, ()) := rfl
 refine cast (α := Pl.okMx m ∧ (Pl.preE (Pl.tyA q) (Pl.tyA q) (Pl.datA q) (Pl.datA q) ((2 : Nat) * m.length - (1 : Nat)) ((2 : Nat) * m.length) (Pl.recX m m.length) (Pl.recO m.length) ∧ ([] : List (Option (List Int))) = []) ∧ mal (Pl.ech (Pl.qA (D.iface (Pl.tyA q) (Pl.datA q))) ((2 : Nat) * m.length - (1 : Nat)) ((2 : Nat) * m.length) (Pl.recX m m.length, Pl.recO m.length)).1.2 ((2 : Nat) * m.length - (1 : Nat)) ∧ (∀ (i : (Ty.ref (0 : Nat)).El), i ∈ mrow (Pl.ech (Pl.qA (D.iface (Pl.tyA q) (Pl.datA q))) ((2 : Nat) * m.length - (1 : Nat)) ((2 : Nat) * m.length) (Pl.recX m m.length, Pl.recO m.length)).1.2 ((2 : Nat) * m.length - (1 : Nat)) → mal (Pl.ech (Pl.qA (D.iface (Pl.tyA q) (Pl.datA q))) ((2 : Nat) * m.length - (1 : Nat)) ((2 : Nat) * m.length) (Pl.recX m m.length, Pl.recO m.length)).1.1 i) ∧ mal (Pl.ech (Pl.qA (D.iface (Pl.tyA q) (Pl.datA q))) ((2 : Nat) * m.length - (1 : Nat)) ((2 : Nat) * m.length) (Pl.recX m m.length, Pl.recO m.length)).1.2 ((2 : Nat) * m.length) ∧ (∀ (i : (Ty.ref (0 : Nat)).El), i ∈ mrow (Pl.ech (Pl.qA (D.iface (Pl.tyA q) (Pl.datA q))) ((2 : Nat) * m.length - (1 : Nat)) ((2 : Nat) * m.length) (Pl.recX m m.length, Pl.recO m.length)).1.2 ((2 : Nat) * m.length) → mal (Pl.ech (Pl.qA (D.iface (Pl.tyA q) (Pl.datA q))) ((2 : Nat) * m.length - (1 : Nat)) ((2 : Nat) * m.length) (Pl.recX m m.length, Pl.recO m.length)).1.1 i) ∧ mal (Pl.cst (Pl.ech (Pl.qA (D.iface (Pl.tyA q) (Pl.datA q))) ((2 : Nat) * m.length - (1 : Nat)) ((2 : Nat) * m.length) (Pl.recX m m.length, Pl.recO m.length)).2) (Pl.ech (Pl.qA (D.iface (Pl.tyA q) (Pl.datA q))) ((2 : Nat) * m.length - (1 : Nat)) ((2 : Nat) * m.length) (Pl.recX m m.length, Pl.recO m.length)).2.length ∧ (0 : Int) ≤ (↑(mrow (Pl.cst (Pl.ech (Pl.qA (D.iface (Pl.tyA q) (Pl.datA q))) ((2 : Nat) * m.length - (1 : Nat)) ((2 : Nat) * m.length) (Pl.recX m m.length, Pl.recO m.length)).2) (Pl.ech (Pl.qA (D.iface (Pl.tyA q) (Pl.datA q))) ((2 : Nat) * m.length - (1 : Nat)) ((2 : Nat) * m.length) (Pl.recX m m.length, Pl.recO m.length)).2.length).length : Int) ∧ (↑(mrow (Pl.cst (Pl.ech (Pl.qA (D.iface (Pl.tyA q) (Pl.datA q))) ((2 : Nat) * m.length - (1 : Nat)) ((2 : Nat) * m.length) (Pl.recX m m.length, Pl.recO m.length)).2) (Pl.ech (Pl.qA (D.iface (Pl.tyA q) (Pl.datA q))) ((2 : Nat) * m.length - (1 : Nat)) ((2 : Nat) * m.length) (Pl.recX m m.length, Pl.recO m.length)).2.length).length : Int) ≤ (↑(List.map (mrow (Pl.ech (Pl.qA (D.iface (Pl.tyA q) (Pl.datA q))) ((2 : Nat) * m.length - (1 : Nat)) ((2 : Nat) * m.length) (Pl.recX m m.length, Pl.recO m.length)).1.1) (mrow (Pl.ech (Pl.qA (D.iface (Pl.tyA q) (Pl.datA q))) ((2 : Nat) * m.length - (1 : Nat)) ((2 : Nat) * m.length) (Pl.recX m m.length, Pl.recO m.length)).1.2 ((2 : Nat) * m.length))).length : Int) ∧ ∃ (n : Nat), itl (fun (G : List Int × Int × List (Option (List Int)) × PUnit × List (Option (List Nat)) × List (Option (List Int)) × PUnit → Prop) (x : List Int × Int × List (Option (List Int)) × PUnit × List (Option (List Nat)) × List (Option (List Int)) × PUnit) => Br (decide (x.2.1 < (↑(sub (List.map (mrow (Pl.ech (Pl.qA (D.iface (Pl.tyA q) (Pl.datA q))) ((2 : Nat) * m.length - (1 : Nat)) ((2 : Nat) * m.length) (Pl.recX m m.length, Pl.recO m.length)).1.1) (mrow (Pl.ech (Pl.qA (D.iface (Pl.tyA q) (Pl.datA q))) ((2 : Nat) * m.length - (1 : Nat)) ((2 : Nat) * m.length) (Pl.recX m m.length, Pl.recO m.length)).1.2 ((2 : Nat) * m.length))) (↑(mrow (Pl.cst (Pl.ech (Pl.qA (D.iface (Pl.tyA q) (Pl.datA q))) ((2 : Nat) * m.length - (1 : Nat)) ((2 : Nat) * m.length) (Pl.recX m m.length, Pl.recO m.length)).2) (Pl.ech (Pl.qA (D.iface (Pl.tyA q) (Pl.datA q))) ((2 : Nat) * m.length - (1 : Nat)) ((2 : Nat) * m.length) (Pl.recX m m.length, Pl.recO m.length)).2.length).length : Int) (↑(List.map (mrow (Pl.ech (Pl.qA (D.iface (Pl.tyA q) (Pl.datA q))) ((2 : Nat) * m.length - (1 : Nat)) ((2 : Nat) * m.length) (Pl.recX m m.length, Pl.recO m.length)).1.1) (mrow (Pl.ech (Pl.qA (D.iface (Pl.tyA q) (Pl.datA q))) ((2 : Nat) * m.length - (1 : Nat)) ((2 : Nat) * m.length) (Pl.recX m m.length, Pl.recO m.length)).1.2 ((2 : Nat) * m.length))).length : Int)).length : Int))) ((0 : Int) ≤ x.2.1 ∧ x.2.1 < (↑(sub (List.map (mrow (Pl.ech (Pl.qA (D.iface (Pl.tyA q) (Pl.datA q))) ((2 : Nat) * m.length - (1 : Nat)) ((2 : Nat) * m.length) (Pl.recX m m.length, Pl.recO m.length)).1.1) (mrow (Pl.ech (Pl.qA (D.iface (Pl.tyA q) (Pl.datA q))) ((2 : Nat) * m.length - (1 : Nat)) ((2 : Nat) * m.length) (Pl.recX m m.length, Pl.recO m.length)).1.2 ((2 : Nat) * m.length))) (↑(mrow (Pl.cst (Pl.ech (Pl.qA (D.iface (Pl.tyA q) (Pl.datA q))) ((2 : Nat) * m.length - (1 : Nat)) ((2 : Nat) * m.length) (Pl.recX m m.length, Pl.recO m.length)).2) (Pl.ech (Pl.qA (D.iface (Pl.tyA q) (Pl.datA q))) ((2 : Nat) * m.length - (1 : Nat)) ((2 : Nat) * m.length) (Pl.recX m m.length, Pl.recO m.length)).2.length).length : Int) (↑(List.map (mrow (Pl.ech (Pl.qA (D.iface (Pl.tyA q) (Pl.datA q))) ((2 : Nat) * m.length - (1 : Nat)) ((2 : Nat) * m.length) (Pl.recX m m.length, Pl.recO m.length)).1.1) (mrow (Pl.ech (Pl.qA (D.iface (Pl.tyA q) (Pl.datA q))) ((2 : Nat) * m.length - (1 : Nat)) ((2 : Nat) * m.length) (Pl.recX m m.length, Pl.recO m.length)).1.2 ((2 : Nat) * m.length))).length : Int)).length : Int) ∧ (Pl.okF (D.rptr (fieldC q)) ∧ Pl.inAll (Pl.qF (D.rptr (fieldC q))) (rd i64.slc (sub (List.map (mrow (Pl.ech (Pl.qA (D.iface (Pl.tyA q) (Pl.datA q))) ((2 : Nat) * m.length - (1 : Nat)) ((2 : Nat) * m.length) (Pl.recX m m.length, Pl.recO m.length)).1.1) (mrow (Pl.ech (Pl.qA (D.iface (Pl.tyA q) (Pl.datA q))) ((2 : Nat) * m.length - (1 : Nat)) ((2 : Nat) * m.length) (Pl.recX m m.length, Pl.recO m.length)).1.2 ((2 : Nat) * m.length))) (↑(mrow (Pl.cst (Pl.ech (Pl.qA (D.iface (Pl.tyA q) (Pl.datA q))) ((2 : Nat) * m.length - (1 : Nat)) ((2 : Nat) * m.length) (Pl.recX m m.length, Pl.recO m.length)).2) (Pl.ech (Pl.qA (D.iface (Pl.tyA q) (Pl.datA q))) ((2 : Nat) * m.length - (1 : Nat)) ((2 : Nat) * m.length) (Pl.recX m m.length, Pl.recO m.length)).2.length).length : Int) (↑(List.map (mrow (Pl.ech (Pl.qA (D.iface (Pl.tyA q) (Pl.datA q))) ((2 : Nat) * m.length - (1 : Nat)) ((2 : Nat) * m.length) (Pl.recX m m.length, Pl.recO m.length)).1.1) (mrow (Pl.ech (Pl.qA (D.iface (Pl.tyA q) (Pl.datA q))) ((2 : Nat) * m.length - (1 : Nat)) ((2 : Nat) * m.length) (Pl.recX m m.length, Pl.recO m.length)).1.2 ((2 : Nat) * m.length))).length : Int)) x.2.1) ∧ Pl.inAll (Pl.qF (D.rptr (fieldC q))) b ∧ List.length (rd i64.slc (sub (List.map (mrow (Pl.ech (Pl.qA (D.iface (Pl.tyA q) (Pl.datA q))) ((2 : Nat) * m.length - (1 : Nat)) ((2 : Nat) * m.length) (Pl.recX m m.length, Pl.recO m.length)).1.1) (mrow (Pl.ech (Pl.qA (D.iface (Pl.tyA q) (Pl.datA q))) ((2 : Nat) * m.length - (1 : Nat)) ((2 : Nat) * m.length) (Pl.recX m m.length, Pl.recO m.length)).1.2 ((2 : Nat) * m.length))) (↑(mrow (Pl.cst (Pl.ech (Pl.qA (D.iface (Pl.tyA q) (Pl.datA q))) ((2 : Nat) * m.length - (1 : Nat)) ((2 : Nat) * m.length) (Pl.recX m m.length, Pl.recO m.length)).2) (Pl.ech (Pl.qA (D.iface (Pl.tyA q) (Pl.datA q))) ((2 : Nat) * m.length - (1 : Nat)) ((2 : Nat) * m.length) (Pl.recX m m.length, Pl.recO m.length)).2.length).length : Int) (↑(List.map (mrow (Pl.ech (Pl.qA (D.iface (Pl.tyA q) (Pl.datA q))) ((2 : Nat) * m.length - (1 : Nat)) ((2 : Nat) * m.length) (Pl.recX m m.length, Pl.recO m.length)).1.1) (mrow (Pl.ech (Pl.qA (D.iface (Pl.tyA q) (Pl.datA q))) ((2 : Nat) * m.length - (1 : Nat)) ((2 : Nat) * m.length) (Pl.recX m m.length, Pl.recO m.length)).1.2 ((2 : Nat) * m.length))).length : Int)) x.2.1) ≤ b.length) ∧ Br (Pl.dot (Pl.qF (D.rptr (fieldC q))) (rd i64.slc (sub (List.map (mrow (Pl.ech (Pl.qA (D.iface (Pl.tyA q) (Pl.datA q))) ((2 : Nat) * m.length - (1 : Nat)) ((2 : Nat) * m.length) (Pl.recX m m.length, Pl.recO m.length)).1.1) (mrow (Pl.ech (Pl.qA (D.iface (Pl.tyA q) (Pl.datA q))) ((2 : Nat) * m.length - (1 : Nat)) ((2 : Nat) * m.length) (Pl.recX m m.length, Pl.recO m.length)).1.2 ((2 : Nat) * m.length))) (↑(mrow (Pl.cst (Pl.ech (Pl.qA (D.iface (Pl.tyA q) (Pl.datA q))) ((2 : Nat) * m.length - (1 : Nat)) ((2 : Nat) * m.length) (Pl.recX m m.length, Pl.recO m.length)).2) (Pl.ech (Pl.qA (D.iface (Pl.tyA q) (Pl.datA q))) ((2 : Nat) * m.length - (1 : Nat)) ((2 : Nat) * m.length) (Pl.recX m m.length, Pl.recO m.length)).2.length).length : Int) (↑(List.map (mrow (Pl.ech (Pl.qA (D.iface (Pl.tyA q) (Pl.datA q))) ((2 : Nat) * m.length - (1 : Nat)) ((2 : Nat) * m.length) (Pl.recX m m.length, Pl.recO m.length)).1.1) (mrow (Pl.ech (Pl.qA (D.iface (Pl.tyA q) (Pl.datA q))) ((2 : Nat) * m.length - (1 : Nat)) ((2 : Nat) * m.length) (Pl.recX m m.length, Pl.recO m.length)).1.2 ((2 : Nat) * m.length))).length : Int)) x.2.1) b != (0 : Int)) (([], rd i64.slc (sub (List.map (mrow (Pl.ech (Pl.qA (D.iface (Pl.tyA q) (Pl.datA q))) ((2 : Nat) * m.length - (1 : Nat)) ((2 : Nat) * m.length) (Pl.recX m m.length, Pl.recO m.length)).1.1) (mrow (Pl.ech (Pl.qA (D.iface (Pl.tyA q) (Pl.datA q))) ((2 : Nat) * m.length - (1 : Nat)) ((2 : Nat) * m.length) (Pl.recX m m.length, Pl.recO m.length)).1.2 ((2 : Nat) * m.length))) (↑(mrow (Pl.cst (Pl.ech (Pl.qA (D.iface (Pl.tyA q) (Pl.datA q))) ((2 : Nat) * m.length - (1 : Nat)) ((2 : Nat) * m.length) (Pl.recX m m.length, Pl.recO m.length)).2) (Pl.ech (Pl.qA (D.iface (Pl.tyA q) (Pl.datA q))) ((2 : Nat) * m.length - (1 : Nat)) ((2 : Nat) * m.length) (Pl.recX m m.length, Pl.recO m.length)).2.length).length : Int) (↑(List.map (mrow (Pl.ech (Pl.qA (D.iface (Pl.tyA q) (Pl.datA q))) ((2 : Nat) * m.length - (1 : Nat)) ((2 : Nat) * m.length) (Pl.recX m m.length, Pl.recO m.length)).1.1) (mrow (Pl.ech (Pl.qA (D.iface (Pl.tyA q) (Pl.datA q))) ((2 : Nat) * m.length - (1 : Nat)) ((2 : Nat) * m.length) (Pl.recX m m.length, Pl.recO m.length)).1.2 ((2 : Nat) * m.length))).length : Int)) x.2.1, ()) = C101d.post (fieldD q, m, b, ())) (G (x.1, IntKind.i64.wrap (x.2.1 + (1 : Int)), x.2.2.1, (), x.2.2.2.2))) (Br (decide ((↑m.length : Int) > (0 : Int))) ((0 : Int) ≤ (0 : Int) ∧ (0 : Int) < (↑m.length : Int) ∧ (0 : Int) ≤ (↑(List.length (rd i64.slc m (0 : Int))) : Int) ∧ (↑(List.length (rd i64.slc m (0 : Int))) : Int) = (↑(List.length (rd i64.slc m (0 : Int))) : Int) ∧ (↑(List.length (rd i64.slc m (0 : Int))) : Int) * (8 : Int) ≤ (140737488355328 : Int) ∧ ∃ (n : Nat), itl (fun (G : List Int × Int × List (Option (List Int)) × PUnit × List (Option (List Nat)) × List (Option (List Int)) × PUnit → Prop) (x : List Int × Int × List (Option (List Int)) × PUnit × List (Option (List Nat)) × List (Option (List Int)) × PUnit) => Br (decide (x.2.1 < (↑(mrow (Pl.cst (Pl.ech (Pl.qA (D.iface (Pl.tyA q) (Pl.datA q))) ((2 : Nat) * m.length - (1 : Nat)) ((2 : Nat) * m.length) (Pl.recX m m.length, Pl.recO m.length)).2) (Pl.ech (Pl.qA (D.iface (Pl.tyA q) (Pl.datA q))) ((2 : Nat) * m.length - (1 : Nat)) ((2 : Nat) * m.length) (Pl.recX m m.length, Pl.recO m.length)).2.length).length : Int))) ((0 : Int) ≤ x.2.1 ∧ x.2.1 < (↑(mrow (Pl.cst (Pl.ech (Pl.qA (D.iface (Pl.tyA q) (Pl.datA q))) ((2 : Nat) * m.length - (1 : Nat)) ((2 : Nat) * m.length) (Pl.recX m m.length, Pl.recO m.length)).2) (Pl.ech (Pl.qA (D.iface (Pl.tyA q) (Pl.datA q))) ((2 : Nat) * m.length - (1 : Nat)) ((2 : Nat) * m.length) (Pl.recX m m.length, Pl.recO m.length)).2.length).length : Int) ∧ (0 : Int) ≤ x.2.1 ∧ x.2.1 < (↑(List.map (mrow (Pl.ech (Pl.qA (D.iface (Pl.tyA q) (Pl.datA q))) ((2 : Nat) * m.length - (1 : Nat)) ((2 : Nat) * m.length) (Pl.recX m m.length, Pl.recO m.length)).1.1) (mrow (Pl.ech (Pl.qA (D.iface (Pl.tyA q) (Pl.datA q))) ((2 : Nat) * m.length - (1 : Nat)) ((2 : Nat) * m.length) (Pl.recX m m.length, Pl.recO m.length)).1.2 ((2 : Nat) * m.length))).length : Int) ∧ (Pl.okF (D.rptr (fieldC q)) ∧ Pl.inAll (Pl.qF (D.rptr (fieldC q))) (rd i64.slc (List.map (mrow (Pl.ech (Pl.qA (D.iface (Pl.tyA q) (Pl.datA q))) ((2 : Nat) * m.length - (1 : Nat)) ((2 : Nat) * m.length) (Pl.recX m m.length, Pl.recO m.length)).1.1) (mrow (Pl.ech (Pl.qA (D.iface (Pl.tyA q) (Pl.datA q))) ((2 : Nat) * m.length - (1 : Nat)) ((2 : Nat) * m.length) (Pl.recX m m.length, Pl.recO m.length)).1.2 ((2 : Nat) * m.length))) x.2.1) ∧ Pl.inAll (Pl.qF (D.rptr (fieldC q))) b ∧ List.length (rd i64.slc (List.map (mrow (Pl.ech (Pl.qA (D.iface (Pl.tyA q) (Pl.datA q))) ((2 : Nat) * m.length - (1 : Nat)) ((2 : Nat) * m.length) (Pl.recX m m.length, Pl.recO m.length)).1.1) (mrow (Pl.ech (Pl.qA (D.iface (Pl.tyA q) (Pl.datA q))) ((2 : Nat) * m.length - (1 : Nat)) ((2 : Nat) * m.length) (Pl.recX m m.length, Pl.recO m.length)).1.2 ((2 : Nat) * m.length))) x.2.1) ≤ b.length) ∧ (0 : Int) ≤ rd i64 (mrow (Pl.cst (Pl.ech (Pl.qA (D.iface (Pl.tyA q) (Pl.datA q))) ((2 : Nat) * m.length - (1 : Nat)) ((2 : Nat) * m.length) (Pl.recX m m.length, Pl.recO m.length)).2) (Pl.ech (Pl.qA (D.iface (Pl.tyA q) (Pl.datA q))) ((2 : Nat) * m.length - (1 : Nat)) ((2 : Nat) * m.length) (Pl.recX m m.length, Pl.recO m.length)).2.length) x.2.1 ∧ rd i64 (mrow (Pl.cst (Pl.ech (Pl.qA (D.iface (Pl.tyA q) (Pl.datA q))) ((2 : Nat) * m.length - (1 : Nat)) ((2 : Nat) * m.length) (Pl.recX m m.length, Pl.recO m.length)).2) (Pl.ech (Pl.qA (D.iface (Pl.tyA q) (Pl.datA q))) ((2 : Nat) * m.length - (1 : Nat)) ((2 : Nat) * m.length) (Pl.recX m m.length, Pl.recO m.length)).2.length) x.2.1 < (↑(List.length x.1) : Int) ∧ (0 : Int) ≤ rd i64 (mrow (Pl.cst (Pl.ech (Pl.qA (D.iface (Pl.tyA q) (Pl.datA q))) ((2 : Nat) * m.length - (1 : Nat)) ((2 : Nat) * m.length) (Pl.recX m m.length, Pl.recO m.length)).2) (Pl.ech (Pl.qA (D.iface (Pl.tyA q) (Pl.datA q))) ((2 : Nat) * m.length - (1 : Nat)) ((2 : Nat) * m.length) (Pl.recX m m.length, Pl.recO m.length)).2.length) x.2.1 ∧ rd i64 (mrow (Pl.cst (Pl.ech (Pl.qA (D.iface (Pl.tyA q) (Pl.datA q))) ((2 : Nat) * m.length - (1 : Nat)) ((2 : Nat) * m.length) (Pl.recX m m.length, Pl.recO m.length)).2) (Pl.ech (Pl.qA (D.iface (Pl.tyA q) (Pl.datA q))) ((2 : Nat) * m.length - (1 : Nat)) ((2 : Nat) * m.length) (Pl.recX m m.length, Pl.recO m.length)).2.length) x.2.1 < (↑(List.length x.1) : Int) ∧ G (List.set x.1 (Int.toNat (rd i64 (mrow (Pl.cst (Pl.ech (Pl.qA (D.iface (Pl.tyA q) (Pl.datA q))) ((2 : Nat) * m.length - (1 : Nat)) ((2 : Nat) * m.length) (Pl.recX m m.length, Pl.recO m.length)).2) (Pl.ech (Pl.qA (D.iface (Pl.tyA q) (Pl.datA q))) ((2 : Nat) * m.length - (1 : Nat)) ((2 : Nat) * m.length) (Pl.recX m m.length, Pl.recO m.length)).2.length) x.2.1)) (Pl.dot (Pl.qF (D.rptr (fieldC q))) (rd i64.slc (List.map (mrow (Pl.ech (Pl.qA (D.iface (Pl.tyA q) (Pl.datA q))) ((2 : Nat) * m.length - (1 : Nat)) ((2 : Nat) * m.length) (Pl.recX m m.length, Pl.recO m.length)).1.1) (mrow (Pl.ech (Pl.qA (D.iface (Pl.tyA q) (Pl.datA q))) ((2 : Nat) * m.length - (1 : Nat)) ((2 : Nat) * m.length) (Pl.recX m m.length, Pl.recO m.length)).1.2 ((2 : Nat) * m.length))) x.2.1) b), IntKind.i64.wrap (x.2.1 + (1 : Int)), x.2.2.1, (), x.2.2.2.2)) ((x.1, [], ()) = C101d.post (fieldD q, m, b, ()))) n (List.replicate (↑(List.length (rd i64.slc m (0 : Int))) : Int).toNat (0 : Int), (0 : Int), x.2.2.1, (), x.2.2.2.2)) (∃ (n : Nat), itl (fun (G : List Int × Int × List (Option (List Int)) × PUnit × List (Option (List Nat)) × List (Option (List Int)) × PUnit → Prop) (x : List Int × Int × List (Option (List Int)) × PUnit × List (Option (List Nat)) × List (Option (List Int)) × PUnit) => Br (decide (x.2.1 < (↑(mrow (Pl.cst (Pl.ech (Pl.qA (D.iface (Pl.tyA q) (Pl.datA q))) ((2 : Nat) * m.length - (1 : Nat)) ((2 : Nat) * m.length) (Pl.recX m m.length, Pl.recO m.length)).2) (Pl.ech (Pl.qA (D.iface (Pl.tyA q) (Pl.datA q))) ((2 : Nat) * m.length - (1 : Nat)) ((2 : Nat) * m.length) (Pl.recX m m.length, Pl.recO m.length)).2.length).length : Int))) ((0 : Int) ≤ x.2.1 ∧ x.2.1 < (↑(mrow (Pl.cst (Pl.ech (Pl.qA (D.iface (Pl.tyA q) (Pl.datA q))) ((2 : Nat) * m.length - (1 : Nat)) ((2 : Nat) * m.length) (Pl.recX m m.length, Pl.recO m.length)).2) (Pl.ech (Pl.qA (D.iface (Pl.tyA q) (Pl.datA q))) ((2 : Nat) * m.length - (1 : Nat)) ((2 : Nat) * m.length) (Pl.recX m m.length, Pl.recO m.length)).2.length).length : Int) ∧ (0 : Int) ≤ x.2.1 ∧ x.2.1 < (↑(List.map (mrow (Pl.ech (Pl.qA (D.iface (Pl.tyA q) (Pl.datA q))) ((2 : Nat) * m.length - (1 : Nat)) ((2 : Nat) * m.length) (Pl.recX m m.length, Pl.recO m.length)).1.1) (mrow (Pl.ech (Pl.qA (D.iface (Pl.tyA q) (Pl.datA q))) ((2 : Nat) * m.length - (1 : Nat)) ((2 : Nat) * m.length) (Pl.recX m m.length, Pl.recO m.length)).1.2 ((2 : Nat) * m.length))).length : Int) ∧ (Pl.okF (D.rptr (fieldC q)) ∧ Pl.inAll (Pl.qF (D.rptr (fieldC q))) (rd i64.slc (List.map (mrow (Pl.ech (Pl.qA (D.iface (Pl.tyA q) (Pl.datA q))) ((2 : Nat) * m.length - (1 : Nat)) ((2 : Nat) * m.length) (Pl.recX m m.length, Pl.recO m.length)).1.1) (mrow (Pl.ech (Pl.qA (D.iface (Pl.tyA q) (Pl.datA q))) ((2 : Nat) * m.length - (1 : Nat)) ((2 : Nat) * m.length) (Pl.recX m m.length, Pl.recO m.length)).1.2 ((2 : Nat) * m.length))) x.2.1) ∧ Pl.inAll (Pl.qF (D.rptr (fieldC q))) b ∧ List.length (rd i64.slc (List.map (mrow (Pl.ech (Pl.qA (D.iface (Pl.tyA q) (Pl.datA q))) ((2 : Nat) * m.length - (1 : Nat)) ((2 : Nat) * m.length) (Pl.recX m m.length, Pl.recO m.length)).1.1) (mrow (Pl.ech (Pl.qA (D.iface (Pl.tyA q) (Pl.datA q))) ((2 : Nat) * m.length - (1 : Nat)) ((2 : Nat) * m.length) (Pl.recX m m.length, Pl.recO m.length)).1.2 ((2 : Nat) * m.length))) x.2.1) ≤ b.length) ∧ (0 : Int) ≤ rd i64 (mrow (Pl.cst (Pl.ech (Pl.qA (D.iface (Pl.tyA q) (Pl.datA q))) ((2 : Nat) * m.length - (1 : Nat)) ((2 : Nat) * m.length) (Pl.recX m m.length, Pl.recO m.length)).2) (Pl.ech (Pl.qA (D.iface (Pl.tyA q) (Pl.datA q))) ((2 : Nat) * m.length - (1 : Nat)) ((2 : Nat) * m.length) (Pl.recX m m.length, Pl.recO m.length)).2.length) x.2.1 ∧ rd i64 (mrow (Pl.cst (Pl.ech (Pl.qA (D.iface (Pl.tyA q) (Pl.datA q))) ((2 : Nat) * m.length - (1 : Nat)) ((2 : Nat) * m.length) (Pl.recX m m.length, Pl.recO m.length)).2) (Pl.ech (Pl.qA (D.iface (Pl.tyA q) (Pl.datA q))) ((2 : Nat) * m.length - (1 : Nat)) ((2 : Nat) * m.length) (Pl.recX m m.length, Pl.recO m.length)).2.length) x.2.1 < (↑(List.length x.1) : Int) ∧ (0 : Int) ≤ rd i64 (mrow (Pl.cst (Pl.ech (Pl.qA (D.iface (Pl.tyA q) (Pl.datA q))) ((2 : Nat) * m.length - (1 : Nat)) ((2 : Nat) * m.length) (Pl.recX m m.length, Pl.recO m.length)).2) (Pl.ech (Pl.qA (D.iface (Pl.tyA q) (Pl.datA q))) ((2 : Nat) * m.length - (1 : Nat)) ((2 : Nat) * m.length) (Pl.recX m m.length, Pl.recO m.length)).2.length) x.2.1 ∧ rd i64 (mrow (Pl.cst (Pl.ech (Pl.qA (D.iface (Pl.tyA q) (Pl.datA q))) ((2 : Nat) * m.length - (1 : Nat)) ((2 : Nat) * m.length) (Pl.recX m m.length, Pl.recO m.length)).2) (Pl.ech (Pl.qA (D.iface (Pl.tyA q) (Pl.datA q))) ((2 : Nat) * m.length - (1 : Nat)) ((2 : Nat) * m.length) (Pl.recX m m.length, Pl.recO m.length)).2.length) x.2.1 < (↑(List.length x.1) : Int) ∧ G (List.set x.1 (Int.toNat (rd i64 (mrow (Pl.cst (Pl.ech (Pl.qA (D.iface (Pl.tyA q) (Pl.datA q))) ((2 : Nat) * m.length - (1 : Nat)) ((2 : Nat) * m.length) (Pl.recX m m.length, Pl.recO m.length)).2) (Pl.ech (Pl.qA (D.iface (Pl.tyA q) (Pl.datA q))) ((2 : Nat) * m.length - (1 : Nat)) ((2 : Nat) * m.length) (Pl.recX m m.length, Pl.recO m.length)).2.length) x.2.1)) (Pl.dot (Pl.qF (D.rptr (fieldC q))) (rd i64.slc (List.map (mrow (Pl.ech (Pl.qA (D.iface (Pl.tyA q) (Pl.datA q))) ((2 : Nat) * m.length - (1 : Nat)) ((2 : Nat) * m.length) (Pl.recX m m.length, Pl.recO m.length)).1.1) (mrow (Pl.ech (Pl.qA (D.iface (Pl.tyA q) (Pl.datA q))) ((2 : Nat) * m.length - (1 : Nat)) ((2 : Nat) * m.length) (Pl.recX m m.length, Pl.recO m.length)).1.2 ((2 : Nat) * m.length))) x.2.1) b), IntKind.i64.wrap (x.2.1 + (1 : Int)), x.2.2.1, (), x.2.2.2.2)) ((x.1, [], ()) = C101d.post (fieldD q, m, b, ()))) n (x.1, (0 : Int), x.2.2.1, (), x.2.2.2.2)))) n ([], (0 : Int), List.map (fun (x : Option (List i64.El)) => none) (Pl.ech (Pl.qA (D.iface (Pl.tyA q) (Pl.datA q))) ((2 : Nat) * m.length - (1 : Nat)) ((2 : Nat) * m.length) (Pl.recX m m.length, Pl.recO m.length)).1.1, (), List.map (fun (x : Option (List (Ty.ref (0 : Nat)).El)) => none) (Pl.ech (Pl.qA (D.iface (Pl.tyA q) (Pl.datA q))) ((2 : Nat) * m.length - (1 : Nat)) ((2 : Nat) * m.length) (Pl.recX m m.length, Pl.recO m.length)).1.2, List.map (fun (x : Option (List i64.El)) => none) (Pl.cst (Pl.ech (Pl.qA (D.iface (Pl.tyA q) (Pl.datA q))) ((2 : Nat) * m.length - (1 : Nat)) ((2 : Nat) * m.length) (Pl.recX m m.length, Pl.recO m.length)).2), ())) (by kernel_rfl) ?_
 rw [recS_eq hq, qF_f, c2, rowsD_eq, hp]
 have hlC := F.lC
 have hlD := F.lD
 have hrD := F.rD
 have hW : Pl.den q m b = some (Pl.denW q m b) := by
  unfold Pl.denW
  cases h : Pl.den q m b with
  | none => exact absurd h hd
  | some w => rfl
 unfold Pl.den at hW
 have hCe : (Pl.recS q m).2 = Pl.echC q m := rfl
 have hsub : sub (Pl.echD q m) ((Pl.recS q m).2.length : Int) ((Pl.echD q m).length : Int) = (Pl.echD q m).drop (Pl.echC q m).length := sub_drop _ _
 rw [hsub]
 rw [hCe] at c1 ⊢
 generalize Pl.echC q m = C at *
 generalize Pl.echD q m = DD at *
 generalize Pl.denW q m b = W at *
 have hpre : ∀ r ∈ DD, Pl.okF (D.rptr (fieldC q)) ∧ Pl.inAll q r ∧ Pl.inAll q b ∧ r.length ≤ b.length := fun r hr => ⟨okF_f hq, ⟨(hrD r hr).2, by rw [(hrD r hr).1]; omega⟩, ⟨s3, hb⟩, by rw [(hrD r hr).1]; omega⟩
 refine ⟨p1, ⟨p2, rfl⟩, F.m1, F.a1, F.m2, F.a2, c1, by omega, by omega, itl_rule (fun (s : List Int × Int × XS × Unit × OS × XS × Unit) => ∃ (i : Nat), s.1 = [] ∧ s.2.1 = (i : Int) ∧ i ≤ (DD.drop C.length).length ∧ Pl.denL q b ((DD.drop C.length).drop i) = some W) (fun s => (((DD.drop C.length).length : Int) - s.2.1).toNat) ⟨0, rfl, rfl, Nat.zero_le _, hW⟩ ?_⟩
 have hrE : ∀ r ∈ DD.drop C.length, r ∈ DD := fun r hr => List.mem_of_mem_drop hr
 have hlE : (DD.drop C.length).length ≤ 1000000000 := by rw [List.length_drop]; omega
 generalize DD.drop C.length = EE at *
 rintro ⟨x, i0, A, ⟨⟩, O, K, ⟨⟩⟩ G ⟨i, ex, e, hi, hf⟩ hG
 simp only at ex e hf hG ⊢
 subst ex e
 refine Br_of (fun h => ?_) (fun h => ?_)
 ·have h : i < EE.length := by have := of_decide_eq_true h; omega
  rw [rd_rr, wrap_i64 (by omega) (by omega)]
  rw [drop_cons [] h, Pl.denL] at hf
  refine ⟨by omega, by omega, hpre _ (hrE _ (rowD_mem h)), Br_of (fun h1 => ?_) (fun h1 => ?_)⟩
  ·have h1 : Pl.dot q (EE.getD i []) b ≠ 0 := by simpa using h1
   rw [decide_eq_true h1, cond_true] at hf
   injection hf with hf
   rw [← hf]
  ·have h1 : Pl.dot q (EE.getD i []) b = 0 := by simpa using h1
   rw [decide_eq_false (not_not_intro h1), cond_false] at hf
   exact hG _ ⟨i + 1, rfl, rfl, by omega, hf⟩ (by simp only; omega)
 ·have h : i = EE.length := by have := of_decide_eq_false h; omega
  subst h
  rw [List.drop_length] at hf
  cases hf
end Fd
end
section
set_option linter.unusedVariables false
set_option linter.unusedSimpArgs false
set_option maxRecDepth 100000
namespace Fd
open Go Fw Go.Proofs

theorem snd_join {P : Program} {f : FuncId} {args res : List Ar} {pa pb p : Ars args → Prop} {post : Ars args → Ars res} (ha : Sound P f ⟨args, res, pa, post, none⟩) (hb : Sound P f ⟨args, res, pb, post, none⟩) (h : ∀ x, p x → pa x ∨ pb x) : Sound P f ⟨args, res, p, post, none⟩ :=
 ⟨⟨fun x hx => (h x hx).elim (ha.1.a x) (hb.1.a x), fun x hx => (h x hx).elim (ha.1.r x) (hb.1.r x)⟩, fun x hx => (h x hx).elim (ha.2 x) (hb.2 x)⟩
theorem snd_less {P : Program} {f : FuncId} {args res : List Ar} {pa p : Ars args → Prop} {post post' : Ars args → Ars res} (ha : Sound P f ⟨args, res, pa, post, none⟩) (h : ∀ x, p x → pa x) (hp : ∀ x, p x → encs res (post x) = encs res (post' x)) : Sound P f ⟨args, res, p, post', none⟩ := by
 refine ⟨⟨fun x hx => ha.1.a x (h x hx), fun x hx => by have := ha.1.r x (h x hx); show D.nrs (encs res (post' x)); rw [← hp x hx]; exact this⟩, fun x hx w O vs hO hl => ?_⟩
 have conv : ∀ e w', CPost ⟨args, res, pa, post, none⟩ x w ⟨O, nn⟩ e w' → CPost ⟨args, res, p, post', none⟩ x w ⟨O, nn⟩ e w' := by
  rintro e w' ⟨v, he, hb, hv, _⟩
  refine ⟨v, he, hb, fun ι => ?_, fun e he => by cases he⟩
  show ARep w' ⟨O, nn⟩ ι (resAV (encs res (post' x))) v
  rw [← hp x hx]
  exact hv ι
 rcases ha.2 x (h x hx) w O vs hO hl with ⟨h1, h2⟩ | ⟨v, w', h1, h2⟩
 ·exact .inl ⟨h1, h2.mono conv⟩
 ·exact .inr ⟨v, w', h1, conv _ _ h2⟩
theorem nrc101s : NRC C101s := ⟨fun x hx => ⟨okF_nr hx.1.1, rfl, rfl, trivial⟩, fun x hx => ⟨rfl, trivial, trivial⟩⟩
theorem nrc101d : NRC C101d := ⟨fun x hx => ⟨okF_nr hx.1.1, rfl, rfl, trivial⟩, fun x hx => ⟨rfl, rfl, trivial⟩⟩
theorem nrcDe {p : D × List (List Int) × List Int × Unit → Prop} : NRC (Cdeny p) := ⟨fun x hx => ⟨okF_nr hx.1.1, rfl, rfl, trivial⟩, fun x hx => ⟨rfl, trivial, trivial⟩⟩
theorem snd101s : Sound Try.prog 101 C101s := fn_sound (T := T101) (fn := Try.f101) (tokg (T := T101) ⟨snd94, trivial⟩ ⟨snd90, snd91, trivial⟩ trivial noInv noCv) Try.func101 (by kernel_rfl) H101 vc101s (by kernel_rfl) (hC := nrc101s)
theorem snd101d : Sound Try.prog 101 C101d := fn_sound (T := T101) (fn := Try.f101) (tokg (T := T101) ⟨snd94, trivial⟩ ⟨snd90, snd91, trivial⟩ trivial noInv noCv) Try.func101 (by kernel_rfl) H101 vc101d (by kernel_rfl) (hC := nrc101d)
theorem denL_mem {q : Int} {b w : List Int} : ∀ {l : List (List Int)}, Pl.denL q b l = some w → w ∈ l
 | [], h => by cases h
 | r :: l, h => by
  rw [Pl.denL] at h
  by_cases e : Pl.dot q r b ≠ 0
  ·rw [decide_eq_true e, cond_true] at h
   injection h with h
   subst h
   exact List.mem_cons_self
  ·rw [decide_eq_false e, cond_false] at h
   exact List.mem_cons_of_mem _ (denL_mem h)
theorem den_len {q : Int} (hq : isQ q) {m : List (List Int)} {b w : List Int} (hs : Pl.sys q m b = 0) (h : Pl.den q m b = some w) : w.length = m.length ∧ 0 < m.length ∧ ∀ x ∈ w, Pl.inQ q x := by
 obtain ⟨s1, _, _⟩ := den_sys hs
 obtain ⟨_, _, F⟩ := pre_new hq s1
 have hm := List.mem_of_mem_drop (denL_mem h)
 obtain ⟨h1, h2⟩ := F.rD w hm
 refine ⟨h1, ?_, h2⟩
 have := List.length_pos_of_mem hm
 rw [F.lD] at this
 exact this
theorem deny_bad {q : Int} {m : List (List Int)} {b : List Int} (h : Pl.sys q m b ≠ 0) : Pl.deny q m b = ([], false) := by unfold Pl.deny; rw [decide_eq_true h]; rfl
theorem deny_some {q : Int} {m : List (List Int)} {b : List Int} (h : Pl.sys q m b = 0) (hd : Pl.den q m b ≠ none) : Pl.deny q m b = (Pl.denW q m b, true) := by
 unfold Pl.deny Pl.denW
 rw [decide_eq_false (not_not_intro h)]
 cases e : Pl.den q m b with
 | none => exact absurd e hd
 | some w => rfl
theorem deny_none {q : Int} {m : List (List Int)} {b : List Int} (h : Pl.sys q m b = 0) (hd : Pl.den q m b = none) : Pl.deny q m b = ([], false) := by
 unfold Pl.deny
 rw [decide_eq_false (not_not_intro h), hd]; rfl
theorem vc46s : ∀ x, C46s.pre x → VC (T46 C101s) H0 Try.f46 C46s x := by
 rintro ⟨v, (m : List (List Int)), (b : List Int), ⟨⟩⟩ ⟨⟨⟨q, hq, (rfl : v = _)⟩, (hm : Pl.okMM m), (hb : b.length ≤ 1000000000)⟩, (hd : Pl.sys (Pl.qF (fieldD q)) m b = 0 → Pl.den (Pl.qF (fieldD q)) m b = none)⟩
 rw [qF_d] at hd
 refine cast (α := (Pl.okF (D.rptr (fieldC q)) ∧ Pl.okMM m ∧ b.length ≤ (1000000000 : Nat)) ∧ Br (Pl.sys (Pl.qF (D.rptr (fieldC q))) m b != (0 : Int)) (([], false, ()) = C46s.post (fieldD q, m, b, ())) ((Pl.okSy (D.rptr (fieldC q), m, b, ()) ∧ Pl.sys (Pl.qF (D.rptr (fieldC q))) m b = (0 : Int) ∧ Pl.den (Pl.qF (D.rptr (fieldC q))) m b = none) ∧ ([], !true, ()) = C46s.post (fieldD q, m, b, ()))) (by kernel_rfl) ?_
 have hp : C46s.post (fieldD q, m, b, ()) = ((Pl.deny q m b).1, (Pl.deny q m b).2, ()) := rfl
 rw [hp, qF_f]
 refine ⟨⟨okF_f hq, hm, hb⟩, Br_of (fun h => ?_) (fun h => ?_)⟩
 ·have h : Pl.sys q m b ≠ 0 := by simpa using h
  rw [deny_bad h]
 ·have h : Pl.sys q m b = 0 := by simpa using h
  refine ⟨⟨⟨okF_f hq, hm, hb⟩, h, hd h⟩, ?_⟩
  rw [deny_none h (hd h)]; rfl
theorem vc46d : ∀ x, C46d.pre x → VC (T46 C101d) H0 Try.f46 C46d x := by
 rintro ⟨v, (m : List (List Int)), (b : List Int), ⟨⟩⟩ ⟨⟨⟨q, hq, (rfl : v = _)⟩, (hm : Pl.okMM m), (hb : b.length ≤ 1000000000)⟩, (h : Pl.sys (Pl.qF (fieldD q)) m b = 0), (hd : Pl.den (Pl.qF (fieldD q)) m b ≠ none)⟩
 rw [qF_d] at h hd
 refine cast (α := (Pl.okF (D.rptr (fieldC q)) ∧ Pl.okMM m ∧ b.length ≤ (1000000000 : Nat)) ∧ Br (Pl.sys (Pl.qF (D.rptr (fieldC q))) m b != (0 : Int)) (([], false, ()) = C46d.post (fieldD q, m, b, ())) ((Pl.okSy (D.rptr (fieldC q), m, b, ()) ∧ Pl.sys (Pl.qF (D.rptr (fieldC q))) m b = (0 : Int) ∧ Pl.den (Pl.qF (D.rptr (fieldC q))) m b ≠ none) ∧ (0 : Nat) < (Pl.denW (Pl.qF (D.rptr (fieldC q))) m b).length ∧ (Pl.denW (Pl.qF (D.rptr (fieldC q))) m b, true, ()) = C46d.post (fieldD q, m, b, ()))) (by kernel_rfl) ?_
 have hp : C46d.post (fieldD q, m, b, ()) = ((Pl.deny q m b).1, (Pl.deny q m b).2, ()) := rfl
 rw [hp, qF_f]
 refine ⟨⟨okF_f hq, hm, hb⟩, Br_of (fun h' => ?_) (fun _ => ⟨⟨⟨okF_f hq, hm, hb⟩, h, hd⟩, ?_, ?_⟩)⟩
 ·have h' : Pl.sys q m b ≠ 0 := by simpa using h'
  exact absurd h h'
 ·unfold Pl.denW
  cases e : Pl.den q m b with
  | none => exact absurd e hd
  | some w =>
   obtain ⟨h1, h2, _⟩ := den_len hq h e
   show 0 < w.length
   omega
 ·rw [deny_some h hd]
theorem snd46s : Sound Try.prog 46 C46s := fn_sound (T := T46 C101s) (fn := Try.f46) (tok0 ⟨snd92, snd101s, trivial⟩) Try.func46 (by kernel_rfl) H0 vc46s (by kernel_rfl) (hC := nrcDe)
theorem snd46d : Sound Try.prog 46 C46d := fn_sound (T := T46 C101d) (fn := Try.f46) (tok0 ⟨snd92, snd101d, trivial⟩) Try.func46 (by kernel_rfl) H0 vc46d (by kernel_rfl) (hC := nrcDe)
theorem sd_or (x : D × List (List Int) × List Int × Unit) : Pl.isS x ∨ Pl.isD x := by
 by_cases h : Pl.sys (Pl.qF x.1) x.2.1 x.2.2.1 = 0
 ·by_cases hd : Pl.den (Pl.qF x.1) x.2.1 x.2.2.1 = none
  ·exact .inl fun _ => hd
  ·exact .inr ⟨h, hd⟩
 ·exact .inl fun h' => absurd h' h
theorem snd46 : Sound Try.prog 46 C46 := snd_join snd46s snd46d fun x hx => (sd_or x).elim (fun h => .inl ⟨hx.1, h⟩) (fun h => .inr ⟨hx.1, h⟩)
def C78q : Con := ⟨[I], [.raw, I], fun (x : Int × Unit) => isQ x.1, fun (x : Int × Unit) => (fieldD x.1, 0, ()), none⟩
theorem snd78q : Sound Try.prog 78 C78q := snd_less snd78 (fun _ _ => trivial) fun x hx => by
 obtain ⟨q, ⟨⟩⟩ := x
 rw [show (newF q, bif Pl.okQ q then (0 : Int) else 20, ()) = (fieldD q, (0 : Int), ()) from newF_yes hx]
end Fd
end
section
set_option linter.unusedVariables false
set_option linter.unusedSimpArgs false
set_option maxRecDepth 100000
namespace Fd
open Go Fw Go.Proofs

def C24 : Con := ⟨[], [B], fun _ => True, fun _ => (true, ()), none⟩
def T24 : Ctx := TT [(78, C78q), (80, C80), (46, C46), (42, C42), (34, C34), (55, C55)]
def Pl.smalls : List Int := [2, 3, 4, 5, 7, 8, 9, 11, 13, 16, 25, 27]
def Pl.someQ (order most : Int) : Int := bif (!Pl.okQ order) || decide (order > most) then Pl.smalls.getD (IntKind.i64.wrap ((IntKind.u64.wrap order).tmod 12)).toNat 0 else order
def C19 : Con := ⟨[I, I], [.raw, G4], fun (x : Int × Int × Unit) => True, fun (x : Int × Int × Unit) => (fieldD (Pl.someQ x.1 x.2.1), RF (Pl.someQ x.1 x.2.1), ()), none⟩
def T19 : Ctx := TT [(79, C79), (78, C78q)]
end Fd
end
section
set_option linter.unusedVariables false
set_option linter.unusedSimpArgs false
set_option maxRecDepth 100000
namespace Fd
open Go Fw Go.Proofs

theorem isQ_b {q : Int} (h : Pl.okQ q = true) : isQ q := okQ_iff.1 h
theorem wrapU (x : Int) : IntKind.wrap .u64 x = x % 18446744073709551616 := by
 unfold IntKind.wrap
 simp [IntKind.bits, IntKind.signed]
theorem idx12 (o : Int) : 0 ≤ IntKind.i64.wrap ((IntKind.u64.wrap o).tmod 12) ∧ IntKind.i64.wrap ((IntKind.u64.wrap o).tmod 12) < 12 := by
 rw [wrapU, Int.tmod_eq_emod_of_nonneg (by omega), wrap_i64 (by omega) (by omega)]
 omega
theorem newR_ok {q : Int} (h : Pl.okQ q = true) : Pl.newR q = RF q := by unfold Pl.newR; rw [h]; rfl
theorem someQ_small {o most : Int} (hb : ((!Pl.okQ o) || decide (o > most)) = true) : Pl.someQ o most = Pl.smalls.getD (IntKind.i64.wrap ((IntKind.u64.wrap o).tmod 12)).toNat 0 := by
 unfold Pl.someQ; rw [hb]; rfl
theorem someQ_self {o most : Int} (h1 : Pl.okQ o = true) (h2 : ¬ o > most) : Pl.someQ o most = o := by
 unfold Pl.someQ; rw [h1, decide_eq_false h2]; rfl
theorem smalls_ok : ∀ q ∈ Pl.smalls, Pl.okQ q = true := by
 intro q hq
 have h : Pl.smalls.all Pl.okQ = true := by kernel_rfl
 exact List.all_eq_true.1 h q hq
theorem someQ_isQ (o most : Int) : isQ (Pl.someQ o most) := by
 cases hb : (!Pl.okQ o) || decide (o > most) with
 | true =>
  rw [someQ_small hb]
  obtain ⟨h1, h2⟩ := idx12 o
  refine isQ_b (smalls_ok _ (getD_mem ?_))
  show _ < 12
  omega
 | false =>
  rw [Bool.or_eq_false_iff] at hb
  have h1 : Pl.okQ o = true := by simpa using hb.1
  rw [someQ_self h1 (of_decide_eq_false hb.2)]
  exact isQ_b h1
theorem sm_post {o most v : Int} {c : Nat} (hb : ((!Pl.okQ o) || decide (o > most)) = true) (e : IntKind.i64.wrap ((IntKind.u64.wrap o).tmod 12) = (c : Int)) (hv : Pl.smalls.getD c 0 = v) (hk : Pl.okQ v = true) : (D.rptr (fieldC v), Pl.newR v, ()) = C19.post (o, most, ()) := by
 show _ = (fieldD (Pl.someQ o most), RF (Pl.someQ o most), ())
 rw [someQ_small hb, e, Int.toNat_natCast, hv, newR_ok hk]; rfl
theorem vc19 : ∀ x, C19.pre x → VC T19 H0 Try.f19 C19 x := by
 rintro ⟨(o : Int), (most : Int), ⟨⟩⟩ -
 refine cast (α := True ∧ Br (!Pl.okQ o) ((12 : Int) ≠ (0 : Int) ∧ Br (decide (IntKind.i64.wrap ((IntKind.u64.wrap o).tmod (12 : Int)) = (↑(0 : Nat) : Int))) (True ∧ ((2 : Int) ≤ (2 : Int) ∧ (2 : Int) ≤ (65536 : Int) ∧ (1 : Int) ≤ Pl.K (2 : Int)) ∧ (D.rptr (fieldC (2 : Int)), Pl.newR (2 : Int), ()) = C19.post (o, most, ())) (Br (decide (IntKind.i64.wrap ((IntKind.u64.wrap o).tmod (12 : Int)) = (↑(1 : Nat) : Int))) (True ∧ ((2 : Int) ≤ (3 : Int) ∧ (3 : Int) ≤ (65536 : Int) ∧ (1 : Int) ≤ Pl.K (3 : Int)) ∧ (D.rptr (fieldC (3 : Int)), Pl.newR (3 : Int), ()) = C19.post (o, most, ())) (Br (decide (IntKind.i64.wrap ((IntKind.u64.wrap o).tmod (12 : Int)) = (↑(2 : Nat) : Int))) (True ∧ ((2 : Int) ≤ (4 : Int) ∧ (4 : Int) ≤ (65536 : Int) ∧ (1 : Int) ≤ Pl.K (4 : Int)) ∧ (D.rptr (fieldC (4 : Int)), Pl.newR (4 : Int), ()) = C19.post (o, most, ())) (Br (decide (IntKind.i64.wrap ((IntKind.u64.wrap o).tmod (12 : Int)) = (↑(3 : Nat) : Int))) (True ∧ ((2 : Int) ≤ (5 : Int) ∧ (5 : Int) ≤ (65536 : Int) ∧ (1 : Int) ≤ Pl.K (5 : Int)) ∧ (D.rptr (fieldC (5 : Int)), Pl.newR (5 : Int), ()) = C19.post (o, most, ())) (Br (decide (IntKind.i64.wrap ((IntKind.u64.wrap o).tmod (12 : Int)) = (↑(4 : Nat) : Int))) (True ∧ ((2 : Int) ≤ (7 : Int) ∧ (7 : Int) ≤ (65536 : Int) ∧ (1 : Int) ≤ Pl.K (7 : Int)) ∧ (D.rptr (fieldC (7 : Int)), Pl.newR (7 : Int), ()) = C19.post (o, most, ())) (Br (decide (IntKind.i64.wrap ((IntKind.u64.wrap o).tmod (12 : Int)) = (↑(5 : Nat) : Int))) (True ∧ ((2 : Int) ≤ (8 : Int) ∧ (8 : Int) ≤ (65536 : Int) ∧ (1 : Int) ≤ Pl.K (8 : Int)) ∧ (D.rptr (fieldC (8 : Int)), Pl.newR (8 : Int), ()) = C19.post (o, most, ())) (Br (decide (IntKind.i64.wrap ((IntKind.u64.wrap o).tmod (12 : Int)) = (↑(6 : Nat) : Int))) (True ∧ ((2 : Int) ≤ (9 : Int) ∧ (9 : Int) ≤ (65536 : Int) ∧ (1 : Int) ≤ Pl.K (9 : Int)) ∧ (D.rptr (fieldC (9 : Int)), Pl.newR (9 : Int), ()) = C19.post (o, most, ())) (Br (decide (IntKind.i64.wrap ((IntKind.u64.wrap o).tmod (12 : Int)) = (↑(7 : Nat) : Int))) (True ∧ ((2 : Int) ≤ (11 : Int) ∧ (11 : Int) ≤ (65536 : Int) ∧ (1 : Int) ≤ Pl.K (11 : Int)) ∧ (D.rptr (fieldC (11 : Int)), Pl.newR (11 : Int), ()) = C19.post (o, most, ())) (Br (decide (IntKind.i64.wrap ((IntKind.u64.wrap o).tmod (12 : Int)) = (↑(8 : Nat) : Int))) (True ∧ ((2 : Int) ≤ (13 : Int) ∧ (13 : Int) ≤ (65536 : Int) ∧ (1 : Int) ≤ Pl.K (13 : Int)) ∧ (D.rptr (fieldC (13 : Int)), Pl.newR (13 : Int), ()) = C19.post (o, most, ())) (Br (decide (IntKind.i64.wrap ((IntKind.u64.wrap o).tmod (12 : Int)) = (↑(9 : Nat) : Int))) (True ∧ ((2 : Int) ≤ (16 : Int) ∧ (16 : Int) ≤ (65536 : Int) ∧ (1 : Int) ≤ Pl.K (16 : Int)) ∧ (D.rptr (fieldC (16 : Int)), Pl.newR (16 : Int), ()) = C19.post (o, most, ())) (Br (decide (IntKind.i64.wrap ((IntKind.u64.wrap o).tmod (12 : Int)) = (↑(10 : Nat) : Int))) (True ∧ ((2 : Int) ≤ (25 : Int) ∧ (25 : Int) ≤ (65536 : Int) ∧ (1 : Int) ≤ Pl.K (25 : Int)) ∧ (D.rptr (fieldC (25 : Int)), Pl.newR (25 : Int), ()) = C19.post (o, most, ())) (Br (decide (IntKind.i64.wrap ((IntKind.u64.wrap o).tmod (12 : Int)) = (↑(11 : Nat) : Int))) (True ∧ ((2 : Int) ≤ (27 : Int) ∧ (27 : Int) ≤ (65536 : Int) ∧ (1 : Int) ≤ Pl.K (27 : Int)) ∧ (D.rptr (fieldC (27 : Int)), Pl.newR (27 : Int), ()) = C19.post (o, most, ())) False)))))))))))) (Br (decide (o > most)) ((12 : Int) ≠ (0 : Int) ∧ Br (decide (IntKind.i64.wrap ((IntKind.u64.wrap o).tmod (12 : Int)) = (↑(0 : Nat) : Int))) (True ∧ ((2 : Int) ≤ (2 : Int) ∧ (2 : Int) ≤ (65536 : Int) ∧ (1 : Int) ≤ Pl.K (2 : Int)) ∧ (D.rptr (fieldC (2 : Int)), Pl.newR (2 : Int), ()) = C19.post (o, most, ())) (Br (decide (IntKind.i64.wrap ((IntKind.u64.wrap o).tmod (12 : Int)) = (↑(1 : Nat) : Int))) (True ∧ ((2 : Int) ≤ (3 : Int) ∧ (3 : Int) ≤ (65536 : Int) ∧ (1 : Int) ≤ Pl.K (3 : Int)) ∧ (D.rptr (fieldC (3 : Int)), Pl.newR (3 : Int), ()) = C19.post (o, most, ())) (Br (decide (IntKind.i64.wrap ((IntKind.u64.wrap o).tmod (12 : Int)) = (↑(2 : Nat) : Int))) (True ∧ ((2 : Int) ≤ (4 : Int) ∧ (4 : Int) ≤ (65536 : Int) ∧ (1 : Int) ≤ Pl.K (4 : Int)) ∧ (D.rptr (fieldC (4 : Int)), Pl.newR (4 : Int), ()) = C19.post (o, most, ())) (Br (decide (IntKind.i64.wrap ((IntKind.u64.wrap o).tmod (12 : Int)) = (↑(3 : Nat) : Int))) (True ∧ ((2 : Int) ≤ (5 : Int) ∧ (5 : Int) ≤ (65536 : Int) ∧ (1 : Int) ≤ Pl.K (5 : Int)) ∧ (D.rptr (fieldC (5 : Int)), Pl.newR (5 : Int), ()) = C19.post (o, most, ())) (Br (decide (IntKind.i64.wrap ((IntKind.u64.wrap o).tmod (12 : Int)) = (↑(4 : Nat) : Int))) (True ∧ ((2 : Int) ≤ (7 : Int) ∧ (7 : Int) ≤ (65536 : Int) ∧ (1 : Int) ≤ Pl.K (7 : Int)) ∧ (D.rptr (fieldC (7 : Int)), Pl.newR (7 : Int), ()) = C19.post (o, most, ())) (Br (decide (IntKind.i64.wrap ((IntKind.u64.wrap o).tmod (12 : Int)) = (↑(5 : Nat) : Int))) (True ∧ ((2 : Int) ≤ (8 : Int) ∧ (8 : Int) ≤ (65536 : Int) ∧ (1 : Int) ≤ Pl.K (8 : Int)) ∧ (D.rptr (fieldC (8 : Int)), Pl.newR (8 : Int), ()) = C19.post (o, most, ())) (Br (decide (IntKind.i64.wrap ((IntKind.u64.wrap o).tmod (12 : Int)) = (↑(6 : Nat) : Int))) (True ∧ ((2 : Int) ≤ (9 : Int) ∧ (9 : Int) ≤ (65536 : Int) ∧ (1 : Int) ≤ Pl.K (9 : Int)) ∧ (D.rptr (fieldC (9 : Int)), Pl.newR (9 : Int), ()) = C19.post (o, most, ())) (Br (decide (IntKind.i64.wrap ((IntKind.u64.wrap o).tmod (12 : Int)) = (↑(7 : Nat) : Int))) (True ∧ ((2 : Int) ≤ (11 : Int) ∧ (11 : Int) ≤ (65536 : Int) ∧ (1 : Int) ≤ Pl.K (11 : Int)) ∧ (D.rptr (fieldC (11 : Int)), Pl.newR (11 : Int), ()) = C19.post (o, most, ())) (Br (decide (IntKind.i64.wrap ((IntKind.u64.wrap o).tmod (12 : Int)) = (↑(8 : Nat) : Int))) (True ∧ ((2 : Int) ≤ (13 : Int) ∧ (13 : Int) ≤ (65536 : Int) ∧ (1 : Int) ≤ Pl.K (13 : Int)) ∧ (D.rptr (fieldC (13 : Int)), Pl.newR (13 : Int), ()) = C19.post (o, most, ())) (Br (decide (IntKind.i64.wrap ((IntKind.u64.wrap o).tmod (12 : Int)) = (↑(9 : Nat) : Int))) (True ∧ ((2 : Int) ≤ (16 : Int) ∧ (16 : Int) ≤ (65536 : Int) ∧ (1 : Int) ≤ Pl.K (16 : Int)) ∧ (D.rptr (fieldC (16 : Int)), Pl.newR (16 : Int), ()) = C19.post (o, most, ())) (Br (decide (IntKind.i64.wrap ((IntKind.u64.wrap o).tmod (12 : Int)) = (↑(10 : Nat) : Int))) (True ∧ ((2 : Int) ≤ (25 : Int) ∧ (25 : Int) ≤ (65536 : Int) ∧ (1 : Int) ≤ Pl.K (25 : Int)) ∧ (D.rptr (fieldC (25 : Int)), Pl.newR (25 : Int), ()) = C19.post (o, most, ())) (Br (decide (IntKind.i64.wrap ((IntKind.u64.wrap o).tmod (12 : Int)) = (↑(11 : Nat) : Int))) (True ∧ ((2 : Int) ≤ (27 : Int) ∧ (27 : Int) ≤ (65536 : Int) ∧ (1 : Int) ≤ Pl.K (27 : Int)) ∧ (D.rptr (fieldC (27 : Int)), Pl.newR (27 : Int), ()) = C19.post (o, most, ())) False)))))))))))) (((2 : Int) ≤ o ∧ o ≤ (65536 : Int) ∧ (1 : Int) ≤ Pl.K o) ∧ (D.rptr (fieldC o), Pl.newR o, ()) = C19.post (o, most, ())))) (by kernel_rfl) ?_
 obtain ⟨i0, i1⟩ := idx12 o
 refine ⟨trivial, Br_of (fun h => ?_) (fun h => Br_of (fun h2 => ?_) (fun h2 => ?_))⟩
 ·have hb : ((!Pl.okQ o) || decide (o > most)) = true := by rw [h]; rfl
  refine ⟨by omega, ?_⟩
  refine Br_of (fun e => ⟨trivial, isQ_b (by kernel_rfl), sm_post hb (v := 2) (of_decide_eq_true e) rfl (by kernel_rfl)⟩) (fun e0 => ?_)
  refine Br_of (fun e => ⟨trivial, isQ_b (by kernel_rfl), sm_post hb (v := 3) (of_decide_eq_true e) rfl (by kernel_rfl)⟩) (fun e1 => ?_)
  refine Br_of (fun e => ⟨trivial, isQ_b (by kernel_rfl), sm_post hb (v := 4) (of_decide_eq_true e) rfl (by kernel_rfl)⟩) (fun e2 => ?_)
  refine Br_of (fun e => ⟨trivial, isQ_b (by kernel_rfl), sm_post hb (v := 5) (of_decide_eq_true e) rfl (by kernel_rfl)⟩) (fun e3 => ?_)
  refine Br_of (fun e => ⟨trivial, isQ_b (by kernel_rfl), sm_post hb (v := 7) (of_decide_eq_true e) rfl (by kernel_rfl)⟩) (fun e4 => ?_)
  refine Br_of (fun e => ⟨trivial, isQ_b (by kernel_rfl), sm_post hb (v := 8) (of_decide_eq_true e) rfl (by kernel_rfl)⟩) (fun e5 => ?_)
  refine Br_of (fun e => ⟨trivial, isQ_b (by kernel_rfl), sm_post hb (v := 9) (of_decide_eq_true e) rfl (by kernel_rfl)⟩) (fun e6 => ?_)
  refine Br_of (fun e => ⟨trivial, isQ_b (by kernel_rfl), sm_post hb (v := 11) (of_decide_eq_true e) rfl (by kernel_rfl)⟩) (fun e7 => ?_)
  refine Br_of (fun e => ⟨trivial, isQ_b (by kernel_rfl), sm_post hb (v := 13) (of_decide_eq_true e) rfl (by kernel_rfl)⟩) (fun e8 => ?_)
  refine Br_of (fun e => ⟨trivial, isQ_b (by kernel_rfl), sm_post hb (v := 16) (of_decide_eq_true e) rfl (by kernel_rfl)⟩) (fun e9 => ?_)
  refine Br_of (fun e => ⟨trivial, isQ_b (by kernel_rfl), sm_post hb (v := 25) (of_decide_eq_true e) rfl (by kernel_rfl)⟩) (fun e10 => ?_)
  refine Br_of (fun e => ⟨trivial, isQ_b (by kernel_rfl), sm_post hb (v := 27) (of_decide_eq_true e) rfl (by kernel_rfl)⟩) (fun e11 => ?_)
  have e0 := of_decide_eq_false e0
  have e1 := of_decide_eq_false e1
  have e2 := of_decide_eq_false e2
  have e3 := of_decide_eq_false e3
  have e4 := of_decide_eq_false e4
  have e5 := of_decide_eq_false e5
  have e6 := of_decide_eq_false e6
  have e7 := of_decide_eq_false e7
  have e8 := of_decide_eq_false e8
  have e9 := of_decide_eq_false e9
  have e10 := of_decide_eq_false e10
  have e11 := of_decide_eq_false e11
  omega
 ·have hb : ((!Pl.okQ o) || decide (o > most)) = true := by rw [h2]; simp
  refine ⟨by omega, ?_⟩
  refine Br_of (fun e => ⟨trivial, isQ_b (by kernel_rfl), sm_post hb (v := 2) (of_decide_eq_true e) rfl (by kernel_rfl)⟩) (fun e0 => ?_)
  refine Br_of (fun e => ⟨trivial, isQ_b (by kernel_rfl), sm_post hb (v := 3) (of_decide_eq_true e) rfl (by kernel_rfl)⟩) (fun e1 => ?_)
  refine Br_of (fun e => ⟨trivial, isQ_b (by kernel_rfl), sm_post hb (v := 4) (of_decide_eq_true e) rfl (by kernel_rfl)⟩) (fun e2 => ?_)
  refine Br_of (fun e => ⟨trivial, isQ_b (by kernel_rfl), sm_post hb (v := 5) (of_decide_eq_true e) rfl (by kernel_rfl)⟩) (fun e3 => ?_)
  refine Br_of (fun e => ⟨trivial, isQ_b (by kernel_rfl), sm_post hb (v := 7) (of_decide_eq_true e) rfl (by kernel_rfl)⟩) (fun e4 => ?_)
  refine Br_of (fun e => ⟨trivial, isQ_b (by kernel_rfl), sm_post hb (v := 8) (of_decide_eq_true e) rfl (by kernel_rfl)⟩) (fun e5 => ?_)
  refine Br_of (fun e => ⟨trivial, isQ_b (by kernel_rfl), sm_post hb (v := 9) (of_decide_eq_true e) rfl (by kernel_rfl)⟩) (fun e6 => ?_)
  refine Br_of (fun e => ⟨trivial, isQ_b (by kernel_rfl), sm_post hb (v := 11) (of_decide_eq_true e) rfl (by kernel_rfl)⟩) (fun e7 => ?_)
  refine Br_of (fun e => ⟨trivial, isQ_b (by kernel_rfl), sm_post hb (v := 13) (of_decide_eq_true e) rfl (by kernel_rfl)⟩) (fun e8 => ?_)
  refine Br_of (fun e => ⟨trivial, isQ_b (by kernel_rfl), sm_post hb (v := 16) (of_decide_eq_true e) rfl (by kernel_rfl)⟩) (fun e9 => ?_)
  refine Br_of (fun e => ⟨trivial, isQ_b (by kernel_rfl), sm_post hb (v := 25) (of_decide_eq_true e) rfl (by kernel_rfl)⟩) (fun e10 => ?_)
  refine Br_of (fun e => ⟨trivial, isQ_b (by kernel_rfl), sm_post hb (v := 27) (of_decide_eq_true e) rfl (by kernel_rfl)⟩) (fun e11 => ?_)
  have e0 := of_decide_eq_false e0
  have e1 := of_decide_eq_false e1
  have e2 := of_decide_eq_false e2
  have e3 := of_decide_eq_false e3
  have e4 := of_decide_eq_false e4
  have e5 := of_decide_eq_false e5
  have e6 := of_decide_eq_false e6
  have e7 := of_decide_eq_false e7
  have e8 := of_decide_eq_false e8
  have e9 := of_decide_eq_false e9
  have e10 := of_decide_eq_false e10
  have e11 := of_decide_eq_false e11
  omega
 ·have h1 : Pl.okQ o = true := by simpa using h
  refine ⟨isQ_b h1, ?_⟩
  show _ = (fieldD (Pl.someQ o most), RF (Pl.someQ o most), ())
  rw [someQ_self h1 (of_decide_eq_false h2), newR_ok h1]; rfl
theorem nr_RF (q : Int) : (Ar.enc G4 (RF q)).nr := by exact ⟨trivial, trivial, trivial, trivial, trivial⟩
theorem nrc19 : NRC C19 := ⟨fun x hx => ⟨trivial, trivial, trivial⟩, fun x hx => ⟨nr_field (someQ_isQ _ _), nr_RF _, trivial⟩⟩
theorem snd19 : Sound Try.prog 19 C19 := fn_sound (T := T19) (fn := Try.f19) (tok0 ⟨snd79, snd78q, trivial⟩) Try.func19 (by kernel_rfl) H0 vc19 (by kernel_rfl) (hC := nrc19)

theorem aw1 : Pl.md 8 = [1, 1, 0, 1] := by kernel_rfl
theorem aw2 : Pl.gen 8 = 2 := by kernel_rfl
theorem aw3 : Pl.mul 8 2 4 = 3 := by kernel_rfl
theorem aw4 : Pl.trace 8 1 = 1 := by kernel_rfl
theorem aw5 : Pl.deny 5 [[1, 2], [2, 4]] [1, 3] = ([3, 1], true) := by kernel_rfl
theorem ok8 : isQ 8 := isQ_b (by kernel_rfl)
theorem ok5 : isQ 5 := isQ_b (by kernel_rfl)
theorem vc24 : ∀ x, C24.pre x → VC T24 H0 Try.f24 C24 x := by
 rintro ⟨⟩ -
 refine cast (α := ((2 : Int) ≤ (8 : Int) ∧ (8 : Int) ≤ (65536 : Int) ∧ (1 : Int) ≤ Pl.K (8 : Int)) ∧ Br ((0 : I.El) != (0 : Int)) ((false, ()) = C24.post ()) (Pl.okF (D.rptr (fieldC (8 : Int))) ∧ ((2 : Int) ≤ (5 : Int) ∧ (5 : Int) ≤ (65536 : Int) ∧ (1 : Int) ≤ Pl.K (5 : Int)) ∧ (Pl.okSy (D.rptr (fieldC (5 : Int)), [[(1 : Int), (2 : Int)], [(2 : Int), (4 : Int)]], [(1 : Int), (3 : Int)], ()) ∧ True) ∧ Br ((↑(Pl.md (Pl.qF (D.rptr (fieldC (8 : Int))))).length : Int) == (4 : Int)) ((0 : Int) ≤ (2 : Int) ∧ (2 : Int) < (↑(Pl.md (Pl.qF (D.rptr (fieldC (8 : Int))))).length : Int) ∧ Br (rd i64 (Pl.md (Pl.qF (D.rptr (fieldC (8 : Int))))) (2 : Int) == (0 : Int)) (Pl.okF (D.rptr (fieldC (8 : Int))) ∧ Br (Pl.gen (Pl.qF (D.rptr (fieldC (8 : Int)))) == (2 : Int)) (Pl.okF (D.rptr (fieldC (8 : Int))) ∧ Br (Pl.mul (Pl.qF (D.rptr (fieldC (8 : Int)))) ((2 : Int) % Pl.qF (D.rptr (fieldC (8 : Int)))) ((4 : Int) % Pl.qF (D.rptr (fieldC (8 : Int)))) == (3 : Int)) (Pl.okF (D.rptr (fieldC (8 : Int))) ∧ Br (Pl.trace (Pl.qF (D.rptr (fieldC (8 : Int)))) ((1 : Int) % Pl.qF (D.rptr (fieldC (8 : Int)))) == (1 : Int)) (Br (Pl.deny (Pl.qF (D.rptr (fieldC (5 : Int)))) [[(1 : Int), (2 : Int)], [(2 : Int), (4 : Int)]] [(1 : Int), (3 : Int)]).2 (((↑(Pl.deny (Pl.qF (D.rptr (fieldC (5 : Int)))) [[(1 : Int), (2 : Int)], [(2 : Int), (4 : Int)]] [(1 : Int), (3 : Int)]).1.length : Int) == (2 : Int), ()) = C24.post ()) ((false, ()) = C24.post ())) ((false, ()) = C24.post ())) ((false, ()) = C24.post ())) ((false, ()) = C24.post ())) ((false, ()) = C24.post ())) ((false, ()) = C24.post ()))) (by kernel_rfl) ?_
 rw [qF_f, qF_f, aw1, aw2, aw5, show (2 : Int) % 8 = 2 by decide, show (4 : Int) % 8 = 4 by decide, show (1 : Int) % 8 = 1 by decide, aw3, aw4]
 refine ⟨ok8, okF_f ok8, ok5, ⟨⟨okF_f ok5, ?_, ?_⟩, trivial⟩, ?_⟩
 ·refine ⟨by decide, fun r hr => ?_⟩
  simp at hr
  rcases hr with rfl | rfl <;> decide
 ·decide
 ·exact ⟨by decide, by decide, okF_f ok8, okF_f ok8, okF_f ok8, rfl⟩
theorem snd24 : Sound Try.prog 24 C24 := fn_sound (T := T24) (fn := Try.f24) (tok0 ⟨snd78q, snd80, snd46, snd42, snd34, snd55, trivial⟩) Try.func24 (by kernel_rfl) H0 vc24 (by kernel_rfl)
end Fd
end
section
set_option linter.unusedVariables false
set_option linter.unusedSimpArgs false
set_option maxRecDepth 100000
namespace Fd
open Go Fw Go.Proofs

end Fd
end
section
set_option linter.unusedVariables false
set_option linter.unusedSimpArgs false
set_option maxRecDepth 100000
namespace Fd
open Go Fw Go.Proofs

end Fd
end
section
set_option linter.unusedVariables false
set_option linter.unusedSimpArgs false
set_option maxRecDepth 100000
namespace Fd
open Go Fw Go.Proofs

end Fd
end
section
set_option linter.unusedVariables false
set_option linter.unusedSimpArgs false
set_option maxRecDepth 100000
namespace Fd
open Go Fw Go.Proofs

end Fd
end
section
set_option linter.unusedVariables false
set_option linter.unusedSimpArgs false
set_option maxRecDepth 100000
namespace Fd
open Go Fw Go.Proofs

section
variable {q : Int} (hq : isQ q) {a b : List Int}
include hq
end
end Fd
end
section
set_option linter.unusedVariables false
set_option linter.unusedSimpArgs false
set_option linter.unusedSectionVars false
set_option maxRecDepth 100000
namespace Fd
open Go Fw Go.Proofs

section
variable {q : Int} (hq : isQ q)
include hq
end
end Fd
end
section
set_option linter.unusedVariables false
set_option linter.unusedSimpArgs false
set_option maxRecDepth 100000
namespace Fd
open Go Fw Go.Proofs

def C25 : Con := ⟨[L, I], [L], fun (x : List Int × Int × Unit) => 0 ≤ x.2.1 ∧ x.2.1 ≤ 1000, fun (x : List Int × Int × Unit) => (x.1.take x.2.1.toNat, ()), none⟩
def C102 : Con := ⟨[G4, I], [B], fun (x : R4 × Int × Unit) => Pl.okr x.1, fun (x : R4 × Int × Unit) => (decide (0 ≤ x.2.1) && decide (x.2.1 < x.1.1), ()), none⟩
def C47 : Con := ⟨[G4, L], [B], fun (x : R4 × List Int × Unit) => Pl.okr x.1 ∧ x.2.1.length ≤ 1000000000, fun (x : R4 × List Int × Unit) => (Pl.els x.1.1 x.2.1, ()), none⟩
def H47 : Hints := ⟨[], [(1, [2])], [(0, ⟨[1, 2], [(5, si)]⟩)], [], []⟩
def T47 : Ctx := TT [(102, C102)]
end Fd
end
section
set_option linter.unusedVariables false
set_option linter.unusedSimpArgs false
set_option maxRecDepth 100000
namespace Fd
open Go Fw Go.Proofs

theorem sub0 {α : Type} (l : List α) (n : Nat) : sub l (0 : Int) (n : Int) = l.take n := by unfold sub; simp
theorem vc25 : ∀ x, C25.pre x → VC (TT []) H0 Try.f25 C25 x := by
 rintro ⟨(l : List Int), (n : Int), ⟨⟩⟩ ⟨(n0 : 0 ≤ n), (n1 : n ≤ 1000)⟩
 refine cast (α := ((0 : Int) ≤ if n < (↑l.length : Int) then n else (↑l.length : Int)) ∧ (if n < (↑l.length : Int) then n else (↑l.length : Int)) ≤ (↑l.length : Int) ∧ (↑(sub l (0 : Int) (if n < (↑l.length : Int) then n else (↑l.length : Int))).length : Int) * (8 : Int) ≤ (140737488355328 : Int) ∧ (sub l (0 : Int) (if n < (↑l.length : Int) then n else (↑l.length : Int)), ()) = C25.post (l, n, ())) (by kernel_rfl) ?_
 have hp : C25.post (l, n, ()) = (l.take n.toNat, ()) := rfl
 rw [hp]
 by_cases h : n < (l.length : Int)
 ·rw [if_pos h]
  obtain ⟨k, rfl⟩ : ∃ k : Nat, n = k := ⟨n.toNat, by omega⟩
  rw [sub0, Int.toNat_natCast, List.length_take]
  exact ⟨by omega, by omega, by omega, rfl⟩
 ·rw [if_neg h, sub0, List.take_length]
  refine ⟨by omega, by omega, by omega, ?_⟩
  rw [List.take_of_length_le (by omega)]
theorem vc102 : ∀ x, C102.pre x → VC (TT []) H0 Try.f102 C102 x := by
 rintro ⟨⟨(q : Int), (p : Int), (k : Int), (m : Int), ⟨⟩⟩, (a : Int), ⟨⟩⟩ -
 refine cast (α := Br (decide (a ≥ (0 : Int))) ((decide (a < q), ()) = C102.post ((q, p, k, m, ()), a, ())) ((false, ()) = C102.post ((q, p, k, m, ()), a, ()))) (by kernel_rfl) ?_
 refine Br_of (fun h => ?_) (fun h => ?_)
 ·show _ = (decide (0 ≤ a) && decide (a < q), ())
  rw [decide_eq_true (of_decide_eq_true h)]; rfl
 ·show _ = (decide (0 ≤ a) && decide (a < q), ())
  rw [decide_eq_false (of_decide_eq_false h)]; rfl
theorem vc47 : ∀ x, C47.pre x → VC T47 H47 Try.f47 C47 x := by
 rintro ⟨⟨(q : Int), (p : Int), (k : Int), (m : Int), ⟨⟩⟩, (l : List Int), ⟨⟩⟩ ⟨(h0 : Pl.okr _), (hl : l.length ≤ 1000000000)⟩
 refine cast (α := ∃ (n : Nat), itl (fun (G : Int × PUnit → Prop) (x : Int × PUnit) => Br (decide (x.1 < (↑l.length : Int))) ((0 : Int) ≤ x.1 ∧ x.1 < (↑l.length : Int) ∧ Pl.okr (q, p, k, m, ()) ∧ Br (!(decide ((0 : Int) ≤ rd i64 l x.1) && decide (rd i64 l x.1 < q))) ((false, ()) = C47.post ((q, p, k, m, ()), l, ())) (G (IntKind.i64.wrap (x.1 + (1 : Int)), ()))) ((true, ()) = C47.post ((q, p, k, m, ()), l, ()))) n ((0 : Int), ())) (by kernel_rfl) ?_
 have hp : C47.post ((q, p, k, m, ()), l, ()) = (Pl.els q l, ()) := rfl
 rw [hp]
 refine itl_rule (fun s => ∃ i : Nat, s.1 = (i : Int) ∧ i ≤ l.length ∧ Pl.els q (l.drop i) = Pl.els q l) (fun s => ((l.length : Int) - s.1).toNat) ⟨0, rfl, Nat.zero_le _, rfl⟩ ?_
 rintro ⟨i0, ⟨⟩⟩ G ⟨i, e, hi, hf⟩ hG
 simp only at e hf hG ⊢
 subst e
 refine Br_of (fun h => ?_) (fun h => ?_)
 ·have h : i < l.length := by have := of_decide_eq_true h; omega
  rw [rd_i, wrap_i64 (by omega) (by omega)]
  unfold Pl.els at hf ⊢
  rw [drop_cons 0 h, List.all_cons] at hf
  refine ⟨by omega, by omega, h0, Br_of (fun h1 => ?_) (fun h1 => ?_)⟩
  ·have h1 : (decide (0 ≤ l.getD i 0) && decide (l.getD i 0 < q)) = false := by
    cases hb : decide (0 ≤ l.getD i 0) && decide (l.getD i 0 < q) with
    | false => rfl
    | true => rw [hb] at h1; cases h1
   rw [h1, Bool.false_and] at hf
   rw [← hf]
  ·have h1 : (decide (0 ≤ l.getD i 0) && decide (l.getD i 0 < q)) = true := by
    cases hb : decide (0 ≤ l.getD i 0) && decide (l.getD i 0 < q) with
    | true => rfl
    | false => rw [hb] at h1; cases h1
   rw [h1, Bool.true_and] at hf
   exact hG _ ⟨i + 1, rfl, by omega, hf⟩ (by simp only; omega)
 ·have h : i = l.length := by have := of_decide_eq_false h; omega
  subst h
  rw [List.drop_length] at hf
  rw [← hf]; rfl
theorem snd25 : Sound Try.prog 25 C25 := fn_sound (T := TT []) (fn := Try.f25) (tok0 trivial) Try.func25 (by kernel_rfl) H0 vc25 (by kernel_rfl)
theorem snd102 : Sound Try.prog 102 C102 := fn_sound (T := TT []) (fn := Try.f102) (tok0 trivial) Try.func102 (by kernel_rfl) H0 vc102 (by kernel_rfl)
theorem snd47 : Sound Try.prog 47 C47 := fn_sound (T := T47) (fn := Try.f47) (tok0 ⟨snd102, trivial⟩) Try.func47 (by kernel_rfl) H47 vc47 (by kernel_rfl)
end Fd
end
section
set_option linter.unusedVariables false
set_option linter.unusedSimpArgs false
set_option maxRecDepth 100000
namespace Fd
open Go Fw Go.Proofs

def Pl.chk (q : Int) (p : List Int) : Int := bif decide (p.length > 200) then 2 else bif (!Pl.els q p) || (decide (p.length > 0) && decide (p.getD (p.length - 1) 0 = 0)) then 1 else 0
def Pl.both (q : Int) (p r : List Int) : Int := bif decide (Pl.chk q p ≠ 0) then Pl.chk q p else Pl.chk q r
abbrev DL := D × List Int × Unit
abbrev DLL := D × List Int × List Int × Unit
def Pl.len9 (l : List Int) : Prop := l.length ≤ 1000000000
def C76 : Con := ⟨[G4, L], [I], fun (x : R4 × List Int × Unit) => Pl.okr x.1 ∧ Pl.len9 x.2.1, fun (x : R4 × List Int × Unit) => (Pl.chk x.1.1 x.2.1, ()), none⟩
def C77 : Con := ⟨[.raw, L], [I], fun (x : DL) => Pl.okF x.1 ∧ Pl.len9 x.2.1, fun (x : DL) => (Pl.chk (Pl.qF x.1) x.2.1, ()), none⟩
def C114 : Con := ⟨[.raw, L, L], [I], fun (x : DLL) => Pl.okF x.1 ∧ Pl.len9 x.2.1 ∧ Pl.len9 x.2.2.1, fun (x : DLL) => (Pl.both (Pl.qF x.1) x.2.1 x.2.2.1, ()), none⟩
def T76 : Ctx := TT [(47, C47)]
def H76 : Hints := ⟨[], [(1, [2])], [], [], []⟩
def T77 : Ctx := TT [(93, C93)]
def T114 : Ctx := TT [(77, C77)]
def T66 : Ctx := TT [(114, C114)]
def C65e : Con := ⟨[.raw, L, I], [I, I], fun (x : D × List Int × Int × Unit) => (Pl.okF x.1 ∧ Pl.len9 x.2.1) ∧ Pl.chk (Pl.qF x.1) x.2.1 ≠ 0, fun (x : D × List Int × Int × Unit) => (0, Pl.chk (Pl.qF x.1) x.2.1, ()), none⟩
def C66e : Con := ⟨[.raw, L, L], [L, I], fun (x : DLL) => (Pl.okF x.1 ∧ Pl.len9 x.2.1 ∧ Pl.len9 x.2.2.1) ∧ Pl.both (Pl.qF x.1) x.2.1 x.2.2.1 ≠ 0, fun (x : DLL) => ([], Pl.both (Pl.qF x.1) x.2.1 x.2.2.1, ()), none⟩
def C71e : Con := ⟨[.raw, L, L], [L, L, I], fun (x : DLL) => (Pl.okF x.1 ∧ Pl.len9 x.2.1 ∧ Pl.len9 x.2.2.1) ∧ Pl.both (Pl.qF x.1) x.2.1 x.2.2.1 ≠ 0, fun (x : DLL) => ([], [], Pl.both (Pl.qF x.1) x.2.1 x.2.2.1, ()), none⟩
def C73e : Con := ⟨[.raw, L], [L, I], fun (x : DL) => (Pl.okF x.1 ∧ Pl.len9 x.2.1) ∧ Pl.chk (Pl.qF x.1) x.2.1 ≠ 0, fun (x : DL) => ([], Pl.chk (Pl.qF x.1) x.2.1, ()), none⟩
def C74e : Con := ⟨[.raw, L], [B, I], fun (x : DL) => (Pl.okF x.1 ∧ Pl.len9 x.2.1) ∧ Pl.chk (Pl.qF x.1) x.2.1 ≠ 0, fun (x : DL) => (false, Pl.chk (Pl.qF x.1) x.2.1, ()), none⟩
def C15 : Con := ⟨[I, L], [B], fun _ => True, fun _ => (true, ()), none⟩
def T15 : Ctx := TT [(19, C19), (25, C25), (76, C76), (77, C77), (65, C65e), (66, C66e), (71, C71e), (67, C66e), (73, C73e), (74, C74e), (24, C24)]
end Fd
end
section
set_option linter.unusedVariables false
set_option linter.unusedSimpArgs false
set_option maxRecDepth 100000
namespace Fd
open Go Fw Go.Proofs

theorem chk_long {q : Int} {p : List Int} (h : p.length > 200) : Pl.chk q p = 2 := by unfold Pl.chk; rw [decide_eq_true h]; rfl
theorem chk_els {q : Int} {p : List Int} (h : ¬ p.length > 200) (h1 : Pl.els q p = false) : Pl.chk q p = 1 := by unfold Pl.chk; rw [decide_eq_false h, h1]; rfl
theorem chk_top {q : Int} {p : List Int} (h : ¬ p.length > 200) (h0 : 0 < p.length) (h1 : p.getD (p.length - 1) 0 = 0) : Pl.chk q p = 1 := by
 unfold Pl.chk; rw [decide_eq_false h, decide_eq_true (show p.length > 0 from h0), decide_eq_true h1, Bool.and_true, Bool.or_true]; rfl
theorem chk_ok {q : Int} {p : List Int} (h : ¬ p.length > 200) (h1 : Pl.els q p = true) (h2 : 0 < p.length → p.getD (p.length - 1) 0 ≠ 0) : Pl.chk q p = 0 := by
 unfold Pl.chk
 rw [decide_eq_false h, h1]
 by_cases h0 : 0 < p.length
 ·rw [decide_eq_false (h2 h0), Bool.and_false]; rfl
 ·rw [decide_eq_false h0]; rfl
theorem vc76 : ∀ x, C76.pre x → VC T76 H76 Try.f76 C76 x := by
 rintro ⟨⟨(q : Int), (p : Int), (k : Int), (m0 : Int), ⟨⟩⟩, (l : List Int), ⟨⟩⟩ ⟨(h0 : Pl.okr _), (hl : l.length ≤ 1000000000)⟩
 refine cast (α := Br (decide ((↑l.length : Int) > (200 : Int))) (((2 : Int), ()) = C76.post ((q, p, k, m0, ()), l, ())) ((Pl.okr (q, p, k, m0, ()) ∧ l.length ≤ (1000000000 : Nat)) ∧ Br (!Pl.els q l) (((1 : Int), ()) = C76.post ((q, p, k, m0, ()), l, ())) (Br (decide ((↑l.length : Int) > (0 : Int))) ((0 : Int) ≤ IntKind.i64.wrap ((↑l.length : Int) - (1 : Int)) ∧ IntKind.i64.wrap ((↑l.length : Int) - (1 : Int)) < (↑l.length : Int) ∧ Br (rd i64 l (IntKind.i64.wrap ((↑l.length : Int) - (1 : Int))) == (0 : Int)) (((1 : Int), ()) = C76.post ((q, p, k, m0, ()), l, ())) (((0 : Int), ()) = C76.post ((q, p, k, m0, ()), l, ()))) (((0 : Int), ()) = C76.post ((q, p, k, m0, ()), l, ()))))) (by kernel_rfl) ?_
 have hp : C76.post ((q, p, k, m0, ()), l, ()) = (Pl.chk q l, ()) := rfl
 rw [hp]
 refine Br_of (fun h => ?_) (fun h => ⟨⟨h0, hl⟩, Br_of (fun h1 => ?_) (fun h1 => Br_of (fun h2 => ?_) (fun h2 => ?_))⟩)
 ·rw [chk_long (by have := of_decide_eq_true h; omega)]
 all_goals have h : ¬ l.length > 200 := by have := of_decide_eq_false h; omega
 ·rw [chk_els h (by simpa using h1)]
 all_goals have h1 : Pl.els q l = true := by simpa using h1
 ·have h2 : 0 < l.length := by have := of_decide_eq_true h2; omega
  rw [wrap_i64 (by omega) (by omega), show (l.length : Int) - 1 = ((l.length - 1 : Nat) : Int) by omega, rd_i]
  refine ⟨by omega, by omega, Br_of (fun h3 => ?_) (fun h3 => ?_)⟩
  ·rw [chk_top h h2 (by simpa using h3)]
  ·rw [chk_ok h h1 (fun _ => by simpa using h3)]
 ·rw [chk_ok h h1 (fun h3 => absurd h3 (by have := of_decide_eq_false h2; omega))]
theorem snd76 : Sound Try.prog 76 C76 := fn_sound (T := T76) (fn := Try.f76) (tok0 ⟨snd47, trivial⟩) Try.func76 (by kernel_rfl) H76 vc76 (by kernel_rfl)
theorem nrcL {p : DL → Prop} {res : List Ar} {f : DL → Ars res} (h : ∀ x, p x → Pl.okF x.1) (hr : ∀ x, p x → D.nrs (encs res (f x))) : NRC ⟨[.raw, L], res, p, f, none⟩ := ⟨fun x hx => ⟨okF_nr (h x hx), rfl, trivial⟩, hr⟩
theorem nrcLL {p : DLL → Prop} {res : List Ar} {f : DLL → Ars res} (h : ∀ x, p x → Pl.okF x.1) (hr : ∀ x, p x → D.nrs (encs res (f x))) : NRC ⟨[.raw, L, L], res, p, f, none⟩ := ⟨fun x hx => ⟨okF_nr (h x hx), rfl, rfl, trivial⟩, hr⟩
theorem vc77 : ∀ x, C77.pre x → VC T77 H0 Try.f77 C77 x := by
 rintro ⟨v, (l : List Int), ⟨⟩⟩ ⟨⟨q, hq, (rfl : v = _)⟩, (hl : l.length ≤ 1000000000)⟩
 refine cast (α := Br (decide ((↑l.length : Int) > (200 : Int))) (((2 : Int), ()) = C77.post (fieldD q, l, ())) ((Pl.okF (D.rptr (fieldC q)) ∧ l.length ≤ (1000000000 : Nat)) ∧ Br (!Pl.els (Pl.qF (D.rptr (fieldC q))) l) (((1 : Int), ()) = C77.post (fieldD q, l, ())) (Br (decide ((↑l.length : Int) > (0 : Int))) ((0 : Int) ≤ IntKind.i64.wrap ((↑l.length : Int) - (1 : Int)) ∧ IntKind.i64.wrap ((↑l.length : Int) - (1 : Int)) < (↑l.length : Int) ∧ Br (rd i64 l (IntKind.i64.wrap ((↑l.length : Int) - (1 : Int))) == (0 : Int)) (((1 : Int), ()) = C77.post (fieldD q, l, ())) (((0 : Int), ()) = C77.post (fieldD q, l, ()))) (((0 : Int), ()) = C77.post (fieldD q, l, ()))))) (by kernel_rfl) ?_
 have hp : C77.post (fieldD q, l, ()) = (Pl.chk q l, ()) := rfl
 rw [hp, qF_f]
 refine Br_of (fun h => ?_) (fun h => ⟨⟨okF_f hq, hl⟩, Br_of (fun h1 => ?_) (fun h1 => Br_of (fun h2 => ?_) (fun h2 => ?_))⟩)
 ·rw [chk_long (by have := of_decide_eq_true h; omega)]
 all_goals have h : ¬ l.length > 200 := by have := of_decide_eq_false h; omega
 ·rw [chk_els h (by simpa using h1)]
 all_goals have h1 : Pl.els q l = true := by simpa using h1
 ·have h2 : 0 < l.length := by have := of_decide_eq_true h2; omega
  rw [wrap_i64 (by omega) (by omega), show (l.length : Int) - 1 = ((l.length - 1 : Nat) : Int) by omega, rd_i]
  refine ⟨by omega, by omega, Br_of (fun h3 => ?_) (fun h3 => ?_)⟩
  ·rw [chk_top h h2 (by simpa using h3)]
  ·rw [chk_ok h h1 (fun _ => by simpa using h3)]
 ·rw [chk_ok h h1 (fun h3 => absurd h3 (by have := of_decide_eq_false h2; omega))]
theorem snd77 : Sound Try.prog 77 C77 := fn_sound (T := T77) (fn := Try.f77) (tok0 ⟨snd93, trivial⟩) Try.func77 (by kernel_rfl) H0 vc77 (by kernel_rfl) (hC := nrcL (fun x h => h.1) fun x h => ⟨trivial, trivial⟩)
theorem vc114 : ∀ x, C114.pre x → VC T114 H0 Try.f114 C114 x := by
 rintro ⟨v, (l : List Int), (r : List Int), ⟨⟩⟩ ⟨⟨q, hq, (rfl : v = _)⟩, (hl : Pl.len9 l), (hr : Pl.len9 r)⟩
 refine cast (α := (Pl.okF (D.rptr (fieldC q)) ∧ Pl.len9 l) ∧ Br (Pl.chk (Pl.qF (D.rptr (fieldC q))) l != (0 : Int)) ((Pl.chk (Pl.qF (D.rptr (fieldC q))) l, ()) = C114.post (fieldD q, l, r, ())) ((Pl.okF (D.rptr (fieldC q)) ∧ Pl.len9 r) ∧ (Pl.chk (Pl.qF (D.rptr (fieldC q))) r, ()) = C114.post (fieldD q, l, r, ()))) (by kernel_rfl) ?_
 have hp : C114.post (fieldD q, l, r, ()) = (Pl.both q l r, ()) := rfl
 rw [hp, qF_f]
 refine ⟨⟨okF_f hq, hl⟩, Br_of (fun h => ?_) (fun h => ⟨⟨okF_f hq, hr⟩, ?_⟩)⟩
 ·have h : Pl.chk q l ≠ 0 := by simpa using h
  unfold Pl.both; rw [decide_eq_true h]; rfl
 ·have h : Pl.chk q l = 0 := by simpa using h
  unfold Pl.both; rw [decide_eq_false (not_not_intro h)]; rfl
theorem snd114 : Sound Try.prog 114 C114 := fn_sound (T := T114) (fn := Try.f114) (tok0 ⟨snd77, trivial⟩) Try.func114 (by kernel_rfl) H0 vc114 (by kernel_rfl) (hC := nrcLL (fun x h => h.1) fun x h => ⟨trivial, trivial⟩)
theorem vc65e : ∀ x, C65e.pre x → VC T114 H0 Try.f65 C65e x := by
 rintro ⟨v, (l : List Int), (x : Int), ⟨⟩⟩ ⟨⟨⟨q, hq, (rfl : v = _)⟩, (hl : Pl.len9 l)⟩, (hc : Pl.chk (Pl.qF (fieldD q)) l ≠ 0)⟩
 rw [qF_d] at hc
 refine cast (α := (Pl.okF (D.rptr (fieldC q)) ∧ Pl.len9 l) ∧ Br (Pl.chk (Pl.qF (D.rptr (fieldC q))) l != (0 : Int)) (((0 : Int), Pl.chk (Pl.qF (D.rptr (fieldC q))) l, ()) = C65e.post (fieldD q, l, x, ())) False) (by kernel_rfl) ?_
 have hp : C65e.post (fieldD q, l, x, ()) = (0, Pl.chk q l, ()) := rfl
 rw [hp, qF_f]
 exact ⟨⟨okF_f hq, hl⟩, Br_of (fun h => rfl) (fun h => absurd (by simpa using h) hc)⟩
theorem vc66e : ∀ x, C66e.pre x → VC T66 H0 Try.f66 C66e x := by
 rintro ⟨v, (l : List Int), (r : List Int), ⟨⟩⟩ ⟨⟨⟨q, hq, (rfl : v = _)⟩, (hl : Pl.len9 l), (hr : Pl.len9 r)⟩, (hc : Pl.both (Pl.qF (fieldD q)) l r ≠ 0)⟩
 rw [qF_d] at hc
 refine cast (α := (Pl.okF (D.rptr (fieldC q)) ∧ Pl.len9 l ∧ Pl.len9 r) ∧ Br (Pl.both (Pl.qF (D.rptr (fieldC q))) l r != (0 : Int)) (([], Pl.both (Pl.qF (D.rptr (fieldC q))) l r, ()) = C66e.post (fieldD q, l, r, ())) False) (by kernel_rfl) ?_
 have hp : C66e.post (fieldD q, l, r, ()) = ([], Pl.both q l r, ()) := rfl
 rw [hp, qF_f]
 exact ⟨⟨okF_f hq, hl, hr⟩, Br_of (fun h => rfl) (fun h => absurd (by simpa using h) hc)⟩
theorem vc67e : ∀ x, C66e.pre x → VC T66 H0 Try.f67 C66e x := by
 rintro ⟨v, (l : List Int), (r : List Int), ⟨⟩⟩ ⟨⟨⟨q, hq, (rfl : v = _)⟩, (hl : Pl.len9 l), (hr : Pl.len9 r)⟩, (hc : Pl.both (Pl.qF (fieldD q)) l r ≠ 0)⟩
 rw [qF_d] at hc
 refine cast (α := (Pl.okF (D.rptr (fieldC q)) ∧ Pl.len9 l ∧ Pl.len9 r) ∧ Br (Pl.both (Pl.qF (D.rptr (fieldC q))) l r != (0 : Int)) (([], Pl.both (Pl.qF (D.rptr (fieldC q))) l r, ()) = C66e.post (fieldD q, l, r, ())) False) (by kernel_rfl) ?_
 have hp : C66e.post (fieldD q, l, r, ()) = ([], Pl.both q l r, ()) := rfl
 rw [hp, qF_f]
 exact ⟨⟨okF_f hq, hl, hr⟩, Br_of (fun h => rfl) (fun h => absurd (by simpa using h) hc)⟩
theorem vc71e : ∀ x, C71e.pre x → VC T66 H0 Try.f71 C71e x := by
 rintro ⟨v, (l : List Int), (r : List Int), ⟨⟩⟩ ⟨⟨⟨q, hq, (rfl : v = _)⟩, (hl : Pl.len9 l), (hr : Pl.len9 r)⟩, (hc : Pl.both (Pl.qF (fieldD q)) l r ≠ 0)⟩
 rw [qF_d] at hc
 refine cast (α := (Pl.okF (D.rptr (fieldC q)) ∧ Pl.len9 l ∧ Pl.len9 r) ∧ Br (Pl.both (Pl.qF (D.rptr (fieldC q))) l r != (0 : Int)) (([], [], Pl.both (Pl.qF (D.rptr (fieldC q))) l r, ()) = C71e.post (fieldD q, l, r, ())) (Br ((↑r.length : Int) == (0 : Int)) (([], [], (6 : Int), ()) = C71e.post (fieldD q, l, r, ())) False)) (by kernel_rfl) ?_
 have hp : C71e.post (fieldD q, l, r, ()) = ([], [], Pl.both q l r, ()) := rfl
 rw [hp, qF_f]
 exact ⟨⟨okF_f hq, hl, hr⟩, Br_of (fun h => rfl) (fun h => absurd (by simpa using h) hc)⟩
theorem vc73e : ∀ x, C73e.pre x → VC T114 H0 Try.f73 C73e x := by
 rintro ⟨v, (l : List Int), ⟨⟩⟩ ⟨⟨⟨q, hq, (rfl : v = _)⟩, (hl : Pl.len9 l)⟩, (hc : Pl.chk (Pl.qF (fieldD q)) l ≠ 0)⟩
 rw [qF_d] at hc
 refine cast (α := (Pl.okF (D.rptr (fieldC q)) ∧ Pl.len9 l) ∧ Br (Pl.chk (Pl.qF (D.rptr (fieldC q))) l != (0 : Int)) (([], Pl.chk (Pl.qF (D.rptr (fieldC q))) l, ()) = C73e.post (fieldD q, l, ())) (Br ((↑l.length : Int) == (0 : Int)) (([], (6 : Int), ()) = C73e.post (fieldD q, l, ())) False)) (by kernel_rfl) ?_
 have hp : C73e.post (fieldD q, l, ()) = ([], Pl.chk q l, ()) := rfl
 rw [hp, qF_f]
 exact ⟨⟨okF_f hq, hl⟩, Br_of (fun h => rfl) (fun h => absurd (by simpa using h) hc)⟩
theorem vc74e : ∀ x, C74e.pre x → VC T114 H0 Try.f74 C74e x := by
 rintro ⟨v, (l : List Int), ⟨⟩⟩ ⟨⟨⟨q, hq, (rfl : v = _)⟩, (hl : Pl.len9 l)⟩, (hc : Pl.chk (Pl.qF (fieldD q)) l ≠ 0)⟩
 rw [qF_d] at hc
 refine cast (α := (Pl.okF (D.rptr (fieldC q)) ∧ Pl.len9 l) ∧ Br (Pl.chk (Pl.qF (D.rptr (fieldC q))) l != (0 : Int)) ((false, Pl.chk (Pl.qF (D.rptr (fieldC q))) l, ()) = C74e.post (fieldD q, l, ())) (Br (decide (IntKind.i64.wrap ((↑l.length : Int) - (1 : Int)) < (2 : Int))) ((IntKind.i64.wrap ((↑l.length : Int) - (1 : Int)) == (1 : Int), (0 : Int), ()) = C74e.post (fieldD q, l, ())) False)) (by kernel_rfl) ?_
 have hp : C74e.post (fieldD q, l, ()) = (false, Pl.chk q l, ()) := rfl
 rw [hp, qF_f]
 exact ⟨⟨okF_f hq, hl⟩, Br_of (fun h => rfl) (fun h => absurd (by simpa using h) hc)⟩
theorem snd65e : Sound Try.prog 65 C65e := fn_sound (T := T114) (fn := Try.f65) (tok0 ⟨snd77, trivial⟩) Try.func65 (by kernel_rfl) H0 vc65e (by kernel_rfl) (hC := ⟨fun x hx => ⟨okF_nr hx.1.1, rfl, trivial, trivial⟩, fun x hx => ⟨trivial, trivial, trivial⟩⟩)
theorem snd66e : Sound Try.prog 66 C66e := fn_sound (T := T66) (fn := Try.f66) (tok0 ⟨snd114, trivial⟩) Try.func66 (by kernel_rfl) H0 vc66e (by kernel_rfl) (hC := nrcLL (fun x h => h.1.1) fun x h => ⟨rfl, trivial, trivial⟩)
theorem snd67e : Sound Try.prog 67 C66e := fn_sound (T := T66) (fn := Try.f67) (tok0 ⟨snd114, trivial⟩) Try.func67 (by kernel_rfl) H0 vc67e (by kernel_rfl) (hC := nrcLL (fun x h => h.1.1) fun x h => ⟨rfl, trivial, trivial⟩)
theorem snd71e : Sound Try.prog 71 C71e := fn_sound (T := T66) (fn := Try.f71) (tok0 ⟨snd114, trivial⟩) Try.func71 (by kernel_rfl) H0 vc71e (by kernel_rfl) (hC := nrcLL (fun x h => h.1.1) fun x h => ⟨rfl, rfl, trivial, trivial⟩)
theorem snd73e : Sound Try.prog 73 C73e := fn_sound (T := T114) (fn := Try.f73) (tok0 ⟨snd77, trivial⟩) Try.func73 (by kernel_rfl) H0 vc73e (by kernel_rfl) (hC := nrcL (fun x h => h.1.1) fun x h => ⟨rfl, trivial, trivial⟩)
theorem snd74e : Sound Try.prog 74 C74e := fn_sound (T := T114) (fn := Try.f74) (tok0 ⟨snd77, trivial⟩) Try.func74 (by kernel_rfl) H0 vc74e (by kernel_rfl) (hC := nrcL (fun x h => h.1.1) fun x h => ⟨trivial, trivial, trivial⟩)
theorem chk_nil (q : Int) : Pl.chk q [] = 0 := rfl
theorem chk_one {q : Int} (hq : isQ q) : Pl.chk q [1] = 0 := chk_ok (by decide) (by
 have := hq.1
 unfold Pl.els
 rw [List.all_cons, decide_eq_true (show (0 : Int) ≤ 1 by omega), decide_eq_true (show (1 : Int) < q by omega)]; rfl) (fun _ => by decide)
theorem Br_self {a : Int} {p r : Prop} (h : p) : Br (a == a) p r := Br_of (fun _ => h) (fun e => by simp at e)
theorem vc15 : ∀ x, C15.pre x → VC T15 H0 Try.f15 C15 x := by
 rintro ⟨(o : Int), (l : List Int), ⟨⟩⟩ -
 refine cast (α := True ∧ ((0 : Int) ≤ (202 : Int) ∧ (202 : Int) ≤ (1000 : Int)) ∧ (Pl.okr (Pl.someQ o (300 : Int), Pl.lpf (Pl.someQ o (300 : Int)), Pl.K (Pl.someQ o (300 : Int)), Pl.Mod (Pl.someQ o (300 : Int)), ()) ∧ Pl.len9 (List.take (Int.toNat (202 : Int)) l)) ∧ (Pl.okF (D.rptr (fieldC (Pl.someQ o (300 : Int)))) ∧ Pl.len9 (List.take (Int.toNat (202 : Int)) l)) ∧ Br (Pl.chk (Pl.qF (D.rptr (fieldC (Pl.someQ o (300 : Int))))) (List.take (Int.toNat (202 : Int)) l) != Pl.chk (Pl.someQ o (300 : Int)) (List.take (Int.toNat (202 : Int)) l)) ((false, ()) = C15.post (o, l, ())) (Br (Pl.chk (Pl.someQ o (300 : Int)) (List.take (Int.toNat (202 : Int)) l) == (0 : Int)) (True ∧ (true, ()) = C15.post (o, l, ())) (((Pl.okF (D.rptr (fieldC (Pl.someQ o (300 : Int)))) ∧ Pl.len9 (List.take (Int.toNat (202 : Int)) l)) ∧ Pl.chk (Pl.qF (D.rptr (fieldC (Pl.someQ o (300 : Int))))) (List.take (Int.toNat (202 : Int)) l) ≠ (0 : Int)) ∧ ((Pl.okF (D.rptr (fieldC (Pl.someQ o (300 : Int)))) ∧ Pl.len9 [(1 : Int)] ∧ Pl.len9 (List.take (Int.toNat (202 : Int)) l)) ∧ Pl.both (Pl.qF (D.rptr (fieldC (Pl.someQ o (300 : Int))))) [(1 : Int)] (List.take (Int.toNat (202 : Int)) l) ≠ (0 : Int)) ∧ ((Pl.okF (D.rptr (fieldC (Pl.someQ o (300 : Int)))) ∧ Pl.len9 (List.take (Int.toNat (202 : Int)) l) ∧ Pl.len9 []) ∧ Pl.both (Pl.qF (D.rptr (fieldC (Pl.someQ o (300 : Int))))) (List.take (Int.toNat (202 : Int)) l) [] ≠ (0 : Int)) ∧ ((Pl.okF (D.rptr (fieldC (Pl.someQ o (300 : Int)))) ∧ Pl.len9 [] ∧ Pl.len9 (List.take (Int.toNat (202 : Int)) l)) ∧ Pl.both (Pl.qF (D.rptr (fieldC (Pl.someQ o (300 : Int))))) [] (List.take (Int.toNat (202 : Int)) l) ≠ (0 : Int)) ∧ ((Pl.okF (D.rptr (fieldC (Pl.someQ o (300 : Int)))) ∧ Pl.len9 (List.take (Int.toNat (202 : Int)) l)) ∧ Pl.chk (Pl.qF (D.rptr (fieldC (Pl.someQ o (300 : Int))))) (List.take (Int.toNat (202 : Int)) l) ≠ (0 : Int)) ∧ ((Pl.okF (D.rptr (fieldC (Pl.someQ o (300 : Int)))) ∧ Pl.len9 (List.take (Int.toNat (202 : Int)) l)) ∧ Pl.chk (Pl.qF (D.rptr (fieldC (Pl.someQ o (300 : Int))))) (List.take (Int.toNat (202 : Int)) l) ≠ (0 : Int)) ∧ Br (Pl.chk (Pl.qF (D.rptr (fieldC (Pl.someQ o (300 : Int))))) (List.take (Int.toNat (202 : Int)) l) == Pl.chk (Pl.someQ o (300 : Int)) (List.take (Int.toNat (202 : Int)) l)) (Br (Pl.both (Pl.qF (D.rptr (fieldC (Pl.someQ o (300 : Int))))) [(1 : Int)] (List.take (Int.toNat (202 : Int)) l) == Pl.chk (Pl.someQ o (300 : Int)) (List.take (Int.toNat (202 : Int)) l)) (Br (Pl.both (Pl.qF (D.rptr (fieldC (Pl.someQ o (300 : Int))))) (List.take (Int.toNat (202 : Int)) l) [] == Pl.chk (Pl.someQ o (300 : Int)) (List.take (Int.toNat (202 : Int)) l)) (Br (Pl.both (Pl.qF (D.rptr (fieldC (Pl.someQ o (300 : Int))))) [] (List.take (Int.toNat (202 : Int)) l) == Pl.chk (Pl.someQ o (300 : Int)) (List.take (Int.toNat (202 : Int)) l)) (Br (Pl.chk (Pl.qF (D.rptr (fieldC (Pl.someQ o (300 : Int))))) (List.take (Int.toNat (202 : Int)) l) == Pl.chk (Pl.someQ o (300 : Int)) (List.take (Int.toNat (202 : Int)) l)) (Br (Pl.chk (Pl.qF (D.rptr (fieldC (Pl.someQ o (300 : Int))))) (List.take (Int.toNat (202 : Int)) l) == Pl.chk (Pl.someQ o (300 : Int)) (List.take (Int.toNat (202 : Int)) l)) (True ∧ (true, ()) = C15.post (o, l, ())) ((false, ()) = C15.post (o, l, ()))) ((false, ()) = C15.post (o, l, ()))) ((false, ()) = C15.post (o, l, ()))) ((false, ()) = C15.post (o, l, ()))) ((false, ()) = C15.post (o, l, ()))) ((false, ()) = C15.post (o, l, ()))))) (by kernel_rfl) ?_
 have hq := someQ_isQ o 300
 generalize Pl.someQ o 300 = q at *
 rw [qF_f]
 have hr : Pl.okr (q, Pl.lpf q, Pl.K q, Pl.Mod q, ()) := okr_RF hq
 have oF := okF_f hq
 have hl : Pl.len9 (List.take (Int.toNat 202) l) := by unfold Pl.len9; rw [List.length_take]; have : Int.toNat 202 = 202 := rfl; omega
 generalize List.take (Int.toNat 202) l = p at *
 have hp : C15.post (o, l, ()) = (true, ()) := rfl
 rw [hp]
 have b1 : Pl.both q [1] p = Pl.chk q p := by unfold Pl.both; rw [chk_one hq]; rfl
 have b3 : Pl.both q [] p = Pl.chk q p := by unfold Pl.both; rw [chk_nil]; rfl
 have l1 : Pl.len9 [1] := by unfold Pl.len9; simp
 have l0 : Pl.len9 [] := by unfold Pl.len9; simp
 refine ⟨trivial, ⟨by omega, by omega⟩, ⟨hr, hl⟩, ⟨oF, hl⟩, Br_of (fun h => absurd h (by simp)) (fun _ => Br_of (fun h => ⟨trivial, rfl⟩) (fun h => ?_))⟩
 have h : Pl.chk q p ≠ 0 := by simpa using h
 have b2 : Pl.both q p [] = Pl.chk q p := by unfold Pl.both; rw [decide_eq_true h]; rfl
 rw [b1, b2, b3]
 exact ⟨⟨⟨oF, hl⟩, h⟩, ⟨⟨oF, l1, hl⟩, h⟩, ⟨⟨oF, hl, l0⟩, h⟩, ⟨⟨oF, l0, hl⟩, h⟩, ⟨⟨oF, hl⟩, h⟩, ⟨⟨oF, hl⟩, h⟩, Br_self (Br_self (Br_self (Br_self (Br_self (Br_self ⟨trivial, rfl⟩)))))⟩
theorem snd15 : Sound Try.prog 15 C15 := fn_sound (T := T15) (fn := Try.f15) (tok0 ⟨snd19, snd25, snd76, snd77, snd65e, snd66e, snd71e, snd67e, snd73e, snd74e, snd24, trivial⟩) Try.func15 (by kernel_rfl) H0 vc15 (by kernel_rfl)
end Fd
end
section
namespace Go.Proofs.Ytfhlgbgclkahnaa
open Go.ChangeShapes Go.WideShapes Go.ChangeAt Go.RowKit
set_option linter.unusedVariables false
set_option maxRecDepth 100000

theorem laidTry : laidOutB Try.prog = true := by kernel_rfl
theorem cells3 : Try.prog.cellsOf 3 = 1 := by kernel_rfl
section
variable {H : Type} {enc : TypeId × Value → H} {W : World}
abbrev O0 : Fw.OO := ⟨fun _ => False, Fw.nn⟩
theorem srep_ints {b0 : Nat} {v : Value} {d : DataW H} {ps : List MemPlace} (hval : Value.okWide Try.prog W .any b0 30 v) (hd : DataW.Trod enc Try.prog W 0 (fun _ => true) true 30 v d ps) : ∃ l : List Int, Fw.SRep W O0 (.int .i64) l v := by
 obtain ⟨a0, len0, cap0, rfl⟩ := okWide_slice Try.underlying30 hval
 obtain ⟨fuel, hf⟩ := hd
 rcases open_ints Try.underlying30 Try.underlying3 cells3 hf with ⟨hcs, _⟩ | ⟨a, len, cap, zs, hcs, _, hl, _, hz, _, hcell, _⟩
 ·simp [Value.cells] at hcs
  obtain ⟨rfl, rfl, rfl⟩ := hcs
  exact ⟨[], none, 0, rfl, Nat.le_refl _, fun h => absurd h (Nat.lt_irrefl 0)⟩
 ·simp [Value.cells] at hcs
  obtain ⟨rfl, rfl, rfl⟩ := hcs
  simp only [if_true] at hz
  have hlen : (zs.take len0).length = len0 := by rw [List.length_take]; omega
  refine ⟨zs.take len0, some a, cap0, by rw [hlen], by rw [hlen]; exact hl, fun _ => ⟨a, rfl, fun j hj => ⟨fun h => h, ?_⟩⟩⟩
  have hj' : j < len0 := by rw [hlen] at hj; exact hj
  have h1 := hcell j (by omega)
  show W.cell? (a.add (j * 1)) = some (.int .i64 (zs.take len0)[j])
  rw [Nat.mul_one, h1, List.getElem_take, List.getD_eq_getElem?_getD, List.getElem?_eq_getElem (by omega)]; rfl
end
end Go.Proofs.Ytfhlgbgclkahnaa
end
