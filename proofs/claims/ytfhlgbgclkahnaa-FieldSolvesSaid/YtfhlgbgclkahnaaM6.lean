import Derived.WalkKit
import Derived.ProofKit
import Derived.OpenShut
import Derived.Below
import Derived.Deep.Matrix
import Derived.Test.YtfhlgbgclkahnaaRows
import Derived.Test.YtfhlgbgclkahnaaM5
section
set_option linter.unusedVariables false
set_option linter.unusedSimpArgs false
set_option linter.unusedSectionVars false
set_option maxRecDepth 100000
namespace Fd
open Go Fw Go.Proofs

section
variable {q : Int} (hq : isQ q)
instance (x : Int) : Decidable (Pl.inQ q x) := inferInstanceAs (Decidable (0 ≤ x ∧ x < q))
def mk0 (x : Int) : KQ hq := if h : Pl.inQ q x then ⟨x, h⟩ else 0
theorem mk0_val {x : Int} (h : Pl.inQ q x) : (mk0 hq x).1 = x := by unfold mk0; rw [dif_pos h]
def matW (m : List (List Int)) (b : List Int) : Nat → Nat → KQ hq := fun i j =>
 if j < Pl.wide m then mk0 hq ((m.getD i []).getD j 0) else if j = Pl.wide m then mk0 hq (b.getD i 0) else if j = Pl.wide m + 1 + i then 1 else 0
end
section
variable {q : Int} {hq : isQ q} {r1 r2 n w : Nat} {xs : XS} {os : OS}
def Rel (xs : XS) (os : OS) (r n w : Nat) (M : Nat → Nat → KQ hq) (o : Nat) : Prop := ∀ i, i < n → ∀ j, j < w → Pl.ent xs os r (i : Int) (j : Int) = (M i (o + j)).1
theorem ent_mset {x r : Nat} {row : List Int} (hm : mal xs x) (h0 : 0 < x) (t j : Int) : Pl.ent (mset xs x row) os r t j = if Pl.ri os r t = x then row.getD j.toNat 0 else Pl.ent xs os r t j := by
 unfold Pl.ent
 by_cases e : Pl.ri os r t = x
 ·rw [if_pos e, e, (mset_at hm h0).2]
 ·rw [if_neg e, (mset_other (Ne.symm e)).2]
theorem ri_iff {r : Nat} (nd : (mrow os r).Nodup) {t i : Nat} (ht : t < (mrow os r).length) (hi : i < (mrow os r).length) : Pl.ri os r t = Pl.ri os r i ↔ t = i := by
 constructor
 ·intro e
  false_or_by_contra
  rename_i hne
  exact ri_inj nd (by omega) (by omega) (by omega) (by omega) (show (t : Int) ≠ i by omega) e
 ·intro e; rw [e]
theorem ent_two (h : Pl.Rec q r1 r2 n w xs os) {i : Nat} (hi : i < n) (A B : List Int) {t : Nat} (ht : t < n) (j : Int) :
  Pl.ent (mset (mset xs (Pl.ri os r1 i) A) (Pl.ri os r2 i) B) os r1 t j = (if t = i then A.getD j.toNat 0 else Pl.ent xs os r1 t j) ∧
  Pl.ent (mset (mset xs (Pl.ri os r1 i) A) (Pl.ri os r2 i) B) os r2 t j = (if t = i then B.getD j.toNat 0 else Pl.ent xs os r2 t j) := by
 have M1 := ri_mem (os := os) (r := r1) (i := (i : Int)) (by omega) (by rw [h.l1]; omega)
 have M2 := ri_mem (os := os) (r := r2) (i := (i : Int)) (by omega) (by rw [h.l2]; omega)
 have T1 := ri_mem (os := os) (r := r1) (i := (t : Int)) (by omega) (by rw [h.l1]; omega)
 have T2 := ri_mem (os := os) (r := r2) (i := (t : Int)) (by omega) (by rw [h.l2]; omega)
 obtain ⟨a1, a2, _⟩ := h.g1 _ M1
 obtain ⟨b1, b2, _⟩ := h.g2 _ M2
 have c1 : mal (mset xs (Pl.ri os r1 i) A) (Pl.ri os r2 i) := (mset_other (Rec.dis h M1 M2)).1.2 b1
 have i1 := ri_iff (Rec.nd1 h) (t := t) (i := i) (by rw [h.l1]; exact ht) (by rw [h.l1]; exact hi)
 have i2 := ri_iff (Rec.nd2 h) (t := t) (i := i) (by rw [h.l2]; exact ht) (by rw [h.l2]; exact hi)
 constructor
 ·rw [ent_mset c1 b2, if_neg (Rec.dis h T1 M2), ent_mset a1 a2]
  by_cases e : t = i
  ·rw [if_pos e, if_pos (i1.2 e)]
  ·rw [if_neg e, if_neg (fun e' => e (i1.1 e'))]
 ·rw [ent_mset c1 b2]
  by_cases e : t = i
  ·rw [if_pos e, if_pos (i2.2 e)]
  ·rw [if_neg e, if_neg (fun e' => e (i2.1 e')), ent_mset a1 a2, if_neg (fun e => Rec.dis h M1 T2 e.symm)]
theorem scl_getD {c : Int} {l : List Int} {j : Nat} (h : j < l.length) : (Pl.scl q c l).getD j 0 = Pl.mul q c (l.getD j 0) := by
 unfold Pl.scl
 rw [List.getD_eq_getElem?_getD, List.getD_eq_getElem?_getD, List.getElem?_map, List.getElem?_eq_getElem h]; rfl
theorem tkl_getD {c : Int} {x y : List Int} {j : Nat} (h : j < x.length) (h' : j < y.length) : (Pl.tkl q c x y).getD j 0 = Pl.sub q (x.getD j 0) (Pl.mul q c (y.getD j 0)) := by
 unfold Pl.tkl
 rw [List.getD_eq_getElem?_getD, List.getD_eq_getElem?_getD, List.getD_eq_getElem?_getD, List.getElem?_zipWith, List.getElem?_eq_getElem h, List.getElem?_eq_getElem h']; rfl
theorem Rec_row (h : Pl.Rec q r1 r2 n w xs os) {i : Nat} (hi : i < n) : (mrow xs (Pl.ri os r1 i)).length = w ∧ (mrow xs (Pl.ri os r2 i)).length = n ∧ ∀ (A : List Int), mrow (mset xs (Pl.ri os r1 i) A) (Pl.ri os r2 i) = mrow xs (Pl.ri os r2 i) ∧ ∀ k, k < n → mrow (mset xs (Pl.ri os r1 i) A) (Pl.ri os r2 k) = mrow xs (Pl.ri os r2 k) := by
 have M1 := ri_mem (os := os) (r := r1) (i := (i : Int)) (by omega) (by rw [h.l1]; omega)
 have M2 := ri_mem (os := os) (r := r2) (i := (i : Int)) (by omega) (by rw [h.l2]; omega)
 refine ⟨(h.g1 _ M1).2.2.1, (h.g2 _ M2).2.2.1, fun A => ⟨(mset_other (Rec.dis h M1 M2)).2, fun k hk => ?_⟩⟩
 have M3 := ri_mem (os := os) (r := r2) (i := (k : Int)) (by omega) (by rw [h.l2]; omega)
 exact (mset_other (Rec.dis h M1 M3)).2
def Both (hq : isQ q) (xs : XS) (os : OS) (r1 r2 n w : Nat) (M : Nat → Nat → KQ hq) : Prop := Rel xs os r1 n w M 0 ∧ Rel xs os r2 n n M (w + 1)
theorem kf_pf {M : Nat → Nat → KQ hq} (hl : (mrow os r1).length = n) {c : Nat} (hc : c < w) (h : Rel xs os r1 n w M 0) : ∀ (f k : Nat), k ≤ n → n - k < f → Pl.kf xs os r1 c f k = (La.pf M n c (n - k) k : Int)
 | 0, k, _, h2 => by omega
 | f + 1, k, h1, h2 => by
  rw [Pl.kf]
  have hl' : Pl.len os r1 = n := hl
  rw [hl']
  by_cases e : k = n
  ·subst e
   rw [decide_eq_false (by omega), Nat.sub_self]; rfl
  ·obtain ⟨d, hd⟩ : ∃ d, n - k = d + 1 := ⟨n - k - 1, by omega⟩
   have hk : k < n := by omega
   rw [hd, La.pf, h k hk c hc, Nat.zero_add]
   by_cases e2 : M k c = 0
   ·rw [if_pos ⟨hk, e2⟩, decide_eq_true (show (k : Int) < n by omega), decide_eq_true (KQ.zero_iff.1 e2)]
    show Pl.kf xs os r1 c f ((k : Int) + 1) = _
    have := kf_pf hl hc h f (k + 1) (by omega) (by omega)
    rw [show n - (k + 1) = d by omega] at this
    exact this
   ·rw [if_neg (fun hh => e2 hh.2), decide_eq_false (fun hh => e2 (KQ.zero_iff.2 hh)), Bool.and_false]; rfl
theorem swp_getD {l : List Nat} {i k t : Nat} (hi : i < l.length) (hk : k < l.length) : (Pl.swp l i k).getD t 0 = if t = k then l.getD i 0 else if t = i then l.getD k 0 else l.getD t 0 := by
 unfold Pl.swp
 rw [Int.toNat_natCast, Int.toNat_natCast]
 simp only [List.getD_eq_getElem?_getD]
 rw [List.getElem?_set, List.length_set]
 by_cases e1 : k = t
 ·subst e1; simp [hk]
 ·rw [if_neg e1, if_neg (fun e : t = k => e1 e.symm), List.getElem?_set]
  by_cases e2 : i = t
  ·subst e2; simp [hi]
  ·rw [if_neg e2, if_neg (fun e : t = i => e2 e.symm)]
theorem ri_sw {r : Nat} (hm : mal os r) (h0 : 0 < r) {i k : Nat} (hi : i < (mrow os r).length) (hk : k < (mrow os r).length) (t : Nat) : Pl.ri (Pl.swO os r i k) r t = if t = k then Pl.ri os r i else if t = i then Pl.ri os r k else Pl.ri os r t := by
 unfold Pl.ri
 rw [(swO_at hm h0).2]
 simp only [Int.toNat_natCast]
 exact swp_getD hi hk
theorem both_sw {M : Nat → Nat → KQ hq} (h : Pl.Rec q r1 r2 n w xs os) (hb : Both hq xs os r1 r2 n w M) {i k : Nat} (hi : i < n) (hk : k < n) : Both hq xs (Pl.colO r1 r2 os i k) r1 r2 n w (La.sw M i k) := by
 have e1 : ∀ t : Nat, Pl.ri (Pl.colO r1 r2 os i k) r1 t = if t = k then Pl.ri os r1 i else if t = i then Pl.ri os r1 k else Pl.ri os r1 t := fun t => by
  have : Pl.ri (Pl.colO r1 r2 os i k) r1 t = Pl.ri (Pl.swO os r1 i k) r1 t := by
   unfold Pl.ri Pl.colO
   rw [(swO_other h.ne.symm).2]
  rw [this]
  exact ri_sw h.m1 h.p1 (by rw [h.l1]; exact hi) (by rw [h.l1]; exact hk) t
 have e2 : ∀ t : Nat, Pl.ri (Pl.colO r1 r2 os i k) r2 t = if t = k then Pl.ri os r2 i else if t = i then Pl.ri os r2 k else Pl.ri os r2 t := fun t => by
  have b := swO_other (os := os) (i := (i : Int)) (k := (k : Int)) h.ne
  unfold Pl.colO
  rw [ri_sw (b.1.2 h.m2) h.p2 (by rw [b.2, h.l2]; exact hi) (by rw [b.2, h.l2]; exact hk) t]
  unfold Pl.ri
  rw [b.2]
 have key : ∀ (r o v : Nat), (∀ t : Nat, Pl.ri (Pl.colO r1 r2 os i k) r t = if t = k then Pl.ri os r i else if t = i then Pl.ri os r k else Pl.ri os r t) → Rel xs os r n v M o → Rel xs (Pl.colO r1 r2 os i k) r n v (La.sw M i k) o := by
  intro r o v he hr t ht j hj
  unfold Pl.ent
  rw [he t]
  unfold La.sw
  by_cases e1 : t = k
  ·rw [if_pos e1]
   by_cases e2 : t = i
   ·rw [if_pos e2, ← e1, e2]; exact hr i hi j hj
   ·rw [if_neg e2, if_pos e1]; exact hr i hi j hj
  ·rw [if_neg e1]
   by_cases e2 : t = i
   ·rw [if_pos e2, if_pos e2]; exact hr k hk j hj
   ·rw [if_neg e2, if_neg e2, if_neg e1]; exact hr t ht j hj
 exact ⟨key r1 0 w e1 hb.1, key r2 (w + 1) n e2 hb.2⟩
theorem both_sc {M : Nat → Nat → KQ hq} (h : Pl.Rec q r1 r2 n w xs os) (hb : Both hq xs os r1 r2 n w M) {i : Nat} (hi : i < n) (c : KQ hq) : Both hq (Pl.scX q (Pl.scX q xs os r1 i c.1) os r2 i c.1) os r1 r2 n w (La.sc M i c) := by
 obtain ⟨l1, l2, l3⟩ := Rec_row h hi
 have hX : Pl.scX q (Pl.scX q xs os r1 i c.1) os r2 i c.1 = mset (mset xs (Pl.ri os r1 i) (Pl.scl q c.1 (mrow xs (Pl.ri os r1 i)))) (Pl.ri os r2 i) (Pl.scl q c.1 (mrow xs (Pl.ri os r2 i))) := by
  show mset _ _ (Pl.scl q c.1 (mrow (mset xs (Pl.ri os r1 i) (Pl.scl q c.1 (mrow xs (Pl.ri os r1 i)))) (Pl.ri os r2 i))) = _
  rw [(l3 _).1]; rfl
 rw [hX]
 constructor
 ·intro t ht j hj
  rw [(ent_two h hi _ _ ht _).1]
  unfold La.sc
  by_cases e : t = i
  ·rw [if_pos e, if_pos e, Int.toNat_natCast, scl_getD (by omega), KQ.mul_val, ← hb.1 i hi j hj]; rfl
  ·rw [if_neg e, if_neg e]; exact hb.1 t ht j hj
 ·intro t ht j hj
  rw [(ent_two h hi _ _ ht _).2]
  unfold La.sc
  by_cases e : t = i
  ·rw [if_pos e, if_pos e, Int.toNat_natCast, scl_getD (by omega), KQ.mul_val, ← hb.2 i hi j hj]; rfl
  ·rw [if_neg e, if_neg e]; exact hb.2 t ht j hj
theorem both_elim1 {M : Nat → Nat → KQ hq} (h : Pl.Rec q r1 r2 n w xs os) (hb : Both hq xs os r1 r2 n w M) {i a c : Nat} (hi : i < n) (ha : a < n) (hc : c < w) :
  Both hq (Pl.elim1 q r1 r2 os a c i xs) os r1 r2 n w (fun t j => if t = i ∧ t ≠ a then M t j - M t c * M a j else M t j) := by
 by_cases e1 : i = a
 ·rw [elim_no (.inl (by omega))]
  have : (fun t j => if t = i ∧ t ≠ a then M t j - M t c * M a j else M t j) = M := by
   funext t j; rw [if_neg (fun hh => hh.2 (by omega))]
  rw [this]; exact hb
 have hent : Pl.ent xs os r1 i c = (M i c).1 := by rw [hb.1 i hi c hc, Nat.zero_add]
 by_cases e2 : M i c = 0
 ·rw [elim_no (.inr (by rw [hent, e2]; rfl))]
  have : (fun t j => if t = i ∧ t ≠ a then M t j - M t c * M a j else M t j) = M := by
   funext t j
   by_cases e : t = i ∧ t ≠ a
   ·rw [if_pos e, e.1, e2]; grind
   ·rw [if_neg e]
  rw [this]; exact hb
 rw [elim_yes (by omega) (by rw [hent]; exact fun e => e2 (KQ.zero_iff.2 e)), hent]
 obtain ⟨l1, l2, l3⟩ := Rec_row h hi
 obtain ⟨k1, k2, k3⟩ := Rec_row h ha
 have hX : ∀ c', Pl.tkX q (Pl.tkX q xs os r1 i a c') os r2 i a c' = mset (mset xs (Pl.ri os r1 i) (Pl.tkl q c' (mrow xs (Pl.ri os r1 i)) (mrow xs (Pl.ri os r1 a)))) (Pl.ri os r2 i) (Pl.tkl q c' (mrow xs (Pl.ri os r2 i)) (mrow xs (Pl.ri os r2 a))) := fun c' => by
  show mset _ _ (Pl.tkl q c' (mrow (mset xs (Pl.ri os r1 i) (Pl.tkl q c' (mrow xs (Pl.ri os r1 i)) (mrow xs (Pl.ri os r1 a)))) (Pl.ri os r2 i)) (mrow (mset xs (Pl.ri os r1 i) (Pl.tkl q c' (mrow xs (Pl.ri os r1 i)) (mrow xs (Pl.ri os r1 a)))) (Pl.ri os r2 a))) = _
  rw [(l3 _).1, (l3 _).2 a ha]; rfl
 rw [hX]
 constructor
 ·intro t ht j hj
  rw [(ent_two h hi _ _ ht _).1]
  simp only
  by_cases e : t = i
  ·rw [if_pos e, if_pos ⟨e, by omega⟩, Int.toNat_natCast, tkl_getD (by omega) (by omega), KQ.sub_val, KQ.mul_val, e, ← hb.1 i hi j hj, ← hb.1 a ha j hj]; rfl
  ·rw [if_neg e, if_neg (fun hh => e hh.1)]; exact hb.1 t ht j hj
 ·intro t ht j hj
  rw [(ent_two h hi _ _ ht _).2]
  simp only
  by_cases e : t = i
  ·rw [if_pos e, if_pos ⟨e, by omega⟩, Int.toNat_natCast, tkl_getD (by omega) (by omega), KQ.sub_val, KQ.mul_val, e, ← hb.2 i hi j hj, ← hb.2 a ha j hj]; rfl
  ·rw [if_neg e, if_neg (fun hh => e hh.1)]; exact hb.2 t ht j hj
theorem both_elim {M : Nat → Nat → KQ hq} {a c : Nat} (ha : a < n) (hc : c < w) : ∀ (m : Nat) {xs : XS}, m ≤ n → Pl.Rec q r1 r2 n w xs os → Both hq xs os r1 r2 n w M →
  Both hq (Pl.elim q r1 r2 os a c m xs) os r1 r2 n w (fun t j => if t < m ∧ t ≠ a then M t j - M t c * M a j else M t j)
 | 0, xs, _, h, hb => by
  have : (fun t j => if t < 0 ∧ t ≠ a then M t j - M t c * M a j else M t j) = M := by funext t j; rw [if_neg (fun hh => by omega)]
  rw [this]; exact hb
 | m + 1, xs, hm, h, hb => by
  have ih := both_elim ha hc m (by omega) h hb
  have hR := Rec_elim hq (r1 := r1) (r2 := r2) (at_ := (a : Int)) (col := (c : Int)) (by omega) (by omega) (by omega) (by omega) m (by omega) h
  have := both_elim1 hR ih (i := m) (a := a) (c := c) (by omega) ha hc
  rw [Pl.elim]
  have e : (fun t j => if t = m ∧ t ≠ a then (fun t j => if t < m ∧ t ≠ a then M t j - M t c * M a j else M t j) t j - (fun t j => if t < m ∧ t ≠ a then M t j - M t c * M a j else M t j) t c * (fun t j => if t < m ∧ t ≠ a then M t j - M t c * M a j else M t j) a j else (fun t j => if t < m ∧ t ≠ a then M t j - M t c * M a j else M t j) t j) = fun t j => if t < m + 1 ∧ t ≠ a then M t j - M t c * M a j else M t j := by
   funext t j
   simp only
   by_cases e1 : t = m ∧ t ≠ a
   ·rw [if_pos e1, if_neg (fun hh => by omega), if_neg (fun hh => by omega), if_neg (fun hh => hh.2 rfl), if_pos ⟨by omega, e1.2⟩]
   ·rw [if_neg e1]
    by_cases e2 : t < m ∧ t ≠ a
    ·rw [if_pos e2, if_pos ⟨by omega, e2.2⟩]
    ·rw [if_neg e2, if_neg (fun hh => by
      rcases Nat.lt_or_ge t m with h3 | h3
      ·exact e2 ⟨h3, hh.2⟩
      ·exact e1 ⟨by omega, hh.2⟩)]
  rw [e] at this
  exact this
theorem both_congr {M N : Nat → Nat → KQ hq} (h : ∀ t, t < n → ∀ j, M t j = N t j) (hb : Both hq xs os r1 r2 n w M) : Both hq xs os r1 r2 n w N :=
 ⟨fun i hi j hj => by rw [← h i hi]; exact hb.1 i hi j hj, fun i hi j hj => by rw [← h i hi]; exact hb.2 i hi j hj⟩
def icast (l : List Nat) : List Int := l.map fun (x : Nat) => (x : Int)
theorem icast_len (l : List Nat) : (icast l).length = l.length := List.length_map _
theorem both_col {M : Nat → Nat → KQ hq} (h : Pl.Rec q r1 r2 n w xs os) (hb : Both hq xs os r1 r2 n w M) {cs : List Nat} {c : Nat} (hc : c < w) (hE : La.Ech n c M cs) :
  (Pl.col q r1 r2 (xs, os) (icast cs) c).2 = icast (La.step n (M, cs) c).2 ∧ Both hq (Pl.col q r1 r2 (xs, os) (icast cs) c).1.1 (Pl.col q r1 r2 (xs, os) (icast cs) c).1.2 r1 r2 n w (La.step n (M, cs) c).1 := by
 have hk : Pl.colK r1 (xs, os) (icast cs).length c = (La.pv M n c cs.length : Int) := by
  unfold Pl.colK La.pv
  rw [icast_len]
  have hl : Pl.len os r1 = n := h.l1
  show Pl.kf xs os r1 c (Pl.len os r1 + 1) (cs.length : Int) = _
  rw [hl]
  exact kf_pf h.l1 hc hb.1 (n + 1) cs.length hE.len (by omega)
 obtain ⟨p1, p2, p3, p4⟩ := La.pv_spec (M := M) (c := c) hE.len
 unfold La.step
 simp only
 have hl : Pl.len os r1 = n := h.l1
 by_cases e : La.pv M n c cs.length = n
 ·rw [if_pos e, col_no (by rw [hk, e, hl])]
  exact ⟨rfl, hb⟩
 ·rw [if_neg e, col_yes hk hl (by omega), icast_len]
  have hlt : La.pv M n c cs.length < n := by omega
  generalize La.pv M n c cs.length = k at *
  have ha : cs.length < n := by omega
  refine ⟨by unfold icast; rw [List.map_append]; rfl, ?_⟩
  obtain ⟨_, R1⟩ := Rec_sw h (i := (cs.length : Int)) (k := (k : Int)) (by omega) (by omega) (by omega) (by omega)
  have B1 := both_sw h hb ha hlt
  generalize Pl.colO r1 r2 os (cs.length : Int) (k : Int) = os1 at *
  have hent : Pl.ent xs os1 r1 (cs.length : Int) (c : Int) = (La.sw M cs.length k cs.length c).1 := by rw [B1.1 _ ha c hc, Nat.zero_add]
  have hne : La.sw M cs.length k cs.length c ≠ 0 := by
   unfold La.sw
   rw [if_pos rfl]
   exact p4 hlt
  unfold Pl.colX
  rw [hent, ← KQ.inv_val hne]
  obtain ⟨v1, v2⟩ := Rec_okv hq
  have R2 := (Rec_sc hq v1 v2 R1 (i := (cs.length : Int)) (c := ((La.sw M cs.length k cs.length c)⁻¹).1) (by omega) (by omega) (La.sw M cs.length k cs.length c)⁻¹.2).2
  have B2 := both_sc R1 B1 ha (La.sw M cs.length k cs.length c)⁻¹
  have B3 := both_elim ha hc n (Nat.le_refl _) R2 B2
  refine both_congr (fun t ht j => ?_) B3
  show _ = La.red M cs.length k c t j
  unfold La.red La.el
  by_cases e : t = cs.length
  ·rw [if_neg (fun hh => hh.2 e), if_pos e, e]
  ·rw [if_pos ⟨ht, e⟩, if_neg e]
theorem both_cols {M : Nat → Nat → KQ hq} (h : Pl.Rec q r1 r2 n w xs os) (hb : Both hq xs os r1 r2 n w M) : ∀ c, c ≤ w →
  (Pl.cols q r1 r2 (xs, os) c).2 = icast (La.run n M c).2 ∧ Both hq (Pl.cols q r1 r2 (xs, os) c).1.1 (Pl.cols q r1 r2 (xs, os) c).1.2 r1 r2 n w (La.run n M c).1
 | 0, _ => ⟨rfl, hb⟩
 | c + 1, hc => by
  obtain ⟨ih1, ih2⟩ := both_cols h hb c (by omega)
  have hR := (Rec_cols hq h c (by omega)).1
  rw [Pl.cols, La.run, ih1]
  exact both_col hR ih2 hc (La.run_ech c)
end
section
variable {q : Int} (hq : isQ q) (m : List (List Int)) (b : List Int)
def gs (c : Nat) : (Nat → Nat → KQ hq) × List Nat := La.run m.length (matW hq m b) c
def rowsG {hq : isQ q} (r w : Nat) (M : Nat → Nat → KQ hq) : List (List Int) := (List.range r).map fun i => (List.range w).map fun j => (M i j).1
end
theorem rows_ext {l l' : List (List Int)} {n w : Nat} (h1 : l.length = n) (h2 : l'.length = n) (h3 : ∀ r ∈ l, r.length = w) (h4 : ∀ r ∈ l', r.length = w) (h : ∀ i, i < n → ∀ j, j < w → (l.getD i []).getD j 0 = (l'.getD i []).getD j 0) : l = l' := by
 refine List.ext_getElem (by omega) fun i i1 i2 => List.ext_getElem ?_ fun j j1 j2 => ?_
 ·rw [h3 _ (List.getElem_mem i1), h4 _ (List.getElem_mem i2)]
 ·have := h i (by omega) j (by rw [← h3 _ (List.getElem_mem i1)]; exact j1)
  simpa [List.getD_eq_getElem?_getD, List.getElem?_eq_getElem i1, List.getElem?_eq_getElem i2, List.getElem?_eq_getElem j1, List.getElem?_eq_getElem j2] using this
theorem rowsG_len {q : Int} {hq : isQ q} {r w : Nat} {M : Nat → Nat → KQ hq} : (rowsG r w M).length = r ∧ ∀ x ∈ rowsG r w M, x.length = w := by
 unfold rowsG
 refine ⟨by simp, fun x hx => ?_⟩
 obtain ⟨i, _, rfl⟩ := List.mem_map.1 hx
 simp
theorem rowsG_getD {q : Int} {hq : isQ q} {r w : Nat} {M : Nat → Nat → KQ hq} {i j : Nat} (hi : i < r) (hj : j < w) : ((rowsG r w M).getD i []).getD j 0 = (M i j).1 := by
 unfold rowsG
 simp [List.getD_eq_getElem?_getD, hi, hj]
theorem rowsO_getD {xo : XO} {r : Nat} {i j : Nat} (hi : i < (mrow xo.2 r).length) : ((Pl.rowsO xo r).getD i []).getD j 0 = Pl.ent xo.1 xo.2 r i j := by
 unfold Pl.rowsO Pl.ent Pl.ri
 simp only [Int.toNat_natCast]
 have e : (List.map (mrow xo.1) (mrow xo.2 r)).getD i [] = mrow xo.1 ((mrow xo.2 r).getD i 0) := by
  rw [List.getD_eq_getElem?_getD, List.getD_eq_getElem?_getD, List.getElem?_map, List.getElem?_eq_getElem hi]; rfl
 rw [e]
theorem both_new {q : Int} (hq : isQ q) {m : List (List Int)} (hs : Pl.shape q m = 0) (h0 : 0 < m.length) (b : List Int) : Both hq (Pl.recX m m.length) (Pl.recO m.length) (2 * m.length - 1) (2 * m.length) m.length (Pl.wide m) (matW hq m b) := by
 obtain ⟨s1, s2, s3⟩ := shape_0 hs
 obtain ⟨⟨a1, a2⟩, b1, b2⟩ := recO_rows h0
 have gR : ∀ (n i : Nat), i < n → (Pl.recR n).getD i 0 = 2 * i + 2 := by
  intro n
  induction n with
  | zero => intro i h; omega
  | succ n ih =>
   intro i h
   rw [Pl.recR]
   by_cases e : i = n
   ·subst e; rw [List.getD_eq_getElem?_getD, List.getElem?_append_right (by rw [recR_len]; exact Nat.le_refl _), recR_len, Nat.sub_self]; rfl
   ·rw [List.getD_eq_getElem?_getD, List.getElem?_append_left (by rw [recR_len]; omega), ← List.getD_eq_getElem?_getD]; exact ih i (by omega)
 have gW : ∀ (n i : Nat), i < n → (Pl.recW n).getD i 0 = 2 * i + 1 := by
  intro n
  induction n with
  | zero => intro i h; omega
  | succ n ih =>
   intro i h
   rw [Pl.recW]
   by_cases e : i = n
   ·subst e; rw [List.getD_eq_getElem?_getD, List.getElem?_append_right (by rw [recW_len]; exact Nat.le_refl _), recW_len, Nat.sub_self]; rfl
   ·rw [List.getD_eq_getElem?_getD, List.getElem?_append_left (by rw [recW_len]; omega), ← List.getD_eq_getElem?_getD]; exact ih i (by omega)
 constructor
 ·intro i hi j hj
  unfold Pl.ent Pl.ri
  simp only [Int.toNat_natCast]
  rw [a2, gR _ _ hi, (row_at (recX_get m m.length i hi).2).2, Nat.zero_add]
  unfold matW
  rw [if_pos hj, mk0_val hq]
  obtain ⟨u1, u2⟩ := s3 _ (rowD_mem hi)
  exact getD_inQ u2 (by omega)
 ·intro i hi j hj
  unfold Pl.ent Pl.ri
  simp only [Int.toNat_natCast]
  rw [b2, gW _ _ hi, (row_at (recX_get m m.length i hi).1).2]
  unfold matW Pl.unitR
  rw [if_neg (by omega), if_neg (by omega), List.getD_eq_getElem?_getD, List.getElem?_set, List.length_replicate]
  by_cases e : i = j
  ·rw [if_pos e, if_pos (by omega), if_pos (by omega)]; rfl
  ·rw [if_neg e, if_neg (by omega), List.getElem?_replicate, if_pos hj]; rfl
theorem ech_gs {q : Int} (hq : isQ q) {m : List (List Int)} (hs : Pl.shape q m = 0) (b : List Int) :
  Pl.echC q m = icast (gs hq m b (Pl.wide m)).2 ∧ Pl.echR q m = rowsG m.length (Pl.wide m) (gs hq m b (Pl.wide m)).1 ∧ Pl.echD q m = rowsG m.length m.length (fun i j => (gs hq m b (Pl.wide m)).1 i (Pl.wide m + 1 + j)) := by
 obtain ⟨_, _, F⟩ := pre_new hq hs
 by_cases h0 : 0 < m.length
 ·obtain ⟨s1, s2, s3⟩ := shape_0 hs
  have hR := Rec_new hq h0 (by omega) (show Pl.wide m ≤ 1000000000 by omega) s3
  have hB := both_new hq hs h0 b
  obtain ⟨k1, k2⟩ := both_cols hR hB (Pl.wide m) (Nat.le_refl _)
  have hl : Pl.len (Pl.recO m.length) (2 * m.length - 1) ≠ 0 := by show (mrow _ _).length ≠ 0; rw [hR.l1]; omega
  have hw0 : (mrow (Pl.recX m m.length) (Pl.ri (Pl.recO m.length) (2 * m.length - 1) 0)).length = Pl.wide m := (hR.g1 _ (ri_mem (by omega) (by rw [hR.l1]; omega))).2.2.1
  have hE : Pl.recS q m = Pl.cols q (2 * m.length - 1) (2 * m.length) (Pl.recX m m.length, Pl.recO m.length) (Pl.wide m) := by
   unfold Pl.recS Pl.ech
   rw [decide_eq_false hl, cond_false, hw0]
  rw [← hE] at k1 k2
  have hR' := (Rec_cols hq hR (Pl.wide m) (Nat.le_refl _)).1
  rw [← hE] at hR'
  refine ⟨k1, ?_, ?_⟩
  ·refine rows_ext F.lR rowsG_len.1 (fun r hr => (F.rR r hr).1) rowsG_len.2 fun i hi j hj => ?_
   rw [rowsG_getD hi hj]
   unfold Pl.echR
   rw [rowsO_getD (by rw [hR'.l1]; exact hi), k2.1 i hi j hj, Nat.zero_add]; rfl
  ·refine rows_ext F.lD rowsG_len.1 (fun r hr => (F.rD r hr).1) rowsG_len.2 fun i hi j hj => ?_
   rw [rowsG_getD hi hj]
   unfold Pl.echD
   rw [rowsO_getD (by rw [hR'.l2]; exact hi), k2.2 i hi j hj]; rfl
 ·have e : m = [] := List.length_eq_zero_iff.1 (by omega)
  subst e
  exact ⟨rfl, rfl, rfl⟩
end Fd
end
section
set_option linter.unusedVariables false
set_option linter.unusedSimpArgs false
set_option maxRecDepth 100000
namespace Fd
open Go Fw Go.Proofs

def C23 : Con := ⟨[LL, LL], [B], fun (x : List (List Int) × List (List Int) × Unit) => x.1 = x.2.1 ∧ Pl.okMM x.1, fun (x : List (List Int) × List (List Int) × Unit) => (true, ()), none⟩
def H23 : Hints := lo [(0, ⟨[0, 1], [(5, si)]⟩)]
def T23 : Ctx := TT [(50, C50)]
def C22q : Con := ⟨[.raw, LL], [LL, I], fun (x : D × List (List Int) × Unit) => Pl.okF x.1 ∧ Pl.okMM x.2.1 ∧ Pl.shape (Pl.qF x.1) x.2.1 = 0, fun (x : D × List (List Int) × Unit) => (Pl.echelon (Pl.qF x.1) x.2.1, 0, ()), none⟩
theorem snd22q : Sound Try.prog 22 C22q := snd_less snd22 (fun x h => ⟨h.1, h.2.1⟩) fun x h => by
 obtain ⟨v, m, ⟨⟩⟩ := x
 have h0 : Pl.shape (Pl.qF v) m = 0 := h.2.2
 show encs [LL, I] ((bif decide (Pl.shape (Pl.qF v) m ≠ 0) then [] else Pl.echelon (Pl.qF v) m), Pl.shape (Pl.qF v) m, ()) = encs [LL, I] (Pl.echelon (Pl.qF v) m, (0 : Int), ())
 rw [h0]; rfl
end Fd
end
section
set_option linter.unusedVariables false
set_option linter.unusedSimpArgs false
set_option linter.unusedSectionVars false
set_option maxRecDepth 100000
namespace Fd
open Go Fw Go.Proofs

section
variable {q : Int} (hq : isQ q)
include hq
end
theorem snd50 : Sound Try.prog 50 C50 := fn_sound (T := TT []) (fn := Try.f50) (tok0 trivial) Try.func50 (by kernel_rfl) H50 vc50 (by kernel_rfl)
end Fd
end
section
set_option linter.unusedVariables false
set_option linter.unusedSimpArgs false
set_option maxRecDepth 100000
namespace Fd
open Go Fw Go.Proofs

theorem tame_ok (q : Int) (m : List (List Int)) (n : Nat) : (Pl.tame q m n).length ≤ n ∧ ∀ r ∈ Pl.tame q m n, r.length ≤ n := by
 unfold Pl.tame
 refine ⟨by rw [List.length_map, List.length_take]; omega, fun r hr => ?_⟩
 obtain ⟨x, _, rfl⟩ := List.mem_map.1 hr
 unfold Pl.tmr
 rw [List.length_map, List.length_range]; omega
end Fd
end
section
set_option linter.unusedVariables false
set_option linter.unusedSimpArgs false
set_option maxRecDepth 100000
namespace Fd
open Go Fw Go.Proofs

theorem same_refl (a : List Int) : Pl.same a a = true := decide_eq_true rfl
theorem vc23 : ∀ x, C23.pre x → VC T23 H23 Try.f23 C23 x := by
 rintro ⟨(a : List (List Int)), (b : List (List Int)), ⟨⟩⟩ ⟨(hab : a = b), (hm : Pl.okMM a)⟩
 refine cast (α := Br ((↑a.length : Int) != (↑b.length : Int)) ((false, ()) = C23.post (a, b, ())) (∃ (n : Nat), itl (fun (G : Int × PUnit → Prop) (x : Int × PUnit) => Br (decide (x.1 < (↑a.length : Int))) ((0 : Int) ≤ x.1 ∧ x.1 < (↑a.length : Int) ∧ (0 : Int) ≤ x.1 ∧ x.1 < (↑b.length : Int) ∧ List.length (rd i64.slc a x.1) ≤ (1000000000 : Nat) ∧ Br (!Pl.same (rd i64.slc a x.1) (rd i64.slc b x.1)) ((false, ()) = C23.post (a, b, ())) (G (IntKind.i64.wrap (x.1 + (1 : Int)), ()))) ((true, ()) = C23.post (a, b, ()))) n ((0 : Int), ()))) (by kernel_rfl) ?_
 subst hab
 have hp : C23.post (a, a, ()) = (true, ()) := rfl
 rw [hp]
 refine Br_of (fun h => absurd h (by simp)) (fun _ => ?_)
 refine itl_rule (fun s => ∃ i : Nat, s.1 = (i : Int) ∧ i ≤ a.length) (fun s => ((a.length : Int) - s.1).toNat) ⟨0, rfl, Nat.zero_le _⟩ ?_
 rintro ⟨i0, ⟨⟩⟩ G ⟨i, e, hi⟩ hG
 simp only at e hG ⊢
 subst e
 obtain ⟨m1, m2⟩ := hm
 refine Br_of (fun h => ?_) (fun _ => trivial)
 have h : i < a.length := by have := of_decide_eq_true h; omega
 rw [rd_r, same_refl, wrap_i64 (by omega) (by omega)]
 exact ⟨by omega, by omega, by omega, by omega, m2 _ (rowD_mem h), hG _ ⟨i + 1, rfl, by omega⟩ (by simp only; omega)⟩
theorem snd23 : Sound Try.prog 23 C23 := fn_sound (T := T23) (fn := Try.f23) (tok0 ⟨snd50, trivial⟩) Try.func23 (by kernel_rfl) H23 vc23 (by kernel_rfl)
theorem els_of {q : Int} {l : List Int} (h : ∀ x ∈ l, Pl.inQ q x) : Pl.els q l = true := by
 unfold Pl.els
 rw [List.all_eq_true]
 intro x hx
 obtain ⟨a, b⟩ := h x hx
 rw [decide_eq_true a, decide_eq_true b]; rfl
theorem shape_of {q : Int} {m : List (List Int)} (h1 : m.length ≤ 64) (h2 : Pl.wide m ≤ 64) (h3 : ∀ r ∈ m, r.length = Pl.wide m ∧ ∀ x ∈ r, Pl.inQ q x) : Pl.shape q m = 0 := by
 unfold Pl.shape
 have a3 : (m.any fun r => decide (r.length ≠ Pl.wide m)) = false := List.any_eq_false.2 fun r hr => by simpa using (h3 r hr).1
 have a4 : (m.any fun r => !Pl.els q r) = false := List.any_eq_false.2 fun r hr => by simpa using els_of (h3 r hr).2
 rw [decide_eq_false (show ¬ m.length > 64 by omega), decide_eq_false (show ¬ Pl.wide m > 64 by omega), Bool.and_false, a3, a4]; rfl
theorem shape_mm {q : Int} {m : List (List Int)} (h : Pl.shape q m = 0) : Pl.okMM m := by
 obtain ⟨h1, h2, h3⟩ := shape_0 h
 exact ⟨by omega, fun r hr => by rw [(h3 r hr).1]; omega⟩
theorem tame_shape {q : Int} (hq : isQ q) (l : List (List Int)) {n : Nat} (hn : n ≤ 64) : Pl.shape q (Pl.tame q l n) = 0 := by
 obtain ⟨k1, k2⟩ := tame_ok q l n
 have hrow : ∀ r ∈ Pl.tame q l n, r.length = min (Pl.wide l) n ∧ ∀ x ∈ r, Pl.inQ q x := fun r hr => by
  unfold Pl.tame at hr
  obtain ⟨y, _, rfl⟩ := List.mem_map.1 hr
  unfold Pl.tmr
  refine ⟨by rw [List.length_map, List.length_range], fun x hx => ?_⟩
  obtain ⟨c, _, rfl⟩ := List.mem_map.1 hx
  cases decide (c < y.length) with
  | true => exact emod_inQ hq _
  | false => exact zero_inQ hq
 have hw : ∀ r ∈ Pl.tame q l n, min (Pl.wide l) n = Pl.wide (Pl.tame q l n) := fun r hr => by
  unfold Pl.wide
  have h0 : 0 < (Pl.tame q l n).length := List.length_pos_of_mem hr
  exact ((hrow _ (rowD_mem h0)).1).symm
 refine shape_of (by omega) ?_ fun r hr => ⟨by rw [(hrow r hr).1, hw r hr], (hrow r hr).2⟩
 rcases Nat.eq_zero_or_pos (Pl.tame q l n).length with e | e
 ·rw [List.length_eq_zero_iff.1 e]; exact Nat.zero_le _
 ·rw [← hw _ (rowD_mem e)]; omega
theorem rowsG_take {q : Int} {hq : isQ q} {r n w : Nat} {M : Nat → Nat → KQ hq} (h : r ≤ n) : (rowsG n w M).take r = rowsG r w M := by
 unfold rowsG
 rw [← List.map_take, List.take_range, Nat.min_eq_left h]
theorem echelon_gs {q : Int} (hq : isQ q) {m : List (List Int)} (hs : Pl.shape q m = 0) (b : List Int) : Pl.echelon q m = rowsG (gs hq m b (Pl.wide m)).2.length (Pl.wide m) (gs hq m b (Pl.wide m)).1 := by
 obtain ⟨e1, e2, _⟩ := ech_gs hq hs b
 unfold Pl.echelon
 rw [e1, e2, icast_len]
 exact rowsG_take (La.run_ech _).len
theorem ech_rows {q : Int} (hq : isQ q) {m : List (List Int)} (hs : Pl.shape q m = 0) : Pl.shape q (Pl.echelon q m) = 0 ∧ ((Pl.echelon q m).length ≠ 0 → Pl.wide (Pl.echelon q m) = Pl.wide m) := by
 obtain ⟨s1, s2, s3⟩ := shape_0 hs
 rw [echelon_gs hq hs []]
 have hlen := (La.run_ech (n := m.length) (M := matW hq m []) (Pl.wide m)).len
 have hw : (rowsG (gs hq m [] (Pl.wide m)).2.length (Pl.wide m) (gs hq m [] (Pl.wide m)).1).length ≠ 0 → Pl.wide (rowsG (gs hq m [] (Pl.wide m)).2.length (Pl.wide m) (gs hq m [] (Pl.wide m)).1) = Pl.wide m := fun h =>
  rowsG_len.2 _ (rowD_mem (show 0 < _ by omega))
 refine ⟨shape_of ?_ ?_ fun r hr => ?_, hw⟩
 ·rw [rowsG_len.1]; exact Nat.le_trans hlen s1
 ·by_cases e : (rowsG (gs hq m [] (Pl.wide m)).2.length (Pl.wide m) (gs hq m [] (Pl.wide m)).1).length = 0
  ·rw [List.length_eq_zero_iff.1 e]; exact Nat.zero_le _
  ·rw [hw e]; exact s2
 ·have hl := List.length_pos_of_mem hr
  refine ⟨by rw [rowsG_len.2 r hr, hw (by omega)], fun x hx => ?_⟩
  unfold rowsG at hr
  obtain ⟨i, _, rfl⟩ := List.mem_map.1 hr
  obtain ⟨j, _, rfl⟩ := List.mem_map.1 hx
  exact ((gs hq m [] (Pl.wide m)).1 i j).2
theorem matW_lt {q : Int} {hq : isQ q} {m : List (List Int)} {b : List Int} {i j : Nat} (hj : j < Pl.wide m) : matW hq m b i j = mk0 hq ((m.getD i []).getD j 0) := by
 unfold matW; rw [if_pos hj]
end Fd
end
section
set_option linter.unusedVariables false
set_option linter.unusedSimpArgs false
set_option maxRecDepth 100000
namespace Fd
open Go Fw Go.Proofs

def Pl.firstL : List Int → Nat
 | [] => 0
 | x :: l => if x ≠ 0 then 0 else Pl.firstL l + 1
def C103 : Con := ⟨[L], [I], fun (x : List Int × Unit) => x.1.length ≤ 1000000000, fun (x : List Int × Unit) => ((Pl.firstL x.1 : Int), ()), none⟩
def H103 : Hints := lo [(0, ⟨[0], [(3, si)]⟩)]
def C48 : Con := ⟨[G4, LL], [LL], fun (x : R4 × List (List Int) × Unit) => Pl.okr x.1 ∧ Pl.shape x.1.1 x.2.1 = 0, fun (x : R4 × List (List Int) × Unit) => (Pl.echelon x.1.1 x.2.1, ()), none⟩
def ars2 : List (Nat × Fw.Obj) := [(0, .aren 3 i64 []), (2, .aren 30 (.ref 0) [])]
def T48 : Ctx := ⟨tt, [(21, C21), (99, C99), (35, C35), (33, C33)], [], none, [], 100, [0, 2], [], 0, [(28, 0), (32, 2)], ars2, [(30, 0)], []⟩
def H48 : Hints := ⟨[], [(1, [102])], [(0, ⟨[1, 2], [(5, .ty (.ref 2)), (6, si), (0, s0), (2, sO)]⟩), (2, ⟨[2, 5], [(8, si), (9, si), (0, s0), (2, sO)]⟩), (4, ⟨[2, 5, 8, 9], [(10, si), (0, s0), (2, sO)]⟩),
 (6, ⟨[2, 5, 8, 9, 12], [(13, si), (0, s0), (2, sO)]⟩), (8, ⟨[2, 5, 8, 9], [(14, si), (0, s0), (2, sO)]⟩), (10, ⟨[2, 5, 8, 9, 14, 15], [(16, si), (0, s0), (2, sO)]⟩)], [], [(34, ([5], [0, 2]))]⟩
def Pl.aug (m : List (List Int)) (b : List Int) : List (List Int) := (List.range m.length).map fun i => m.getD i [] ++ [b.getD i 0]
def Pl.rsL (n : Nat) : List (List Int) → List Int → List Int × Bool
 | [], x => (x, true)
 | r :: l, x => if Pl.firstL r = n then ([], false) else Pl.rsL n l (x.set (Pl.firstL r) (r.getD n 0))
def Pl.rsolve (q : Int) (m : List (List Int)) (b : List Int) : List Int × Bool := Pl.rsL (Pl.wide m) (Pl.echelon q (Pl.aug m b)) (List.replicate (Pl.wide m) 0)
def C49 : Con := ⟨[G4, LL, L], [L, B], fun (x : R4 × List (List Int) × List Int × Unit) => Pl.okr x.1 ∧ Pl.shape x.1.1 x.2.1 = 0 ∧ Pl.wide x.2.1 ≤ 60 ∧ x.2.2.1.length = x.2.1.length ∧ ∀ y ∈ x.2.2.1, Pl.inQ x.1.1 y,
 fun (x : R4 × List (List Int) × List Int × Unit) => ((Pl.rsolve x.1.1 x.2.1 x.2.2.1).1, (Pl.rsolve x.1.1 x.2.1 x.2.2.1).2, ()), none⟩
def T49 : Ctx := ⟨tt, [(21, C21), (48, C48), (103, C103)], [], none, [], 100, [0, 2], [], 0, [(29, 0), (36, 0), (40, 2)], ars2, [(30, 0)], []⟩
def H49 : Hints := ⟨[], [(1, [103])], [(0, ⟨[1, 2, 3, 8], [(9, .ty (.ref 2)), (10, si), (0, s0), (2, sO)]⟩), (2, ⟨[8, 12], [(13, so), (14, si), (0, s0), (2, sO)]⟩)], [], [(10, ([9], [0, 2]))]⟩
end Fd
end
section
set_option linter.unusedVariables false
set_option linter.unusedSimpArgs false
set_option linter.unusedSectionVars false
set_option maxRecDepth 100000
namespace Fd
open Go Fw Go.Proofs

section
variable {q : Int} {hq : isQ q} {n w R : Nat} {xs : XS} {os : OS}
structure Rm (hq : isQ q) (xs : XS) (os : OS) (R n w : Nat) (M : Nat → Nat → KQ hq) : Prop where
 m : mal os R
 l : (mrow os R).length = n
 nd : (mrow os R).Nodup
 g : ∀ i : Nat, i < n → mal xs (Pl.ri os R i) ∧ 0 < Pl.ri os R i ∧ (mrow xs (Pl.ri os R i)).length = w
 e : ∀ i : Nat, i < n → ∀ j : Nat, j < w → Pl.ent xs os R i j = (M i j).v
theorem Rm.pos {M : Nat → Nat → KQ hq} (h : Rm hq xs os R n w M) {i : Nat} (hi : i < n) : 0 < R := by
 have := h.l
 cases R with
 | zero => simp [mrow] at this; omega
 | succ R => omega
theorem Rm.congr {M N : Nat → Nat → KQ hq} (h : Rm hq xs os R n w M) (e : ∀ i, i < n → ∀ j, j < w → M i j = N i j) : Rm hq xs os R n w N :=
 ⟨h.m, h.l, h.nd, h.g, fun i hi j hj => by rw [h.e i hi j hj, e i hi j hj]⟩
theorem Rm.all {M : Nat → Nat → KQ hq} (h : Rm hq xs os R n w M) : ∀ i ∈ mrow os R, mal xs i := fun i hi => by
 obtain ⟨k, hk, rfl⟩ := List.mem_iff_getElem.1 hi
 have hl := h.l
 have := (h.g k (by omega)).1
 unfold Pl.ri at this
 rwa [Int.toNat_natCast, List.getD_eq_getElem?_getD, List.getElem?_eq_getElem hk] at this
theorem Rm.rows {M : Nat → Nat → KQ hq} (h : Rm hq xs os R n w M) : (mrow os R).map (mrow xs) = rowsG n w M := by
 have hl := h.l
 refine rows_ext (n := n) (w := w) (by rw [List.length_map, hl]) rowsG_len.1 (fun r hr => ?_) rowsG_len.2 fun i hi j hj => ?_
 ·obtain ⟨a, ha, rfl⟩ := List.mem_map.1 hr
  obtain ⟨k, hk, rfl⟩ := List.mem_iff_getElem.1 ha
  have := (h.g k (by omega)).2.2
  unfold Pl.ri at this
  rwa [Int.toNat_natCast, List.getD_eq_getElem?_getD, List.getElem?_eq_getElem hk] at this
 ·rw [rowsG_getD hi hj, ← h.e i hi j hj]
  exact rowsO_getD (xo := (xs, os)) (r := R) (by rw [hl]; exact hi)
theorem Rm.wide {M : Nat → Nat → KQ hq} (h : Rm hq xs os R n w M) (h0 : n = 0 → w = 0) : Pl.wide ((mrow os R).map (mrow xs)) = w := by
 rw [h.rows]
 rcases Nat.eq_zero_or_pos n with e | e
 ·rw [e, h0 e]; rfl
 ·exact rowsG_len.2 _ (rowD_mem (by rw [rowsG_len.1]; exact e))
theorem Rm.sw {M : Nat → Nat → KQ hq} (h : Rm hq xs os R n w M) {p a : Nat} (hp : p < n) (ha : a < n) :
  Rm hq xs (mset (mset os R ((mrow os R).set p (Pl.ri os R a))) R ((mrow (mset os R ((mrow os R).set p (Pl.ri os R a))) R).set a (Pl.ri os R p))) R n w (La.sw M a p) := by
 have h0 := h.pos hp
 have hl := h.l
 obtain ⟨k1, k2⟩ := mset_at (xs := (mrow os R).set p (Pl.ri os R a)) h.m h0
 rw [k2, mset_twice]
 have e : mset os R (((mrow os R).set p (Pl.ri os R a)).set a (Pl.ri os R p)) = Pl.swO os R p a := by
  unfold Pl.swO Pl.swp Pl.ri
  simp only [Int.toNat_natCast]
 rw [e]
 have er : ∀ t : Nat, Pl.ri (Pl.swO os R p a) R t = if t = a then Pl.ri os R p else if t = p then Pl.ri os R a else Pl.ri os R t := ri_sw h.m h0 (by omega) (by omega)
 obtain ⟨m1, m2⟩ := swO_at (i := (p : Int)) (k := (a : Int)) h.m h0
 have P := swp_perm (l := mrow os R) (i := (p : Int)) (k := (a : Int)) (by omega) (by omega) (by omega) (by omega)
 refine ⟨m1, by rw [m2, P.length_eq, hl], by rw [m2]; exact P.nodup_iff.2 h.nd, fun i hi => ?_, fun i hi j hj => ?_⟩
 ·rw [er i]
  by_cases e1 : i = a
  ·rw [if_pos e1]; exact h.g p hp
  ·rw [if_neg e1]
   by_cases e2 : i = p
   ·rw [if_pos e2]; exact h.g a ha
   ·rw [if_neg e2]; exact h.g i hi
 ·unfold Pl.ent La.sw
  rw [er i]
  by_cases e1 : i = a
  ·rw [if_pos e1, if_pos e1]; exact h.e p hp j hj
  ·rw [if_neg e1, if_neg e1]
   by_cases e2 : i = p
   ·rw [if_pos e2, if_pos e2]; exact h.e a ha j hj
   ·rw [if_neg e2, if_neg e2]; exact h.e i hi j hj
theorem Rm.cell {M : Nat → Nat → KQ hq} (h : Rm hq xs os R n w M) {i j : Nat} (hi : i < n) (hj : j < w) (x : KQ hq) :
  Rm hq (mset xs (Pl.ri os R i) ((mrow xs (Pl.ri os R i)).set j x.v)) os R n w (fun t u => if t = i ∧ u = j then x else M t u) := by
 obtain ⟨g1, g2, g3⟩ := h.g i hi
 have hl := h.l
 obtain ⟨k1, k2⟩ := mset_at (xs := (mrow xs (Pl.ri os R i)).set j x.v) g1 g2
 refine ⟨h.m, hl, h.nd, fun t ht => ?_, fun t ht u hu => ?_⟩
 ·by_cases e : Pl.ri os R t = Pl.ri os R i
  ·rw [e]; exact ⟨k1, g2, by rw [k2, List.length_set]; exact g3⟩
  ·obtain ⟨a1, a2⟩ := mset_other (ms := xs) (xs := (mrow xs (Pl.ri os R i)).set j x.v) (Ne.symm e)
   obtain ⟨b1, b2, b3⟩ := h.g t ht
   exact ⟨a1.2 b1, b2, by rw [a2]; exact b3⟩
 ·rw [ent_mset g1 g2]
  have hiff := ri_iff h.nd (t := t) (i := i) (by omega) (by omega)
  by_cases e : t = i
  ·rw [if_pos (hiff.2 e), Int.toNat_natCast]
   have hv := h.e i hi u hu
   unfold Pl.ent at hv
   rw [Int.toNat_natCast] at hv
   by_cases e2 : u = j
   ·rw [if_pos ⟨e, e2⟩, e2, List.getD_eq_getElem?_getD, List.getElem?_set_self (by omega)]; rfl
   ·rw [if_neg (fun hh => e2 hh.2), List.getD_eq_getElem?_getD, List.getElem?_set_ne (fun hh => e2 hh.symm), ← List.getD_eq_getElem?_getD, hv, e]
  ·rw [if_neg (fun hh => e (hiff.1 hh)), if_neg (fun hh => e hh.1)]
   exact h.e t ht u hu
end
theorem vc103 : ∀ x, C103.pre x → VC (TT []) H103 Try.f103 C103 x := by
 rintro ⟨(l : List Int), ⟨⟩⟩ (hl : l.length ≤ 1000000000)
 refine cast (α := ∃ (n : Nat), itl (fun (G : Int × PUnit → Prop) (x : Int × PUnit) => Br (decide (x.1 < (↑l.length : Int))) ((0 : Int) ≤ x.1 ∧ x.1 < (↑l.length : Int) ∧ Br (rd i64 l x.1 != (0 : Int)) (x = C103.post (l, ())) (G (IntKind.i64.wrap (x.1 + (1 : Int)), ()))) (((↑l.length : Int), ()) = C103.post (l, ()))) n ((0 : Int), ())) (by kernel_rfl) ?_
 have hp : C103.post (l, ()) = ((Pl.firstL l : Int), ()) := rfl
 rw [hp]
 refine itl_rule (fun s => ∃ i : Nat, s.1 = (i : Int) ∧ i ≤ l.length ∧ Pl.firstL (l.drop i) + i = Pl.firstL l) (fun s => ((l.length : Int) - s.1).toNat) ⟨0, rfl, Nat.zero_le _, rfl⟩ ?_
 rintro ⟨i0, ⟨⟩⟩ G ⟨i, e, hi, hf⟩ hG
 simp only at e hG ⊢
 subst e
 refine Br_of (fun h => ?_) (fun h => ?_)
 ·have h : i < l.length := by have := of_decide_eq_true h; omega
  rw [rd_i]
  rw [drop_cons 0 h, Pl.firstL] at hf
  refine ⟨by omega, by omega, Br_of (fun h1 => ?_) (fun h1 => ?_)⟩
  ·have h1 : l.getD i 0 ≠ 0 := by simpa using h1
   rw [if_pos h1] at hf
   rw [← hf, Nat.zero_add]
  ·have h1 : l.getD i 0 = 0 := by simpa using h1
   rw [if_neg (not_not_intro h1)] at hf
   rw [wrap_i64 (by omega) (by omega)]
   exact hG _ ⟨i + 1, rfl, by omega, by omega⟩ (by simp only; omega)
 ·have h : i = l.length := by have := of_decide_eq_false h; omega
  subst h
  rw [List.drop_length] at hf
  rw [← hf, Pl.firstL, Nat.zero_add]
theorem snd103 : Sound Try.prog 103 C103 := fn_sound (T := TT []) (fn := Try.f103) (tok0 trivial) Try.func103 (by kernel_rfl) H103 vc103 (by kernel_rfl)
end Fd
end
section
set_option linter.unusedVariables false
set_option linter.unusedSimpArgs false
set_option linter.unusedSectionVars false
set_option maxRecDepth 100000
namespace Fd
open Go Fw Go.Proofs

theorem run_full {K : Type} [Lean.Grind.Field K] [DecidableEq K] {n : Nat} {M : Nat → Nat → K} {c : Nat} (h : (La.run n M c).2.length = n) : ∀ d, La.run n M (c + d) = La.run n M c
 | 0 => rfl
 | d + 1 => by
  rw [← Nat.add_assoc, La.run, run_full h d]
  unfold La.step
  have hE := (La.run_ech (n := n) (M := M) c).len
  obtain ⟨p1, p2, _⟩ := La.pv_spec (M := (La.run n M c).1) (c := c + d) hE
  rw [if_pos (by omega)]
theorem sub_rows {q : Int} {hq : isQ q} {r n w : Nat} {M : Nat → Nat → KQ hq} (h : r ≤ n) : sub (rowsG n w M) (0 : Int) (r : Int) = rowsG r w M := by
 unfold sub
 rw [Int.toNat_natCast, rowsG_take h]; rfl
theorem rd_ri0 (os : OS) (r : Nat) (i : Int) : rd (Ty.ref (0 : Nat)) (mrow os r) i = Pl.ri os r i := rfl
theorem vc48 : ∀ x, C48.pre x → VC T48 H48 Try.f48 C48 x := by
 rintro ⟨⟨(q : Int), (p : Int), (k : Int), (m0 : Int), ⟨⟩⟩, (m : List (List Int)), ⟨⟩⟩ ⟨(h0 : Pl.okr _), (hs : Pl.shape q m = 0)⟩
 obtain ⟨hq, _, _, _⟩ := okr_open h0
 refine cast (α := ∃ (n : Nat), itl (fun (G : Nat × Int × List (Option (List Int)) × List (Option (List Nat)) × PUnit → Prop) (x : Nat × Int × List (Option (List Int)) × List (Option (List Nat)) × PUnit) => Br (decide (x.2.1 < (↑m.length : Int))) ((0 : Int) ≤ x.2.1 ∧ x.2.1 < (↑m.length : Int) ∧ mal x.2.2.1 (0 : Nat) ∧ ((↑(mrow x.2.2.1 (0 : Nat)).length : Int) + (↑(List.length (rd i64.slc m x.2.1)) : Int)) * (8 : Int) ≤ (140737488355328 : Int) ∧ mal x.2.2.2.1 x.1 ∧ ((↑(mrow x.2.2.2.1 x.1).length : Int) + (↑[List.length x.2.2.1 + (1 : Nat)].length : Int)) * (24 : Int) ≤ (140737488355328 : Int) ∧ G (List.length x.2.2.2.1 + (1 : Nat), IntKind.i64.wrap (x.2.1 + (1 : Int)), mnew (mkill x.2.2.1 (0 : Nat)) (mrow x.2.2.1 (0 : Nat) ++ rd i64.slc m x.2.1), mnew (mkill x.2.2.2.1 x.1) (mrow x.2.2.2.1 x.1 ++ [List.length x.2.2.1 + (1 : Nat)]), ())) (∃ (n : Nat), itl (fun (G : Int × Int × List (Option (List Int)) × List (Option (List Nat)) × PUnit → Prop) (x_1 : Int × Int × List (Option (List Int)) × List (Option (List Nat)) × PUnit) => mal x_1.2.2.2.1 x.1 ∧ (∀ (i : (Ty.ref (0 : Nat)).El), i ∈ mrow x_1.2.2.2.1 x.1 → mal x_1.2.2.1 i) ∧ True ∧ Br (decide (x_1.2.1 < (↑(Pl.wide (List.map (mrow x_1.2.2.1) (mrow x_1.2.2.2.1 x.1))) : Int))) (mal x_1.2.2.2.1 x.1 ∧ Br (decide (x_1.1 < (↑(mrow x_1.2.2.2.1 x.1).length : Int))) (∃ (n : Nat), itl (fun (G_1 : Int × List (Option (List Int)) × List (Option (List Nat)) × PUnit → Prop) (x_2 : Int × List (Option (List Int)) × List (Option (List Nat)) × PUnit) => mal x_2.2.2.1 x.1 ∧ Br (decide (x_2.1 < (↑(mrow x_2.2.2.1 x.1).length : Int))) (mal x_2.2.2.1 x.1 ∧ (0 : Int) ≤ x_2.1 ∧ x_2.1 < (↑(mrow x_2.2.2.1 x.1).length : Int) ∧ mal x_2.2.2.1 x.1 ∧ (0 : Int) ≤ x_2.1 ∧ x_2.1 < (↑(mrow x_2.2.2.1 x.1).length : Int) ∧ mal x_2.2.1 (rd (Ty.ref (0 : Nat)) (mrow x_2.2.2.1 x.1) x_2.1) ∧ (0 : Int) ≤ x_1.2.1 ∧ x_1.2.1 < (↑(mrow x_2.2.1 (rd (Ty.ref (0 : Nat)) (mrow x_2.2.2.1 x.1) x_2.1)).length : Int) ∧ mal x_2.2.1 (rd (Ty.ref (0 : Nat)) (mrow x_2.2.2.1 x.1) x_2.1) ∧ (0 : Int) ≤ x_1.2.1 ∧ x_1.2.1 < (↑(mrow x_2.2.1 (rd (Ty.ref (0 : Nat)) (mrow x_2.2.2.1 x.1) x_2.1)).length : Int) ∧ Br (rd i64 (mrow x_2.2.1 (rd (Ty.ref (0 : Nat)) (mrow x_2.2.2.1 x.1) x_2.1)) x_1.2.1 == (0 : Int)) (G_1 (IntKind.i64.wrap (x_2.1 + (1 : Int)), x_2.2)) (mal x_2.2.2.1 x.1 ∧ Br (x_2.1 == (↑(mrow x_2.2.2.1 x.1).length : Int)) (G (x_1.1, IntKind.i64.wrap (x_1.2.1 + (1 : Int)), x_2.2)) (mal x_2.2.2.1 x.1 ∧ (0 : Int) ≤ x_2.1 ∧ x_2.1 < (↑(mrow x_2.2.2.1 x.1).length : Int) ∧ mal x_2.2.2.1 x.1 ∧ (0 : Int) ≤ x_2.1 ∧ x_2.1 < (↑(mrow x_2.2.2.1 x.1).length : Int) ∧ mal x_2.2.2.1 x.1 ∧ (0 : Int) ≤ x_1.1 ∧ x_1.1 < (↑(mrow x_2.2.2.1 x.1).length : Int) ∧ mal x_2.2.2.1 x.1 ∧ (0 : Int) ≤ x_1.1 ∧ x_1.1 < (↑(mrow x_2.2.2.1 x.1).length : Int) ∧ mal x_2.2.2.1 x.1 ∧ (0 : Int) ≤ x_2.1 ∧ x_2.1 < (↑(mrow x_2.2.2.1 x.1).length : Int) ∧ mal x_2.2.2.1 x.1 ∧ (0 : Int) ≤ x_2.1 ∧ x_2.1 < (↑(mrow x_2.2.2.1 x.1).length : Int) ∧ mal (mset x_2.2.2.1 x.1 ((mrow x_2.2.2.1 x.1).set (Int.toNat x_2.1) (rd (Ty.ref (0 : Nat)) (mrow x_2.2.2.1 x.1) x_1.1))) x.1 ∧ (0 : Int) ≤ x_1.1 ∧ x_1.1 < (↑(mrow (mset x_2.2.2.1 x.1 ((mrow x_2.2.2.1 x.1).set (Int.toNat x_2.1) (rd (Ty.ref (0 : Nat)) (mrow x_2.2.2.1 x.1) x_1.1))) x.1).length : Int) ∧ mal (mset x_2.2.2.1 x.1 ((mrow x_2.2.2.1 x.1).set (Int.toNat x_2.1) (rd (Ty.ref (0 : Nat)) (mrow x_2.2.2.1 x.1) x_1.1))) x.1 ∧ (0 : Int) ≤ x_1.1 ∧ x_1.1 < (↑(mrow (mset x_2.2.2.1 x.1 ((mrow x_2.2.2.1 x.1).set (Int.toNat x_2.1) (rd (Ty.ref (0 : Nat)) (mrow x_2.2.2.1 x.1) x_1.1))) x.1).length : Int) ∧ mal (mset (mset x_2.2.2.1 x.1 ((mrow x_2.2.2.1 x.1).set (Int.toNat x_2.1) (rd (Ty.ref (0 : Nat)) (mrow x_2.2.2.1 x.1) x_1.1))) x.1 ((mrow (mset x_2.2.2.1 x.1 ((mrow x_2.2.2.1 x.1).set (Int.toNat x_2.1) (rd (Ty.ref (0 : Nat)) (mrow x_2.2.2.1 x.1) x_1.1))) x.1).set (Int.toNat x_1.1) (rd (Ty.ref (0 : Nat)) (mrow x_2.2.2.1 x.1) x_2.1))) x.1 ∧ (0 : Int) ≤ x_1.1 ∧ x_1.1 < (↑(mrow (mset (mset x_2.2.2.1 x.1 ((mrow x_2.2.2.1 x.1).set (Int.toNat x_2.1) (rd (Ty.ref (0 : Nat)) (mrow x_2.2.2.1 x.1) x_1.1))) x.1 ((mrow (mset x_2.2.2.1 x.1 ((mrow x_2.2.2.1 x.1).set (Int.toNat x_2.1) (rd (Ty.ref (0 : Nat)) (mrow x_2.2.2.1 x.1) x_1.1))) x.1).set (Int.toNat x_1.1) (rd (Ty.ref (0 : Nat)) (mrow x_2.2.2.1 x.1) x_2.1))) x.1).length : Int) ∧ mal (mset (mset x_2.2.2.1 x.1 ((mrow x_2.2.2.1 x.1).set (Int.toNat x_2.1) (rd (Ty.ref (0 : Nat)) (mrow x_2.2.2.1 x.1) x_1.1))) x.1 ((mrow (mset x_2.2.2.1 x.1 ((mrow x_2.2.2.1 x.1).set (Int.toNat x_2.1) (rd (Ty.ref (0 : Nat)) (mrow x_2.2.2.1 x.1) x_1.1))) x.1).set (Int.toNat x_1.1) (rd (Ty.ref (0 : Nat)) (mrow x_2.2.2.1 x.1) x_2.1))) x.1 ∧ (0 : Int) ≤ x_1.1 ∧ x_1.1 < (↑(mrow (mset (mset x_2.2.2.1 x.1 ((mrow x_2.2.2.1 x.1).set (Int.toNat x_2.1) (rd (Ty.ref (0 : Nat)) (mrow x_2.2.2.1 x.1) x_1.1))) x.1 ((mrow (mset x_2.2.2.1 x.1 ((mrow x_2.2.2.1 x.1).set (Int.toNat x_2.1) (rd (Ty.ref (0 : Nat)) (mrow x_2.2.2.1 x.1) x_1.1))) x.1).set (Int.toNat x_1.1) (rd (Ty.ref (0 : Nat)) (mrow x_2.2.2.1 x.1) x_2.1))) x.1).length : Int) ∧ mal x_2.2.1 (rd (Ty.ref (0 : Nat)) (mrow (mset (mset x_2.2.2.1 x.1 ((mrow x_2.2.2.1 x.1).set (Int.toNat x_2.1) (rd (Ty.ref (0 : Nat)) (mrow x_2.2.2.1 x.1) x_1.1))) x.1 ((mrow (mset x_2.2.2.1 x.1 ((mrow x_2.2.2.1 x.1).set (Int.toNat x_2.1) (rd (Ty.ref (0 : Nat)) (mrow x_2.2.2.1 x.1) x_1.1))) x.1).set (Int.toNat x_1.1) (rd (Ty.ref (0 : Nat)) (mrow x_2.2.2.1 x.1) x_2.1))) x.1) x_1.1) ∧ (0 : Int) ≤ x_1.2.1 ∧ x_1.2.1 < (↑(mrow x_2.2.1 (rd (Ty.ref (0 : Nat)) (mrow (mset (mset x_2.2.2.1 x.1 ((mrow x_2.2.2.1 x.1).set (Int.toNat x_2.1) (rd (Ty.ref (0 : Nat)) (mrow x_2.2.2.1 x.1) x_1.1))) x.1 ((mrow (mset x_2.2.2.1 x.1 ((mrow x_2.2.2.1 x.1).set (Int.toNat x_2.1) (rd (Ty.ref (0 : Nat)) (mrow x_2.2.2.1 x.1) x_1.1))) x.1).set (Int.toNat x_1.1) (rd (Ty.ref (0 : Nat)) (mrow x_2.2.2.1 x.1) x_2.1))) x.1) x_1.1)).length : Int) ∧ mal x_2.2.1 (rd (Ty.ref (0 : Nat)) (mrow (mset (mset x_2.2.2.1 x.1 ((mrow x_2.2.2.1 x.1).set (Int.toNat x_2.1) (rd (Ty.ref (0 : Nat)) (mrow x_2.2.2.1 x.1) x_1.1))) x.1 ((mrow (mset x_2.2.2.1 x.1 ((mrow x_2.2.2.1 x.1).set (Int.toNat x_2.1) (rd (Ty.ref (0 : Nat)) (mrow x_2.2.2.1 x.1) x_1.1))) x.1).set (Int.toNat x_1.1) (rd (Ty.ref (0 : Nat)) (mrow x_2.2.2.1 x.1) x_2.1))) x.1) x_1.1) ∧ (0 : Int) ≤ x_1.2.1 ∧ x_1.2.1 < (↑(mrow x_2.2.1 (rd (Ty.ref (0 : Nat)) (mrow (mset (mset x_2.2.2.1 x.1 ((mrow x_2.2.2.1 x.1).set (Int.toNat x_2.1) (rd (Ty.ref (0 : Nat)) (mrow x_2.2.2.1 x.1) x_1.1))) x.1 ((mrow (mset x_2.2.2.1 x.1 ((mrow x_2.2.2.1 x.1).set (Int.toNat x_2.1) (rd (Ty.ref (0 : Nat)) (mrow x_2.2.2.1 x.1) x_1.1))) x.1).set (Int.toNat x_1.1) (rd (Ty.ref (0 : Nat)) (mrow x_2.2.2.1 x.1) x_2.1))) x.1) x_1.1)).length : Int) ∧ (Pl.okr (q, p, k, m0, ()) ∧ Pl.inQ q (rd i64 (mrow x_2.2.1 (rd (Ty.ref (0 : Nat)) (mrow (mset (mset x_2.2.2.1 x.1 ((mrow x_2.2.2.1 x.1).set (Int.toNat x_2.1) (rd (Ty.ref (0 : Nat)) (mrow x_2.2.2.1 x.1) x_1.1))) x.1 ((mrow (mset x_2.2.2.1 x.1 ((mrow x_2.2.2.1 x.1).set (Int.toNat x_2.1) (rd (Ty.ref (0 : Nat)) (mrow x_2.2.2.1 x.1) x_1.1))) x.1).set (Int.toNat x_1.1) (rd (Ty.ref (0 : Nat)) (mrow x_2.2.2.1 x.1) x_2.1))) x.1) x_1.1)) x_1.2.1)) ∧ ∃ (n : Nat), itl (fun (G_2 : Int × List (Option (List Int)) × List (Option (List Nat)) × PUnit → Prop) (x_3 : Int × List (Option (List Int)) × List (Option (List Nat)) × PUnit) => mal x_3.2.2.1 x.1 ∧ (0 : Int) ≤ x_1.1 ∧ x_1.1 < (↑(mrow x_3.2.2.1 x.1).length : Int) ∧ mal x_3.2.2.1 x.1 ∧ (0 : Int) ≤ x_1.1 ∧ x_1.1 < (↑(mrow x_3.2.2.1 x.1).length : Int) ∧ mal x_3.2.1 (rd (Ty.ref (0 : Nat)) (mrow x_3.2.2.1 x.1) x_1.1) ∧ Br (decide (x_3.1 < (↑(mrow x_3.2.1 (rd (Ty.ref (0 : Nat)) (mrow x_3.2.2.1 x.1) x_1.1)).length : Int))) (mal x_3.2.2.1 x.1 ∧ (0 : Int) ≤ x_1.1 ∧ x_1.1 < (↑(mrow x_3.2.2.1 x.1).length : Int) ∧ mal x_3.2.2.1 x.1 ∧ (0 : Int) ≤ x_1.1 ∧ x_1.1 < (↑(mrow x_3.2.2.1 x.1).length : Int) ∧ mal x_3.2.2.1 x.1 ∧ (0 : Int) ≤ x_1.1 ∧ x_1.1 < (↑(mrow x_3.2.2.1 x.1).length : Int) ∧ mal x_3.2.2.1 x.1 ∧ (0 : Int) ≤ x_1.1 ∧ x_1.1 < (↑(mrow x_3.2.2.1 x.1).length : Int) ∧ mal x_3.2.1 (rd (Ty.ref (0 : Nat)) (mrow x_3.2.2.1 x.1) x_1.1) ∧ (0 : Int) ≤ x_3.1 ∧ x_3.1 < (↑(mrow x_3.2.1 (rd (Ty.ref (0 : Nat)) (mrow x_3.2.2.1 x.1) x_1.1)).length : Int) ∧ mal x_3.2.1 (rd (Ty.ref (0 : Nat)) (mrow x_3.2.2.1 x.1) x_1.1) ∧ (0 : Int) ≤ x_3.1 ∧ x_3.1 < (↑(mrow x_3.2.1 (rd (Ty.ref (0 : Nat)) (mrow x_3.2.2.1 x.1) x_1.1)).length : Int) ∧ (Pl.okr (q, p, k, m0, ()) ∧ Pl.inQ q (rd i64 (mrow x_3.2.1 (rd (Ty.ref (0 : Nat)) (mrow x_3.2.2.1 x.1) x_1.1)) x_3.1) ∧ Pl.inQ q (Pl.inv q (rd i64 (mrow x_2.2.1 (rd (Ty.ref (0 : Nat)) (mrow (mset (mset x_2.2.2.1 x.1 ((mrow x_2.2.2.1 x.1).set (Int.toNat x_2.1) (rd (Ty.ref (0 : Nat)) (mrow x_2.2.2.1 x.1) x_1.1))) x.1 ((mrow (mset x_2.2.2.1 x.1 ((mrow x_2.2.2.1 x.1).set (Int.toNat x_2.1) (rd (Ty.ref (0 : Nat)) (mrow x_2.2.2.1 x.1) x_1.1))) x.1).set (Int.toNat x_1.1) (rd (Ty.ref (0 : Nat)) (mrow x_2.2.2.1 x.1) x_2.1))) x.1) x_1.1)) x_1.2.1))) ∧ mal x_3.2.1 (rd (Ty.ref (0 : Nat)) (mrow x_3.2.2.1 x.1) x_1.1) ∧ (0 : Int) ≤ x_3.1 ∧ x_3.1 < (↑(mrow x_3.2.1 (rd (Ty.ref (0 : Nat)) (mrow x_3.2.2.1 x.1) x_1.1)).length : Int) ∧ mal x_3.2.1 (rd (Ty.ref (0 : Nat)) (mrow x_3.2.2.1 x.1) x_1.1) ∧ (0 : Int) ≤ x_3.1 ∧ x_3.1 < (↑(mrow x_3.2.1 (rd (Ty.ref (0 : Nat)) (mrow x_3.2.2.1 x.1) x_1.1)).length : Int) ∧ G_2 (IntKind.i64.wrap (x_3.1 + (1 : Int)), mset x_3.2.1 (rd (Ty.ref (0 : Nat)) (mrow x_3.2.2.1 x.1) x_1.1) ((mrow x_3.2.1 (rd (Ty.ref (0 : Nat)) (mrow x_3.2.2.1 x.1) x_1.1)).set (Int.toNat x_3.1) (Pl.mul q (rd i64 (mrow x_3.2.1 (rd (Ty.ref (0 : Nat)) (mrow x_3.2.2.1 x.1) x_1.1)) x_3.1) (Pl.inv q (rd i64 (mrow x_2.2.1 (rd (Ty.ref (0 : Nat)) (mrow (mset (mset x_2.2.2.1 x.1 ((mrow x_2.2.2.1 x.1).set (Int.toNat x_2.1) (rd (Ty.ref (0 : Nat)) (mrow x_2.2.2.1 x.1) x_1.1))) x.1 ((mrow (mset x_2.2.2.1 x.1 ((mrow x_2.2.2.1 x.1).set (Int.toNat x_2.1) (rd (Ty.ref (0 : Nat)) (mrow x_2.2.2.1 x.1) x_1.1))) x.1).set (Int.toNat x_1.1) (rd (Ty.ref (0 : Nat)) (mrow x_2.2.2.1 x.1) x_2.1))) x.1) x_1.1)) x_1.2.1)))), x_3.2.2)) (∃ (n : Nat), itl (fun (G_3 : Int × List (Option (List Int)) × List (Option (List Nat)) × PUnit → Prop) (x_4 : Int × List (Option (List Int)) × List (Option (List Nat)) × PUnit) => mal x_4.2.2.1 x.1 ∧ Br (decide (x_4.1 < (↑(mrow x_4.2.2.1 x.1).length : Int))) (Br (x_4.1 == x_1.1) (G_3 (IntKind.i64.wrap (x_4.1 + (1 : Int)), x_4.2)) (mal x_4.2.2.1 x.1 ∧ (0 : Int) ≤ x_4.1 ∧ x_4.1 < (↑(mrow x_4.2.2.1 x.1).length : Int) ∧ mal x_4.2.2.1 x.1 ∧ (0 : Int) ≤ x_4.1 ∧ x_4.1 < (↑(mrow x_4.2.2.1 x.1).length : Int) ∧ mal x_4.2.1 (rd (Ty.ref (0 : Nat)) (mrow x_4.2.2.1 x.1) x_4.1) ∧ (0 : Int) ≤ x_1.2.1 ∧ x_1.2.1 < (↑(mrow x_4.2.1 (rd (Ty.ref (0 : Nat)) (mrow x_4.2.2.1 x.1) x_4.1)).length : Int) ∧ mal x_4.2.1 (rd (Ty.ref (0 : Nat)) (mrow x_4.2.2.1 x.1) x_4.1) ∧ (0 : Int) ≤ x_1.2.1 ∧ x_1.2.1 < (↑(mrow x_4.2.1 (rd (Ty.ref (0 : Nat)) (mrow x_4.2.2.1 x.1) x_4.1)).length : Int) ∧ Br (rd i64 (mrow x_4.2.1 (rd (Ty.ref (0 : Nat)) (mrow x_4.2.2.1 x.1) x_4.1)) x_1.2.1 == (0 : Int)) (G_3 (IntKind.i64.wrap (x_4.1 + (1 : Int)), x_4.2)) (mal x_4.2.2.1 x.1 ∧ (0 : Int) ≤ x_4.1 ∧ x_4.1 < (↑(mrow x_4.2.2.1 x.1).length : Int) ∧ mal x_4.2.2.1 x.1 ∧ (0 : Int) ≤ x_4.1 ∧ x_4.1 < (↑(mrow x_4.2.2.1 x.1).length : Int) ∧ mal x_4.2.1 (rd (Ty.ref (0 : Nat)) (mrow x_4.2.2.1 x.1) x_4.1) ∧ (0 : Int) ≤ x_1.2.1 ∧ x_1.2.1 < (↑(mrow x_4.2.1 (rd (Ty.ref (0 : Nat)) (mrow x_4.2.2.1 x.1) x_4.1)).length : Int) ∧ mal x_4.2.1 (rd (Ty.ref (0 : Nat)) (mrow x_4.2.2.1 x.1) x_4.1) ∧ (0 : Int) ≤ x_1.2.1 ∧ x_1.2.1 < (↑(mrow x_4.2.1 (rd (Ty.ref (0 : Nat)) (mrow x_4.2.2.1 x.1) x_4.1)).length : Int) ∧ ∃ (n : Nat), itl (fun (G : Int × List (Option (List Int)) × List (Option (List Nat)) × PUnit → Prop) (x_5 : Int × List (Option (List Int)) × List (Option (List Nat)) × PUnit) => mal x_5.2.2.1 x.1 ∧ (0 : Int) ≤ x_4.1 ∧ x_4.1 < (↑(mrow x_5.2.2.1 x.1).length : Int) ∧ mal x_5.2.2.1 x.1 ∧ (0 : Int) ≤ x_4.1 ∧ x_4.1 < (↑(mrow x_5.2.2.1 x.1).length : Int) ∧ mal x_5.2.1 (rd (Ty.ref (0 : Nat)) (mrow x_5.2.2.1 x.1) x_4.1) ∧ Br (decide (x_5.1 < (↑(mrow x_5.2.1 (rd (Ty.ref (0 : Nat)) (mrow x_5.2.2.1 x.1) x_4.1)).length : Int))) (mal x_5.2.2.1 x.1 ∧ (0 : Int) ≤ x_4.1 ∧ x_4.1 < (↑(mrow x_5.2.2.1 x.1).length : Int) ∧ mal x_5.2.2.1 x.1 ∧ (0 : Int) ≤ x_4.1 ∧ x_4.1 < (↑(mrow x_5.2.2.1 x.1).length : Int) ∧ mal x_5.2.2.1 x.1 ∧ (0 : Int) ≤ x_4.1 ∧ x_4.1 < (↑(mrow x_5.2.2.1 x.1).length : Int) ∧ mal x_5.2.2.1 x.1 ∧ (0 : Int) ≤ x_4.1 ∧ x_4.1 < (↑(mrow x_5.2.2.1 x.1).length : Int) ∧ mal x_5.2.1 (rd (Ty.ref (0 : Nat)) (mrow x_5.2.2.1 x.1) x_4.1) ∧ (0 : Int) ≤ x_5.1 ∧ x_5.1 < (↑(mrow x_5.2.1 (rd (Ty.ref (0 : Nat)) (mrow x_5.2.2.1 x.1) x_4.1)).length : Int) ∧ mal x_5.2.1 (rd (Ty.ref (0 : Nat)) (mrow x_5.2.2.1 x.1) x_4.1) ∧ (0 : Int) ≤ x_5.1 ∧ x_5.1 < (↑(mrow x_5.2.1 (rd (Ty.ref (0 : Nat)) (mrow x_5.2.2.1 x.1) x_4.1)).length : Int) ∧ mal x_5.2.2.1 x.1 ∧ (0 : Int) ≤ x_1.1 ∧ x_1.1 < (↑(mrow x_5.2.2.1 x.1).length : Int) ∧ mal x_5.2.2.1 x.1 ∧ (0 : Int) ≤ x_1.1 ∧ x_1.1 < (↑(mrow x_5.2.2.1 x.1).length : Int) ∧ mal x_5.2.1 (rd (Ty.ref (0 : Nat)) (mrow x_5.2.2.1 x.1) x_1.1) ∧ (0 : Int) ≤ x_5.1 ∧ x_5.1 < (↑(mrow x_5.2.1 (rd (Ty.ref (0 : Nat)) (mrow x_5.2.2.1 x.1) x_1.1)).length : Int) ∧ mal x_5.2.1 (rd (Ty.ref (0 : Nat)) (mrow x_5.2.2.1 x.1) x_1.1) ∧ (0 : Int) ≤ x_5.1 ∧ x_5.1 < (↑(mrow x_5.2.1 (rd (Ty.ref (0 : Nat)) (mrow x_5.2.2.1 x.1) x_1.1)).length : Int) ∧ (Pl.okr (q, p, k, m0, ()) ∧ Pl.inQ q (rd i64 (mrow x_4.2.1 (rd (Ty.ref (0 : Nat)) (mrow x_4.2.2.1 x.1) x_4.1)) x_1.2.1) ∧ Pl.inQ q (rd i64 (mrow x_5.2.1 (rd (Ty.ref (0 : Nat)) (mrow x_5.2.2.1 x.1) x_1.1)) x_5.1)) ∧ (Pl.okr (q, p, k, m0, ()) ∧ Pl.inQ q (rd i64 (mrow x_5.2.1 (rd (Ty.ref (0 : Nat)) (mrow x_5.2.2.1 x.1) x_4.1)) x_5.1) ∧ Pl.inQ q (Pl.mul q (rd i64 (mrow x_4.2.1 (rd (Ty.ref (0 : Nat)) (mrow x_4.2.2.1 x.1) x_4.1)) x_1.2.1) (rd i64 (mrow x_5.2.1 (rd (Ty.ref (0 : Nat)) (mrow x_5.2.2.1 x.1) x_1.1)) x_5.1))) ∧ mal x_5.2.1 (rd (Ty.ref (0 : Nat)) (mrow x_5.2.2.1 x.1) x_4.1) ∧ (0 : Int) ≤ x_5.1 ∧ x_5.1 < (↑(mrow x_5.2.1 (rd (Ty.ref (0 : Nat)) (mrow x_5.2.2.1 x.1) x_4.1)).length : Int) ∧ mal x_5.2.1 (rd (Ty.ref (0 : Nat)) (mrow x_5.2.2.1 x.1) x_4.1) ∧ (0 : Int) ≤ x_5.1 ∧ x_5.1 < (↑(mrow x_5.2.1 (rd (Ty.ref (0 : Nat)) (mrow x_5.2.2.1 x.1) x_4.1)).length : Int) ∧ G (IntKind.i64.wrap (x_5.1 + (1 : Int)), mset x_5.2.1 (rd (Ty.ref (0 : Nat)) (mrow x_5.2.2.1 x.1) x_4.1) ((mrow x_5.2.1 (rd (Ty.ref (0 : Nat)) (mrow x_5.2.2.1 x.1) x_4.1)).set (Int.toNat x_5.1) (Pl.sub q (rd i64 (mrow x_5.2.1 (rd (Ty.ref (0 : Nat)) (mrow x_5.2.2.1 x.1) x_4.1)) x_5.1) (Pl.mul q (rd i64 (mrow x_4.2.1 (rd (Ty.ref (0 : Nat)) (mrow x_4.2.2.1 x.1) x_4.1)) x_1.2.1) (rd i64 (mrow x_5.2.1 (rd (Ty.ref (0 : Nat)) (mrow x_5.2.2.1 x.1) x_1.1)) x_5.1)))), x_5.2.2)) (G_3 (IntKind.i64.wrap (x_4.1 + (1 : Int)), x_5.2))) n ((0 : Int), x_4.2)))) (G (IntKind.i64.wrap (x_1.1 + (1 : Int)), IntKind.i64.wrap (x_1.2.1 + (1 : Int)), x_4.2))) n ((0 : Int), x_3.2))) n ((0 : Int), x_2.2.1, mset (mset x_2.2.2.1 x.1 ((mrow x_2.2.2.1 x.1).set (Int.toNat x_2.1) (rd (Ty.ref (0 : Nat)) (mrow x_2.2.2.1 x.1) x_1.1))) x.1 ((mrow (mset x_2.2.2.1 x.1 ((mrow x_2.2.2.1 x.1).set (Int.toNat x_2.1) (rd (Ty.ref (0 : Nat)) (mrow x_2.2.2.1 x.1) x_1.1))) x.1).set (Int.toNat x_1.1) (rd (Ty.ref (0 : Nat)) (mrow x_2.2.2.1 x.1) x_2.1)), ())))) (mal x_2.2.2.1 x.1 ∧ Br (x_2.1 == (↑(mrow x_2.2.2.1 x.1).length : Int)) (G (x_1.1, IntKind.i64.wrap (x_1.2.1 + (1 : Int)), x_2.2)) (mal x_2.2.2.1 x.1 ∧ (0 : Int) ≤ x_2.1 ∧ x_2.1 < (↑(mrow x_2.2.2.1 x.1).length : Int) ∧ mal x_2.2.2.1 x.1 ∧ (0 : Int) ≤ x_2.1 ∧ x_2.1 < (↑(mrow x_2.2.2.1 x.1).length : Int) ∧ mal x_2.2.2.1 x.1 ∧ (0 : Int) ≤ x_1.1 ∧ x_1.1 < (↑(mrow x_2.2.2.1 x.1).length : Int) ∧ mal x_2.2.2.1 x.1 ∧ (0 : Int) ≤ x_1.1 ∧ x_1.1 < (↑(mrow x_2.2.2.1 x.1).length : Int) ∧ mal x_2.2.2.1 x.1 ∧ (0 : Int) ≤ x_2.1 ∧ x_2.1 < (↑(mrow x_2.2.2.1 x.1).length : Int) ∧ mal x_2.2.2.1 x.1 ∧ (0 : Int) ≤ x_2.1 ∧ x_2.1 < (↑(mrow x_2.2.2.1 x.1).length : Int) ∧ mal (mset x_2.2.2.1 x.1 ((mrow x_2.2.2.1 x.1).set (Int.toNat x_2.1) (rd (Ty.ref (0 : Nat)) (mrow x_2.2.2.1 x.1) x_1.1))) x.1 ∧ (0 : Int) ≤ x_1.1 ∧ x_1.1 < (↑(mrow (mset x_2.2.2.1 x.1 ((mrow x_2.2.2.1 x.1).set (Int.toNat x_2.1) (rd (Ty.ref (0 : Nat)) (mrow x_2.2.2.1 x.1) x_1.1))) x.1).length : Int) ∧ mal (mset x_2.2.2.1 x.1 ((mrow x_2.2.2.1 x.1).set (Int.toNat x_2.1) (rd (Ty.ref (0 : Nat)) (mrow x_2.2.2.1 x.1) x_1.1))) x.1 ∧ (0 : Int) ≤ x_1.1 ∧ x_1.1 < (↑(mrow (mset x_2.2.2.1 x.1 ((mrow x_2.2.2.1 x.1).set (Int.toNat x_2.1) (rd (Ty.ref (0 : Nat)) (mrow x_2.2.2.1 x.1) x_1.1))) x.1).length : Int) ∧ mal (mset (mset x_2.2.2.1 x.1 ((mrow x_2.2.2.1 x.1).set (Int.toNat x_2.1) (rd (Ty.ref (0 : Nat)) (mrow x_2.2.2.1 x.1) x_1.1))) x.1 ((mrow (mset x_2.2.2.1 x.1 ((mrow x_2.2.2.1 x.1).set (Int.toNat x_2.1) (rd (Ty.ref (0 : Nat)) (mrow x_2.2.2.1 x.1) x_1.1))) x.1).set (Int.toNat x_1.1) (rd (Ty.ref (0 : Nat)) (mrow x_2.2.2.1 x.1) x_2.1))) x.1 ∧ (0 : Int) ≤ x_1.1 ∧ x_1.1 < (↑(mrow (mset (mset x_2.2.2.1 x.1 ((mrow x_2.2.2.1 x.1).set (Int.toNat x_2.1) (rd (Ty.ref (0 : Nat)) (mrow x_2.2.2.1 x.1) x_1.1))) x.1 ((mrow (mset x_2.2.2.1 x.1 ((mrow x_2.2.2.1 x.1).set (Int.toNat x_2.1) (rd (Ty.ref (0 : Nat)) (mrow x_2.2.2.1 x.1) x_1.1))) x.1).set (Int.toNat x_1.1) (rd (Ty.ref (0 : Nat)) (mrow x_2.2.2.1 x.1) x_2.1))) x.1).length : Int) ∧ mal (mset (mset x_2.2.2.1 x.1 ((mrow x_2.2.2.1 x.1).set (Int.toNat x_2.1) (rd (Ty.ref (0 : Nat)) (mrow x_2.2.2.1 x.1) x_1.1))) x.1 ((mrow (mset x_2.2.2.1 x.1 ((mrow x_2.2.2.1 x.1).set (Int.toNat x_2.1) (rd (Ty.ref (0 : Nat)) (mrow x_2.2.2.1 x.1) x_1.1))) x.1).set (Int.toNat x_1.1) (rd (Ty.ref (0 : Nat)) (mrow x_2.2.2.1 x.1) x_2.1))) x.1 ∧ (0 : Int) ≤ x_1.1 ∧ x_1.1 < (↑(mrow (mset (mset x_2.2.2.1 x.1 ((mrow x_2.2.2.1 x.1).set (Int.toNat x_2.1) (rd (Ty.ref (0 : Nat)) (mrow x_2.2.2.1 x.1) x_1.1))) x.1 ((mrow (mset x_2.2.2.1 x.1 ((mrow x_2.2.2.1 x.1).set (Int.toNat x_2.1) (rd (Ty.ref (0 : Nat)) (mrow x_2.2.2.1 x.1) x_1.1))) x.1).set (Int.toNat x_1.1) (rd (Ty.ref (0 : Nat)) (mrow x_2.2.2.1 x.1) x_2.1))) x.1).length : Int) ∧ mal x_2.2.1 (rd (Ty.ref (0 : Nat)) (mrow (mset (mset x_2.2.2.1 x.1 ((mrow x_2.2.2.1 x.1).set (Int.toNat x_2.1) (rd (Ty.ref (0 : Nat)) (mrow x_2.2.2.1 x.1) x_1.1))) x.1 ((mrow (mset x_2.2.2.1 x.1 ((mrow x_2.2.2.1 x.1).set (Int.toNat x_2.1) (rd (Ty.ref (0 : Nat)) (mrow x_2.2.2.1 x.1) x_1.1))) x.1).set (Int.toNat x_1.1) (rd (Ty.ref (0 : Nat)) (mrow x_2.2.2.1 x.1) x_2.1))) x.1) x_1.1) ∧ (0 : Int) ≤ x_1.2.1 ∧ x_1.2.1 < (↑(mrow x_2.2.1 (rd (Ty.ref (0 : Nat)) (mrow (mset (mset x_2.2.2.1 x.1 ((mrow x_2.2.2.1 x.1).set (Int.toNat x_2.1) (rd (Ty.ref (0 : Nat)) (mrow x_2.2.2.1 x.1) x_1.1))) x.1 ((mrow (mset x_2.2.2.1 x.1 ((mrow x_2.2.2.1 x.1).set (Int.toNat x_2.1) (rd (Ty.ref (0 : Nat)) (mrow x_2.2.2.1 x.1) x_1.1))) x.1).set (Int.toNat x_1.1) (rd (Ty.ref (0 : Nat)) (mrow x_2.2.2.1 x.1) x_2.1))) x.1) x_1.1)).length : Int) ∧ mal x_2.2.1 (rd (Ty.ref (0 : Nat)) (mrow (mset (mset x_2.2.2.1 x.1 ((mrow x_2.2.2.1 x.1).set (Int.toNat x_2.1) (rd (Ty.ref (0 : Nat)) (mrow x_2.2.2.1 x.1) x_1.1))) x.1 ((mrow (mset x_2.2.2.1 x.1 ((mrow x_2.2.2.1 x.1).set (Int.toNat x_2.1) (rd (Ty.ref (0 : Nat)) (mrow x_2.2.2.1 x.1) x_1.1))) x.1).set (Int.toNat x_1.1) (rd (Ty.ref (0 : Nat)) (mrow x_2.2.2.1 x.1) x_2.1))) x.1) x_1.1) ∧ (0 : Int) ≤ x_1.2.1 ∧ x_1.2.1 < (↑(mrow x_2.2.1 (rd (Ty.ref (0 : Nat)) (mrow (mset (mset x_2.2.2.1 x.1 ((mrow x_2.2.2.1 x.1).set (Int.toNat x_2.1) (rd (Ty.ref (0 : Nat)) (mrow x_2.2.2.1 x.1) x_1.1))) x.1 ((mrow (mset x_2.2.2.1 x.1 ((mrow x_2.2.2.1 x.1).set (Int.toNat x_2.1) (rd (Ty.ref (0 : Nat)) (mrow x_2.2.2.1 x.1) x_1.1))) x.1).set (Int.toNat x_1.1) (rd (Ty.ref (0 : Nat)) (mrow x_2.2.2.1 x.1) x_2.1))) x.1) x_1.1)).length : Int) ∧ (Pl.okr (q, p, k, m0, ()) ∧ Pl.inQ q (rd i64 (mrow x_2.2.1 (rd (Ty.ref (0 : Nat)) (mrow (mset (mset x_2.2.2.1 x.1 ((mrow x_2.2.2.1 x.1).set (Int.toNat x_2.1) (rd (Ty.ref (0 : Nat)) (mrow x_2.2.2.1 x.1) x_1.1))) x.1 ((mrow (mset x_2.2.2.1 x.1 ((mrow x_2.2.2.1 x.1).set (Int.toNat x_2.1) (rd (Ty.ref (0 : Nat)) (mrow x_2.2.2.1 x.1) x_1.1))) x.1).set (Int.toNat x_1.1) (rd (Ty.ref (0 : Nat)) (mrow x_2.2.2.1 x.1) x_2.1))) x.1) x_1.1)) x_1.2.1)) ∧ ∃ (n : Nat), itl (fun (G_2 : Int × List (Option (List Int)) × List (Option (List Nat)) × PUnit → Prop) (x_3 : Int × List (Option (List Int)) × List (Option (List Nat)) × PUnit) => mal x_3.2.2.1 x.1 ∧ (0 : Int) ≤ x_1.1 ∧ x_1.1 < (↑(mrow x_3.2.2.1 x.1).length : Int) ∧ mal x_3.2.2.1 x.1 ∧ (0 : Int) ≤ x_1.1 ∧ x_1.1 < (↑(mrow x_3.2.2.1 x.1).length : Int) ∧ mal x_3.2.1 (rd (Ty.ref (0 : Nat)) (mrow x_3.2.2.1 x.1) x_1.1) ∧ Br (decide (x_3.1 < (↑(mrow x_3.2.1 (rd (Ty.ref (0 : Nat)) (mrow x_3.2.2.1 x.1) x_1.1)).length : Int))) (mal x_3.2.2.1 x.1 ∧ (0 : Int) ≤ x_1.1 ∧ x_1.1 < (↑(mrow x_3.2.2.1 x.1).length : Int) ∧ mal x_3.2.2.1 x.1 ∧ (0 : Int) ≤ x_1.1 ∧ x_1.1 < (↑(mrow x_3.2.2.1 x.1).length : Int) ∧ mal x_3.2.2.1 x.1 ∧ (0 : Int) ≤ x_1.1 ∧ x_1.1 < (↑(mrow x_3.2.2.1 x.1).length : Int) ∧ mal x_3.2.2.1 x.1 ∧ (0 : Int) ≤ x_1.1 ∧ x_1.1 < (↑(mrow x_3.2.2.1 x.1).length : Int) ∧ mal x_3.2.1 (rd (Ty.ref (0 : Nat)) (mrow x_3.2.2.1 x.1) x_1.1) ∧ (0 : Int) ≤ x_3.1 ∧ x_3.1 < (↑(mrow x_3.2.1 (rd (Ty.ref (0 : Nat)) (mrow x_3.2.2.1 x.1) x_1.1)).length : Int) ∧ mal x_3.2.1 (rd (Ty.ref (0 : Nat)) (mrow x_3.2.2.1 x.1) x_1.1) ∧ (0 : Int) ≤ x_3.1 ∧ x_3.1 < (↑(mrow x_3.2.1 (rd (Ty.ref (0 : Nat)) (mrow x_3.2.2.1 x.1) x_1.1)).length : Int) ∧ (Pl.okr (q, p, k, m0, ()) ∧ Pl.inQ q (rd i64 (mrow x_3.2.1 (rd (Ty.ref (0 : Nat)) (mrow x_3.2.2.1 x.1) x_1.1)) x_3.1) ∧ Pl.inQ q (Pl.inv q (rd i64 (mrow x_2.2.1 (rd (Ty.ref (0 : Nat)) (mrow (mset (mset x_2.2.2.1 x.1 ((mrow x_2.2.2.1 x.1).set (Int.toNat x_2.1) (rd (Ty.ref (0 : Nat)) (mrow x_2.2.2.1 x.1) x_1.1))) x.1 ((mrow (mset x_2.2.2.1 x.1 ((mrow x_2.2.2.1 x.1).set (Int.toNat x_2.1) (rd (Ty.ref (0 : Nat)) (mrow x_2.2.2.1 x.1) x_1.1))) x.1).set (Int.toNat x_1.1) (rd (Ty.ref (0 : Nat)) (mrow x_2.2.2.1 x.1) x_2.1))) x.1) x_1.1)) x_1.2.1))) ∧ mal x_3.2.1 (rd (Ty.ref (0 : Nat)) (mrow x_3.2.2.1 x.1) x_1.1) ∧ (0 : Int) ≤ x_3.1 ∧ x_3.1 < (↑(mrow x_3.2.1 (rd (Ty.ref (0 : Nat)) (mrow x_3.2.2.1 x.1) x_1.1)).length : Int) ∧ mal x_3.2.1 (rd (Ty.ref (0 : Nat)) (mrow x_3.2.2.1 x.1) x_1.1) ∧ (0 : Int) ≤ x_3.1 ∧ x_3.1 < (↑(mrow x_3.2.1 (rd (Ty.ref (0 : Nat)) (mrow x_3.2.2.1 x.1) x_1.1)).length : Int) ∧ G_2 (IntKind.i64.wrap (x_3.1 + (1 : Int)), mset x_3.2.1 (rd (Ty.ref (0 : Nat)) (mrow x_3.2.2.1 x.1) x_1.1) ((mrow x_3.2.1 (rd (Ty.ref (0 : Nat)) (mrow x_3.2.2.1 x.1) x_1.1)).set (Int.toNat x_3.1) (Pl.mul q (rd i64 (mrow x_3.2.1 (rd (Ty.ref (0 : Nat)) (mrow x_3.2.2.1 x.1) x_1.1)) x_3.1) (Pl.inv q (rd i64 (mrow x_2.2.1 (rd (Ty.ref (0 : Nat)) (mrow (mset (mset x_2.2.2.1 x.1 ((mrow x_2.2.2.1 x.1).set (Int.toNat x_2.1) (rd (Ty.ref (0 : Nat)) (mrow x_2.2.2.1 x.1) x_1.1))) x.1 ((mrow (mset x_2.2.2.1 x.1 ((mrow x_2.2.2.1 x.1).set (Int.toNat x_2.1) (rd (Ty.ref (0 : Nat)) (mrow x_2.2.2.1 x.1) x_1.1))) x.1).set (Int.toNat x_1.1) (rd (Ty.ref (0 : Nat)) (mrow x_2.2.2.1 x.1) x_2.1))) x.1) x_1.1)) x_1.2.1)))), x_3.2.2)) (∃ (n : Nat), itl (fun (G_3 : Int × List (Option (List Int)) × List (Option (List Nat)) × PUnit → Prop) (x_4 : Int × List (Option (List Int)) × List (Option (List Nat)) × PUnit) => mal x_4.2.2.1 x.1 ∧ Br (decide (x_4.1 < (↑(mrow x_4.2.2.1 x.1).length : Int))) (Br (x_4.1 == x_1.1) (G_3 (IntKind.i64.wrap (x_4.1 + (1 : Int)), x_4.2)) (mal x_4.2.2.1 x.1 ∧ (0 : Int) ≤ x_4.1 ∧ x_4.1 < (↑(mrow x_4.2.2.1 x.1).length : Int) ∧ mal x_4.2.2.1 x.1 ∧ (0 : Int) ≤ x_4.1 ∧ x_4.1 < (↑(mrow x_4.2.2.1 x.1).length : Int) ∧ mal x_4.2.1 (rd (Ty.ref (0 : Nat)) (mrow x_4.2.2.1 x.1) x_4.1) ∧ (0 : Int) ≤ x_1.2.1 ∧ x_1.2.1 < (↑(mrow x_4.2.1 (rd (Ty.ref (0 : Nat)) (mrow x_4.2.2.1 x.1) x_4.1)).length : Int) ∧ mal x_4.2.1 (rd (Ty.ref (0 : Nat)) (mrow x_4.2.2.1 x.1) x_4.1) ∧ (0 : Int) ≤ x_1.2.1 ∧ x_1.2.1 < (↑(mrow x_4.2.1 (rd (Ty.ref (0 : Nat)) (mrow x_4.2.2.1 x.1) x_4.1)).length : Int) ∧ Br (rd i64 (mrow x_4.2.1 (rd (Ty.ref (0 : Nat)) (mrow x_4.2.2.1 x.1) x_4.1)) x_1.2.1 == (0 : Int)) (G_3 (IntKind.i64.wrap (x_4.1 + (1 : Int)), x_4.2)) (mal x_4.2.2.1 x.1 ∧ (0 : Int) ≤ x_4.1 ∧ x_4.1 < (↑(mrow x_4.2.2.1 x.1).length : Int) ∧ mal x_4.2.2.1 x.1 ∧ (0 : Int) ≤ x_4.1 ∧ x_4.1 < (↑(mrow x_4.2.2.1 x.1).length : Int) ∧ mal x_4.2.1 (rd (Ty.ref (0 : Nat)) (mrow x_4.2.2.1 x.1) x_4.1) ∧ (0 : Int) ≤ x_1.2.1 ∧ x_1.2.1 < (↑(mrow x_4.2.1 (rd (Ty.ref (0 : Nat)) (mrow x_4.2.2.1 x.1) x_4.1)).length : Int) ∧ mal x_4.2.1 (rd (Ty.ref (0 : Nat)) (mrow x_4.2.2.1 x.1) x_4.1) ∧ (0 : Int) ≤ x_1.2.1 ∧ x_1.2.1 < (↑(mrow x_4.2.1 (rd (Ty.ref (0 : Nat)) (mrow x_4.2.2.1 x.1) x_4.1)).length : Int) ∧ ∃ (n : Nat), itl (fun (G : Int × List (Option (List Int)) × List (Option (List Nat)) × PUnit → Prop) (x_5 : Int × List (Option (List Int)) × List (Option (List Nat)) × PUnit) => mal x_5.2.2.1 x.1 ∧ (0 : Int) ≤ x_4.1 ∧ x_4.1 < (↑(mrow x_5.2.2.1 x.1).length : Int) ∧ mal x_5.2.2.1 x.1 ∧ (0 : Int) ≤ x_4.1 ∧ x_4.1 < (↑(mrow x_5.2.2.1 x.1).length : Int) ∧ mal x_5.2.1 (rd (Ty.ref (0 : Nat)) (mrow x_5.2.2.1 x.1) x_4.1) ∧ Br (decide (x_5.1 < (↑(mrow x_5.2.1 (rd (Ty.ref (0 : Nat)) (mrow x_5.2.2.1 x.1) x_4.1)).length : Int))) (mal x_5.2.2.1 x.1 ∧ (0 : Int) ≤ x_4.1 ∧ x_4.1 < (↑(mrow x_5.2.2.1 x.1).length : Int) ∧ mal x_5.2.2.1 x.1 ∧ (0 : Int) ≤ x_4.1 ∧ x_4.1 < (↑(mrow x_5.2.2.1 x.1).length : Int) ∧ mal x_5.2.2.1 x.1 ∧ (0 : Int) ≤ x_4.1 ∧ x_4.1 < (↑(mrow x_5.2.2.1 x.1).length : Int) ∧ mal x_5.2.2.1 x.1 ∧ (0 : Int) ≤ x_4.1 ∧ x_4.1 < (↑(mrow x_5.2.2.1 x.1).length : Int) ∧ mal x_5.2.1 (rd (Ty.ref (0 : Nat)) (mrow x_5.2.2.1 x.1) x_4.1) ∧ (0 : Int) ≤ x_5.1 ∧ x_5.1 < (↑(mrow x_5.2.1 (rd (Ty.ref (0 : Nat)) (mrow x_5.2.2.1 x.1) x_4.1)).length : Int) ∧ mal x_5.2.1 (rd (Ty.ref (0 : Nat)) (mrow x_5.2.2.1 x.1) x_4.1) ∧ (0 : Int) ≤ x_5.1 ∧ x_5.1 < (↑(mrow x_5.2.1 (rd (Ty.ref (0 : Nat)) (mrow x_5.2.2.1 x.1) x_4.1)).length : Int) ∧ mal x_5.2.2.1 x.1 ∧ (0 : Int) ≤ x_1.1 ∧ x_1.1 < (↑(mrow x_5.2.2.1 x.1).length : Int) ∧ mal x_5.2.2.1 x.1 ∧ (0 : Int) ≤ x_1.1 ∧ x_1.1 < (↑(mrow x_5.2.2.1 x.1).length : Int) ∧ mal x_5.2.1 (rd (Ty.ref (0 : Nat)) (mrow x_5.2.2.1 x.1) x_1.1) ∧ (0 : Int) ≤ x_5.1 ∧ x_5.1 < (↑(mrow x_5.2.1 (rd (Ty.ref (0 : Nat)) (mrow x_5.2.2.1 x.1) x_1.1)).length : Int) ∧ mal x_5.2.1 (rd (Ty.ref (0 : Nat)) (mrow x_5.2.2.1 x.1) x_1.1) ∧ (0 : Int) ≤ x_5.1 ∧ x_5.1 < (↑(mrow x_5.2.1 (rd (Ty.ref (0 : Nat)) (mrow x_5.2.2.1 x.1) x_1.1)).length : Int) ∧ (Pl.okr (q, p, k, m0, ()) ∧ Pl.inQ q (rd i64 (mrow x_4.2.1 (rd (Ty.ref (0 : Nat)) (mrow x_4.2.2.1 x.1) x_4.1)) x_1.2.1) ∧ Pl.inQ q (rd i64 (mrow x_5.2.1 (rd (Ty.ref (0 : Nat)) (mrow x_5.2.2.1 x.1) x_1.1)) x_5.1)) ∧ (Pl.okr (q, p, k, m0, ()) ∧ Pl.inQ q (rd i64 (mrow x_5.2.1 (rd (Ty.ref (0 : Nat)) (mrow x_5.2.2.1 x.1) x_4.1)) x_5.1) ∧ Pl.inQ q (Pl.mul q (rd i64 (mrow x_4.2.1 (rd (Ty.ref (0 : Nat)) (mrow x_4.2.2.1 x.1) x_4.1)) x_1.2.1) (rd i64 (mrow x_5.2.1 (rd (Ty.ref (0 : Nat)) (mrow x_5.2.2.1 x.1) x_1.1)) x_5.1))) ∧ mal x_5.2.1 (rd (Ty.ref (0 : Nat)) (mrow x_5.2.2.1 x.1) x_4.1) ∧ (0 : Int) ≤ x_5.1 ∧ x_5.1 < (↑(mrow x_5.2.1 (rd (Ty.ref (0 : Nat)) (mrow x_5.2.2.1 x.1) x_4.1)).length : Int) ∧ mal x_5.2.1 (rd (Ty.ref (0 : Nat)) (mrow x_5.2.2.1 x.1) x_4.1) ∧ (0 : Int) ≤ x_5.1 ∧ x_5.1 < (↑(mrow x_5.2.1 (rd (Ty.ref (0 : Nat)) (mrow x_5.2.2.1 x.1) x_4.1)).length : Int) ∧ G (IntKind.i64.wrap (x_5.1 + (1 : Int)), mset x_5.2.1 (rd (Ty.ref (0 : Nat)) (mrow x_5.2.2.1 x.1) x_4.1) ((mrow x_5.2.1 (rd (Ty.ref (0 : Nat)) (mrow x_5.2.2.1 x.1) x_4.1)).set (Int.toNat x_5.1) (Pl.sub q (rd i64 (mrow x_5.2.1 (rd (Ty.ref (0 : Nat)) (mrow x_5.2.2.1 x.1) x_4.1)) x_5.1) (Pl.mul q (rd i64 (mrow x_4.2.1 (rd (Ty.ref (0 : Nat)) (mrow x_4.2.2.1 x.1) x_4.1)) x_1.2.1) (rd i64 (mrow x_5.2.1 (rd (Ty.ref (0 : Nat)) (mrow x_5.2.2.1 x.1) x_1.1)) x_5.1)))), x_5.2.2)) (G_3 (IntKind.i64.wrap (x_4.1 + (1 : Int)), x_5.2))) n ((0 : Int), x_4.2)))) (G (IntKind.i64.wrap (x_1.1 + (1 : Int)), IntKind.i64.wrap (x_1.2.1 + (1 : Int)), x_4.2))) n ((0 : Int), x_3.2))) n ((0 : Int), x_2.2.1, mset (mset x_2.2.2.1 x.1 ((mrow x_2.2.2.1 x.1).set (Int.toNat x_2.1) (rd (Ty.ref (0 : Nat)) (mrow x_2.2.2.1 x.1) x_1.1))) x.1 ((mrow (mset x_2.2.2.1 x.1 ((mrow x_2.2.2.1 x.1).set (Int.toNat x_2.1) (rd (Ty.ref (0 : Nat)) (mrow x_2.2.2.1 x.1) x_1.1))) x.1).set (Int.toNat x_1.1) (rd (Ty.ref (0 : Nat)) (mrow x_2.2.2.1 x.1) x_2.1)), ())))) n (x_1.1, x_1.2.2)) (mal x_1.2.2.2.1 x.1 ∧ (∀ (i : (Ty.ref (0 : Nat)).El), i ∈ mrow x_1.2.2.2.1 x.1 → mal x_1.2.2.1 i) ∧ (0 : Int) ≤ x_1.1 ∧ x_1.1 ≤ (↑(List.map (mrow x_1.2.2.1) (mrow x_1.2.2.2.1 x.1)).length : Int) ∧ (sub (List.map (mrow x_1.2.2.1) (mrow x_1.2.2.2.1 x.1)) (0 : Int) x_1.1, ()) = C48.post ((q, p, k, m0, ()), m, ()))) (mal x_1.2.2.2.1 x.1 ∧ (∀ (i : (Ty.ref (0 : Nat)).El), i ∈ mrow x_1.2.2.2.1 x.1 → mal x_1.2.2.1 i) ∧ (0 : Int) ≤ x_1.1 ∧ x_1.1 ≤ (↑(List.map (mrow x_1.2.2.1) (mrow x_1.2.2.2.1 x.1)).length : Int) ∧ (sub (List.map (mrow x_1.2.2.1) (mrow x_1.2.2.2.1 x.1)) (0 : Int) x_1.1, ()) = C48.post ((q, p, k, m0, ()), m, ()))) n ((0 : Int), (0 : Int), x.2.2))) n ((0 : Nat), (0 : Int), [], [], ())) (by kernel_rfl) ?_
 obtain ⟨s1, s2, s3⟩ := shape_0 hs
 have hp : C48.post ((q, p, k, m0, ()), m, ()) = (Pl.echelon q m, ()) := rfl
 rw [hp]
 have hE := echelon_gs hq hs []
 unfold gs at hE
 rw [hE]
 have hw0 : m.length = 0 → Pl.wide m = 0 := fun h => by rw [List.length_eq_zero_iff.1 h]; rfl
 refine itl_rule (fun (s : Nat × Int × XS × OS × PUnit) => ∃ i : Nat, i ≤ m.length ∧ s.2.1 = (i : Int) ∧ s.2.2.1.length = i ∧ (∀ t, t < i → s.2.2.1[t]? = some (some (m.getD t []))) ∧ mal s.2.2.2.1 s.1 ∧ mrow s.2.2.2.1 s.1 = (List.range i).map (· + 1)) (fun s => m.length - s.2.1.toNat)
  ⟨0, Nat.zero_le _, rfl, rfl, fun t ht => by omega, trivial, rfl⟩ ?_
 rintro ⟨R, i0, xs, os, ⟨⟩⟩ G ⟨i, hi, e, hx, hxs, hm, hr⟩ hG
 simp only at e hx hxs hm hr hG ⊢
 subst e
 refine Br_of (fun h => ?_) (fun h => ?_)
 ·have h : i < m.length := by have := of_decide_eq_true h; omega
  have hk : mkill xs 0 = xs := rfl
  have hr0 : mrow xs 0 = [] := rfl
  have hlen := (s3 _ (rowD_mem h)).1
  rw [rd_r, wrap_i64 (by omega) (by omega), hk, hr0, hr, hx]
  refine ⟨by omega, by omega, trivial, by rw [hlen]; simp only [List.length_nil]; omega, hm, by rw [List.length_map, List.length_range]; simp only [List.length_singleton]; omega, hG _ ⟨i + 1, h, rfl, ?_, fun t ht => ?_, ?_⟩ (by simp only; omega)⟩
  ·show (xs ++ [some ([] ++ m.getD i [])]).length = i + 1
   rw [List.length_append, hx]; rfl
  ·show (xs ++ [some ([] ++ m.getD i [])])[t]? = _
   by_cases et : t = i
   ·subst et
    rw [List.getElem?_append_right (by omega), hx, Nat.sub_self]; rfl
   ·rw [List.getElem?_append_left (by omega)]; exact hxs t (by omega)
  ·obtain ⟨a, b⟩ := row_at (ms := mnew (mkill os R) ((List.range i).map (· + 1) ++ [i + 1])) (j := os.length) (xs := (List.range i).map (· + 1) ++ [i + 1]) (by unfold mnew; rw [List.getElem?_append_right (by rw [mkill_length]; exact Nat.le_refl _), mkill_length]; simp)
   refine ⟨a, ?_⟩
   rw [b, List.range_succ, List.map_append]; rfl
 ·have h : i = m.length := by have := of_decide_eq_false h; omega
  subst h
  have hri : ∀ t : Nat, t < m.length → Pl.ri os R t = t + 1 := fun t ht => by
   unfold Pl.ri
   rw [hr, Int.toNat_natCast, List.getD_eq_getElem?_getD, List.getElem?_map, List.getElem?_range ht]; rfl
  have R0 : Rm hq xs os R m.length (Pl.wide m) (matW hq m []) := by
   refine ⟨hm, by rw [hr, List.length_map, List.length_range], ?_, fun t ht => ?_, fun t ht j hj => ?_⟩
   ·rw [hr]
    exact List.pairwise_map.2 (List.nodup_range.imp (fun hne he => hne (by omega)))
   ·obtain ⟨a, b⟩ := row_at (hxs t ht)
    rw [hri t ht, b]
    exact ⟨a, by omega, (s3 _ (rowD_mem ht)).1⟩
   ·obtain ⟨a, b⟩ := row_at (hxs t ht)
    obtain ⟨u1, u2⟩ := s3 _ (rowD_mem ht)
    unfold Pl.ent
    rw [hri t ht, b, Int.toNat_natCast, matW_lt hj, mk0_val hq (getD_inQ u2 (by omega))]
  clear hxs hr hri hm hx hG hi
  generalize matW hq m [] = M0 at *
  obtain ⟨N, hN⟩ : ∃ N, m.length = N := ⟨_, rfl⟩
  obtain ⟨W, hW⟩ : ∃ W, Pl.wide m = W := ⟨_, rfl⟩
  rw [hN, hW] at R0 hw0 hE ⊢
  rw [hN] at s1
  rw [hW] at s2
  have fin : ∀ (c : Nat) (xs : XS) (os : OS), c ≤ W → (La.run N M0 c).2.length = (La.run N M0 W).2.length → Rm hq xs os R N W (La.run N M0 W).1 →
    mal os R ∧ (∀ (i : (Ty.ref (0 : Nat)).El), i ∈ mrow os R → mal xs i) ∧ (0 : Int) ≤ ((La.run N M0 c).2.length : Int) ∧ ((La.run N M0 c).2.length : Int) ≤ ((List.map (mrow xs) (mrow os R)).length : Int) ∧
     (sub (List.map (mrow xs) (mrow os R)) (0 : Int) ((La.run N M0 c).2.length : Int), ()) = (rowsG (La.run N M0 W).2.length W (La.run N M0 W).1, ()) := fun c xs os hc hl hR => by
   have hE1 := (La.run_ech (n := N) (M := M0) W).len
   refine ⟨hR.m, hR.all, by omega, ?_, ?_⟩
   ·rw [List.length_map, hR.l]; omega
   ·rw [hl, hR.rows, sub_rows hE1]
  refine itl_rule (fun s => ∃ (c : Nat) (xs : XS) (os : OS), c ≤ W ∧ s = (((La.run N M0 c).2.length : Int), (c : Int), xs, os, ()) ∧ Rm hq xs os R N W (La.run N M0 c).1) (fun s => W - s.2.1.toNat)
   ⟨0, xs, os, Nat.zero_le _, rfl, R0⟩ ?_
  rintro x G ⟨c, xs, os, hc, rfl, RM⟩ hG
  simp only
  rw [RM.wide hw0, RM.l]
  have hlE := (La.run_ech (n := N) (M := M0) c).len
  refine ⟨RM.m, RM.all, trivial, Br_of (fun h1d => ?_) (fun h1d => ?_)⟩
  rotate_left
  ·have h1 : c = W := by have := of_decide_eq_false h1d; omega
   subst h1
   exact fin c xs os (Nat.le_refl _) rfl RM
  have h1 : c < W := by have := of_decide_eq_true h1d; omega
  refine ⟨RM.m, Br_of (fun h2d => ?_) (fun h2d => ?_)⟩
  rotate_left
  ·have h2 : (La.run N M0 c).2.length = N := by have := of_decide_eq_false h2d; omega
   have hf := run_full h2 (W - c)
   rw [show c + (W - c) = W by omega] at hf
   exact fin c xs os hc (by rw [hf]) (by rw [hf]; exact RM)
  have h2 : (La.run N M0 c).2.length < N := by have := of_decide_eq_true h2d; omega
  obtain ⟨q1, q2, q3, q4⟩ := La.pv_spec (M := (La.run N M0 c).1) (c := c) hlE
  have hst : La.run N M0 (c + 1) = La.step N (La.run N M0 c) c := rfl
  have hpf : La.pv (La.run N M0 c).1 N c (La.run N M0 c).2.length = La.pf (La.run N M0 c).1 N c (N - (La.run N M0 c).2.length) (La.run N M0 c).2.length := rfl
  unfold La.step at hst
  obtain ⟨S, cs, hS⟩ : ∃ S cs, La.run N M0 c = (S, cs) := ⟨_, _, rfl⟩
  rw [hS] at RM hG h2 q1 q2 q3 q4 hst hpf hlE ⊢
  simp only at RM hG h2 q1 q2 q3 q4 hst hpf hlE ⊢
  generalize La.pv S N c cs.length = P at *
  generalize ha : cs.length = a at *
  refine itl_rule (fun s => ∃ t : Nat, s = ((t : Int), xs, os, ()) ∧ a ≤ t ∧ t ≤ N ∧ La.pf S N c (N - t) t = P) (fun s => ((N : Int) - s.1).toNat) ⟨a, rfl, Nat.le_refl _, by omega, hpf.symm⟩ ?_
  rintro x G1 ⟨t, rfl, t1, t2, t3⟩ hG1
  simp only
  rw [RM.l]
  refine ⟨RM.m, Br_of (fun h3d => ?_) (fun h3d => ?_)⟩
  rotate_left
  ·have h3 : t = N := by have := of_decide_eq_false h3d; omega
   subst h3
   refine ⟨RM.m, Br_of (fun _ => ?_) (fun h => absurd h (by simp))⟩
   rw [Nat.sub_self, La.pf] at t3
   rw [if_pos t3.symm] at hst
   rw [wrap_i64 (by omega) (by omega)]
   refine hG _ ⟨c + 1, xs, os, h1, ?_, by rw [hst]; exact RM⟩ (by simp only; omega)
   rw [hst, ← ha]; rfl
  have h3 : t < N := by have := of_decide_eq_true h3d; omega
  obtain ⟨g1, g2, g3⟩ := RM.g t h3
  have ge := RM.e t h3 c h1
  rw [rd_ri0, rd_ent, g3, ge]
  obtain ⟨d, hd⟩ : ∃ d, N - t = d + 1 := ⟨N - t - 1, by omega⟩
  rw [hd, La.pf] at t3
  refine ⟨RM.m, by omega, by omega, RM.m, by omega, by omega, g1, by omega, by omega, g1, by omega, by omega, Br_of (fun h4d => ?_) (fun h4d => ?_)⟩
  ·have h4 : S t c = 0 := KQ.zero_iff.2 (by simpa using h4d)
   rw [if_pos ⟨h3, h4⟩] at t3
   rw [wrap_i64 (by omega) (by omega)]
   exact hG1 _ ⟨t + 1, rfl, by omega, by omega, by rw [show N - (t + 1) = d by omega]; exact t3⟩ (by simp only; omega)
  have h4 : S t c ≠ 0 := fun e => by rw [e] at h4d; simp [KQ.zero_val] at h4d
  rw [if_neg (fun hh => h4 hh.2)] at t3
  subst t3
  rw [if_neg (by omega)] at hst
  clear hG1 hd
  refine ⟨RM.m, Br_of (fun h => absurd (eq_of_beq h) (by omega)) (fun _ => ?_)⟩
  have hR0 := RM.pos h3
  obtain ⟨k1, k2⟩ := mset_at (xs := (mrow os R).set t (Pl.ri os R a)) RM.m hR0
  have k3 : (mrow (mset os R ((mrow os R).set t (Pl.ri os R a))) R).length = N := by rw [k2, List.length_set]; exact RM.l
  have RS := RM.sw h3 h2
  rw [rd_ri0, Int.toNat_natCast, Int.toNat_natCast]
  rw [k3]
  generalize mset (mset os R ((mrow os R).set t (Pl.ri os R a))) R ((mrow (mset os R ((mrow os R).set t (Pl.ri os R a))) R).set a (Pl.ri os R t)) = os1 at *
  obtain ⟨g1', g2', g3'⟩ := RS.g a h2
  have ge' := RS.e a h2 c h1
  rw [rd_ri0 os1 R a, rd_ent, g3', ge', RS.l]
  have hne : (La.sw S a t a c) ≠ 0 := by
   unfold La.sw; rw [if_pos rfl]; exact h4
  refine ⟨RM.m, by omega, by omega, RM.m, by omega, by omega, RM.m, by omega, by omega, RM.m, by omega, by omega, RM.m, by omega, by omega, RM.m, by omega, by omega, k1, by omega, by omega, k1, by omega, by omega, RS.m, by omega, by omega, RS.m, by omega, by omega, g1', by omega, by omega, g1', by omega, by omega, ⟨h0, (La.sw S a t a c).ok⟩, ?_⟩
  clear k1 k2 k3
  have hred : La.red S a t c = La.el (La.sc (La.sw S a t) a (La.sw S a t a c)⁻¹) a c := rfl
  rw [← KQ.inv_val hne]
  generalize (La.sw S a t a c)⁻¹ = iv at *
  generalize La.sw S a t = M1 at *
  refine itl_rule (fun s => ∃ (j : Nat) (xs : XS), j ≤ W ∧ s = ((j : Int), xs, os1, ()) ∧ Rm hq xs os1 R N W (fun r u => if r = a ∧ u < j then iv * M1 a u else M1 r u)) (fun s => W - s.1.toNat)
   ⟨0, xs, Nat.zero_le _, rfl, RS.congr fun r _ u _ => by rw [if_neg (fun hh => by omega)]⟩ ?_
  rintro x G2 ⟨j, xs2, hj, rfl, R2⟩ hG2
  simp only
  obtain ⟨b1, b2, b3⟩ := R2.g a h2
  rw [rd_ri0 os1 R a, R2.l, b3]
  refine ⟨R2.m, by omega, by omega, R2.m, by omega, by omega, b1, Br_of (fun h5d => ?_) (fun h5d => ?_)⟩
  ·have h5 : j < W := by have := of_decide_eq_true h5d; omega
   have be := R2.e a h2 j h5
   rw [if_neg (fun hh => by omega)] at be
   rw [rd_ent, be, wrap_i64 (by omega) (by omega), Int.toNat_natCast]
   refine ⟨R2.m, by omega, by omega, R2.m, by omega, by omega, R2.m, by omega, by omega, R2.m, by omega, by omega, b1, by omega, by omega, b1, by omega, by omega, ⟨h0, (M1 a j).ok, iv.ok⟩, b1, by omega, by omega, b1, by omega, by omega, hG2 _ ⟨j + 1, _, h5, rfl, ?_⟩ (by simp only; omega)⟩
   refine (R2.cell h2 h5 (M1 a j * iv)).congr fun r _ u _ => ?_
   by_cases e1 : r = a ∧ u = j
   ·rw [if_pos e1, if_pos ⟨e1.1, by omega⟩, e1.2]; grind
   ·rw [if_neg e1]
    by_cases e2 : r = a ∧ u < j
    ·rw [if_pos e2, if_pos ⟨e2.1, by omega⟩]
    ·rw [if_neg e2, if_neg (fun hh => by
      rcases Nat.lt_or_ge u j with h6 | h6
      ·exact e2 ⟨hh.1, h6⟩
      ·exact e1 ⟨hh.1, by omega⟩)]
  have h5 : j = W := by have := of_decide_eq_false h5d; omega
  subst h5
  have R3 : Rm hq xs2 os1 R N j (La.sc M1 a iv) := R2.congr fun r _ u hu => by
   unfold La.sc
   by_cases e : r = a
   ·rw [if_pos ⟨e, hu⟩, if_pos e]
   ·rw [if_neg (fun hh => e hh.1), if_neg e]
  clear R2 hG2 b1 b2 b3 RS
  generalize La.sc M1 a iv = M2 at *
  refine itl_rule (fun s => ∃ (i : Nat) (xs : XS), i ≤ N ∧ s = ((i : Int), xs, os1, ()) ∧ Rm hq xs os1 R N j (fun r u => if r < i ∧ r ≠ a then M2 r u - M2 r c * M2 a u else M2 r u)) (fun s => N - s.1.toNat)
   ⟨0, xs2, Nat.zero_le _, rfl, R3.congr fun r _ u _ => by rw [if_neg (fun hh => by omega)]⟩ ?_
  rintro x G3 ⟨i, xs3, hi, rfl, R4⟩ hG3
  simp only
  rw [R4.l]
  refine ⟨R4.m, Br_of (fun h6d => ?_) (fun h6d => ?_)⟩
  rotate_left
  ·have h6 : i = N := by have := of_decide_eq_false h6d; omega
   subst h6
   rw [wrap_i64 (by omega) (by omega), wrap_i64 (by omega) (by omega)]
   refine hG _ ⟨c + 1, xs3, os1, h1, ?_, ?_⟩ (by simp only; omega)
   ·rw [hst]
    show _ = (((cs ++ [c]).length : Int), _)
    rw [List.length_append, ha]; rfl
   ·rw [hst]
    refine R4.congr fun r hr u _ => ?_
    show _ = La.red S a t c r u
    rw [hred]
    unfold La.el
    by_cases e : r = a
    ·rw [if_neg (fun hh => hh.2 e), if_pos e, e]
    ·rw [if_pos ⟨hr, e⟩, if_neg e]
  have h6 : i < N := by have := of_decide_eq_true h6d; omega
  rw [wrap_i64 (x := (i : Int) + 1) (by omega) (by omega)]
  refine Br_of (fun h7d => ?_) (fun h7d => ?_)
  ·have h7 : i = a := by have := eq_of_beq h7d; omega
   exact hG3 _ ⟨i + 1, xs3, h6, rfl, R4.congr fun r _ u _ => by
    by_cases e : r < i ∧ r ≠ a
    ·rw [if_pos e, if_pos ⟨by omega, e.2⟩]
    ·rw [if_neg e, if_neg (fun hh => e ⟨by omega, hh.2⟩)]⟩ (by simp only; omega)
  have h7 : i ≠ a := fun e => by rw [e] at h7d; simp at h7d
  obtain ⟨b1, b2, b3⟩ := R4.g i h6
  have be := R4.e i h6 c h1
  rw [if_neg (fun hh => by omega)] at be
  rw [rd_ri0 os1 R i, rd_ent, b3, be]
  refine ⟨R4.m, by omega, by omega, R4.m, by omega, by omega, b1, by omega, by omega, b1, by omega, by omega, Br_of (fun h8d => ?_) (fun h8d => ?_)⟩
  ·have h8 : M2 i c = 0 := KQ.zero_iff.2 (by simpa using h8d)
   exact hG3 _ ⟨i + 1, xs3, h6, rfl, R4.congr fun r _ u _ => by
    by_cases e : r < i ∧ r ≠ a
    ·rw [if_pos e, if_pos ⟨by omega, e.2⟩]
    ·rw [if_neg e]
     by_cases e2 : r = i
     ·rw [if_pos ⟨by omega, by omega⟩, e2, h8]; grind
     ·rw [if_neg (fun hh => e ⟨by omega, hh.2⟩)]⟩ (by simp only; omega)
  refine ⟨R4.m, by omega, by omega, R4.m, by omega, by omega, b1, by omega, by omega, b1, by omega, by omega, ?_⟩
  refine itl_rule (fun s => ∃ (u : Nat) (xs : XS), u ≤ j ∧ s = ((u : Int), xs, os1, ()) ∧ Rm hq xs os1 R N j (fun r v => if (r < i ∨ (r = i ∧ v < u)) ∧ r ≠ a then M2 r v - M2 r c * M2 a v else M2 r v)) (fun s => j - s.1.toNat)
   ⟨0, xs3, Nat.zero_le _, rfl, R4.congr fun r _ v _ => by
    by_cases e : r < i ∧ r ≠ a
    ·rw [if_pos e, if_pos ⟨.inl e.1, e.2⟩]
    ·rw [if_neg e, if_neg (fun hh => e ⟨by omega, hh.2⟩)]⟩ ?_
  rintro x G4 ⟨u, xs4, hu, rfl, R5⟩ hG4
  simp only
  obtain ⟨c1, c2, c3⟩ := R5.g i h6
  obtain ⟨d1, d2, d3⟩ := R5.g a h2
  rw [rd_ri0 os1 R i, rd_ri0 os1 R a, R5.l, c3, d3]
  refine ⟨R5.m, by omega, by omega, R5.m, by omega, by omega, c1, Br_of (fun h9d => ?_) (fun h9d => ?_)⟩
  ·have h9 : u < j := by have := of_decide_eq_true h9d; omega
   have ce := R5.e i h6 u h9
   have de := R5.e a h2 u h9
   rw [if_neg (fun hh => by omega)] at ce
   rw [if_neg (fun hh => hh.2 rfl)] at de
   rw [rd_ent, rd_ent, ce, de, wrap_i64 (by omega) (by omega), Int.toNat_natCast]
   have hsub : Pl.sub q (M2 i u).v (Pl.mul q (M2 i c).v (M2 a u).v) = (M2 i u - M2 i c * M2 a u).v := rfl
   rw [hsub]
   refine ⟨R5.m, by omega, by omega, R5.m, by omega, by omega, R5.m, by omega, by omega, R5.m, by omega, by omega, c1, by omega, by omega, c1, by omega, by omega, R5.m, by omega, by omega, R5.m, by omega, by omega, d1, by omega, by omega, d1, by omega, by omega, ⟨h0, (M2 i c).ok, (M2 a u).ok⟩, ⟨h0, (M2 i u).ok, (M2 i c * M2 a u).ok⟩, c1, by omega, by omega, c1, by omega, by omega, hG4 _ ⟨u + 1, _, h9, rfl, ?_⟩ (by simp only; omega)⟩
   refine (R5.cell h6 h9 (M2 i u - M2 i c * M2 a u)).congr fun r _ v _ => ?_
   by_cases e1 : r = i ∧ v = u
   ·rw [if_pos e1, if_pos ⟨.inr ⟨e1.1, by omega⟩, by omega⟩, e1.1, e1.2]
   ·rw [if_neg e1]
    by_cases e2 : (r < i ∨ (r = i ∧ v < u)) ∧ r ≠ a
    ·rw [if_pos e2, if_pos ⟨by omega, e2.2⟩]
    ·rw [if_neg e2, if_neg (fun hh => by omega)]
  have h9 : u = j := by have := of_decide_eq_false h9d; omega
  subst h9
  exact hG3 _ ⟨i + 1, xs4, h6, rfl, R5.congr fun r _ v hv => by
   by_cases e2 : (r < i ∨ (r = i ∧ v < u)) ∧ r ≠ a
   ·rw [if_pos e2, if_pos ⟨by omega, e2.2⟩]
   ·rw [if_neg e2, if_neg (fun hh => by omega)]⟩ (by simp only; omega)
theorem snd48 : Sound Try.prog 48 C48 := fn_sound (T := T48) (fn := Try.f48) (tokg (T := T48) ⟨snd21, snd99, snd35, snd33, trivial⟩ trivial trivial noInv noCv) Try.func48 (by kernel_rfl) H48 vc48 (by kernel_rfl)
end Fd
end
section
set_option linter.unusedVariables false
set_option linter.unusedSimpArgs false
set_option linter.unusedSectionVars false
set_option maxRecDepth 100000
namespace Fd
open Go Fw Go.Proofs

def T9 : Ctx := TT [(19, C19), (20, C20), (22, C22q), (48, C48), (23, C23), (26, C26), (45, C45), (46, C46), (49, C49), (50, C50), (28, C28), (27, C27), (24, C24)]
def C9 : Con := ⟨[I, LL, L], [B], fun _ => True, fun _ => (true, ()), none⟩
def H9 : Hints := ⟨[47], [(2, [8]), (9, [1000012])], [(0, ⟨[7, 8, 9], [(12, so)]⟩)], [], []⟩
section
variable {q : Int} {hq : isQ q}
theorem dotL_snoc (x y : Int) : ∀ (s : Int) (a b : List Int), a.length = b.length → Pl.dotL q s (a ++ [x]) (b ++ [y]) = Pl.add q (Pl.dotL q s a b) (Pl.mul q x y)
 | s, [], [], _ => rfl
 | s, a :: l, b :: m, h => by
  simp only [List.cons_append, Pl.dotL]
  exact dotL_snoc x y _ l m (by simpa using h)
theorem dot_sum (A B : Nat → KQ hq) : ∀ n : Nat, Pl.dot q ((List.range n).map fun k => (A k).v) ((List.range n).map fun k => (B k).v) = (La.sum n fun k => A k * B k).v
 | 0 => rfl
 | n + 1 => by
  unfold Pl.dot
  rw [List.range_succ, List.map_append, List.map_append]
  simp only [List.map_cons, List.map_nil]
  rw [dotL_snoc _ _ _ _ _ (by simp)]
  have := dot_sum A B n
  unfold Pl.dot at this
  rw [this, La.sum]; rfl
theorem colS_snoc (j : Nat) (x : Int) (r : List Int) : ∀ (s : Int) (a : List Int) (m : List (List Int)), a.length = m.length → Pl.colS q j s (a ++ [x]) (m ++ [r]) = Pl.add q (Pl.colS q j s a m) (Pl.mul q x (r.getD j 0))
 | s, [], [], _ => rfl
 | s, a :: l, b :: m, h => by
  simp only [List.cons_append, Pl.colS]
  exact colS_snoc j x r _ l m (by simpa using h)
theorem colS_sum (A : Nat → KQ hq) (m : List (List Int)) (j : Nat) (B : Nat → KQ hq) (hB : ∀ k, k < m.length → (m.getD k []).getD j 0 = (B k).v) : ∀ n : Nat, n ≤ m.length →
  Pl.colS q j 0 ((List.range n).map fun k => (A k).v) (m.take n) = (La.sum n fun k => A k * B k).v
 | 0, _ => by rw [List.take_zero]; rfl
 | n + 1, h => by
  have hn : n < m.length := by omega
  rw [List.range_succ, List.map_append, List.take_succ_eq_append_getElem hn]
  simp only [List.map_cons, List.map_nil]
  rw [colS_snoc _ _ _ _ _ _ (by simp; omega), colS_sum A m j B hB n (by omega), La.sum]
  have := hB n hn
  have e : m.getD n [] = m[n] := by rw [List.getD_eq_getElem?_getD, List.getElem?_eq_getElem hn]; rfl
  rw [e] at this
  rw [this]; rfl
end
theorem firstL_at : ∀ (l : List Int) (p : Nat), p < l.length → (∀ j, j < p → l.getD j 0 = 0) → l.getD p 0 ≠ 0 → Pl.firstL l = p
 | [], p, h, _, _ => by simp at h
 | x :: l, 0, _, _, h => by
  rw [Pl.firstL, if_pos (by simpa using h)]
 | x :: l, p + 1, h1, h2, h3 => by
  have h0 : x = 0 := by simpa using h2 0 (by omega)
  rw [Pl.firstL, if_neg (by simpa using h0), firstL_at l p (by simpa using h1) (fun j hj => by simpa using h2 (j + 1) (by omega)) (by simpa using h3)]
theorem list_range (l : List Int) : l = (List.range l.length).map fun k => l.getD k 0 := by
 refine List.ext_getElem (by simp) fun i h1 h2 => ?_
 simp [List.getD_eq_getElem?_getD, h1]
section
variable {q : Int} (hq : isQ q) {m : List (List Int)} (hs : Pl.shape q m = 0) {b : List Int} (hb : b.length = m.length) (hbi : ∀ y ∈ b, Pl.inQ q y)
include hs hb hbi
theorem matW_m {i j : Nat} (hi : i < m.length) (hj : j < Pl.wide m) : (matW hq m b i j).v = (m.getD i []).getD j 0 := by
 obtain ⟨s1, s2, s3⟩ := shape_0 hs
 rw [matW_lt hj]
 obtain ⟨u1, u2⟩ := s3 _ (rowD_mem hi)
 exact mk0_val hq (getD_inQ u2 (by omega))
theorem matW_b {i : Nat} (hi : i < m.length) : (matW hq m b i (Pl.wide m)).v = b.getD i 0 := by
 unfold matW
 rw [if_neg (Nat.lt_irrefl _), if_pos rfl]
 exact mk0_val hq (getD_inQ hbi (by omega))
theorem matW_1 {i k : Nat} : matW hq m b i (Pl.wide m + 1 + k) = if k = i then 1 else 0 := by
 unfold matW
 rw [if_neg (by omega), if_neg (by omega)]
 by_cases e : k = i
 ·rw [if_pos (by omega), if_pos e]
 ·rw [if_neg (by omega), if_neg e]
theorem gs_made (c : Nat) : ∀ i, i < m.length → ∀ j, j ≤ Pl.wide m → (gs hq m b c).1 i j = La.sum m.length fun k => (gs hq m b c).1 i (Pl.wide m + 1 + k) * matW hq m b k j := by
 have hL : La.Lin (K := KQ hq) fun r => ∀ j, j ≤ Pl.wide m → r j = La.sum m.length fun k => r (Pl.wide m + 1 + k) * matW hq m b k j := by
  constructor
  ·intro x r h j hj
   show x * r j = _
   rw [h j hj, ← La.sum_smul]
   exact La.sum_congr fun k _ => by grind
  ·intro r s h1 h2 j hj
   show r j - s j = _
   rw [h1 j hj, h2 j hj]
   have e : ∀ x y : KQ hq, x - y = x + (-1) * y := fun x y => by grind
   rw [e, ← La.sum_smul, ← La.sum_add]
   exact La.sum_congr fun k _ => by grind
 refine La.run_lin hL (fun i hi j hj => ?_) c
 rw [La.sum_one hi fun k hk hne => by rw [matW_1 hq hs hb hbi, if_neg hne]; grind]
 rw [matW_1 hq hs hb hbi, if_pos rfl]; grind
theorem dot_done (c : Nat) {i : Nat} (hi : i < m.length) : Pl.dot q ((List.range m.length).map fun k => ((gs hq m b c).1 i (Pl.wide m + 1 + k)).v) b = ((gs hq m b c).1 i (Pl.wide m)).v := by
 have e : b = (List.range m.length).map fun k => (matW hq m b k (Pl.wide m)).v := by
  conv => lhs; rw [list_range b, hb]
  refine List.map_congr_left fun k hk => ?_
  exact (matW_b hq hs hb hbi (List.mem_range.1 hk)).symm
 have := dot_sum (hq := hq) (fun k => (gs hq m b c).1 i (Pl.wide m + 1 + k)) (fun k => matW hq m b k (Pl.wide m)) m.length
 rw [← e] at this
 rw [this, ← gs_made hq hs hb hbi c i hi _ (Nat.le_refl _)]
theorem col_done (c : Nat) {i j : Nat} (hi : i < m.length) (hj : j < Pl.wide m) : Pl.colS q j 0 ((List.range m.length).map fun k => ((gs hq m b c).1 i (Pl.wide m + 1 + k)).v) m = ((gs hq m b c).1 i j).v := by
 have := colS_sum (hq := hq) (fun k => (gs hq m b c).1 i (Pl.wide m + 1 + k)) m j (fun k => matW hq m b k j) (fun k hk => (matW_m hq hs hb hbi hk hj).symm) m.length (Nat.le_refl _)
 rw [List.take_length] at this
 rw [this, ← gs_made hq hs hb hbi c i hi _ (by omega)]
theorem aug_ok (hw : Pl.wide m ≤ 60) : Pl.shape q (Pl.aug m b) = 0 ∧ (Pl.aug m b).length = m.length ∧ (0 < m.length → Pl.wide (Pl.aug m b) = Pl.wide m + 1) ∧
  ∀ i, i < m.length → ∀ j, j < Pl.wide m + 1 → ((Pl.aug m b).getD i []).getD j 0 = (matW hq m b i j).v := by
 obtain ⟨s1, s2, s3⟩ := shape_0 hs
 have hl : (Pl.aug m b).length = m.length := by unfold Pl.aug; simp
 have hget : ∀ i, i < m.length → (Pl.aug m b).getD i [] = m.getD i [] ++ [b.getD i 0] := fun i hi => by
  unfold Pl.aug
  rw [List.getD_eq_getElem?_getD, List.getElem?_map, List.getElem?_range hi]; rfl
 have hr : ∀ r ∈ Pl.aug m b, r.length = Pl.wide m + 1 ∧ ∀ x ∈ r, Pl.inQ q x := fun r hr => by
  unfold Pl.aug at hr
  obtain ⟨i, hi, rfl⟩ := List.mem_map.1 hr
  have hi := List.mem_range.1 hi
  obtain ⟨u1, u2⟩ := s3 _ (rowD_mem hi)
  refine ⟨by rw [List.length_append, u1]; rfl, fun x hx => ?_⟩
  rcases List.mem_append.1 hx with h | h
  ·exact u2 x h
  ·rw [List.mem_singleton.1 h]; exact getD_inQ hbi (by omega)
 have hw1 : 0 < m.length → Pl.wide (Pl.aug m b) = Pl.wide m + 1 := fun h => (hr _ (rowD_mem (show 0 < (Pl.aug m b).length by omega))).1
 refine ⟨shape_of (by omega) ?_ fun r h => ⟨by rw [(hr r h).1, hw1 (by have := List.length_pos_of_mem h; omega)], (hr r h).2⟩, hl, hw1, fun i hi j hj => ?_⟩
 ·rcases Nat.eq_zero_or_pos m.length with e | e
  ·rw [List.length_eq_zero_iff.1 (show (Pl.aug m b).length = 0 by omega)]; exact Nat.zero_le _
  ·rw [hw1 e]; omega
 ·rw [hget i hi]
  have u1 := (s3 _ (rowD_mem hi)).1
  rcases Nat.lt_or_ge j (Pl.wide m) with h | h
  ·rw [matW_m hq hs hb hbi hi h, List.getD_eq_getElem?_getD, List.getElem?_append_left (by omega), ← List.getD_eq_getElem?_getD]
  ·have : j = Pl.wide m := by omega
   subst this
   rw [matW_b hq hs hb hbi hi, List.getD_eq_getElem?_getD, List.getElem?_append_right (by omega), u1, Nat.sub_self]; rfl
theorem ech_aug (hw : Pl.wide m ≤ 60) (h0 : 0 < m.length) : Pl.echelon q (Pl.aug m b) = rowsG (gs hq m b (Pl.wide m + 1)).2.length (Pl.wide m + 1) (gs hq m b (Pl.wide m + 1)).1 := by
 obtain ⟨a1, a2, a3, a4⟩ := aug_ok hq hs hb hbi hw
 have e := echelon_gs hq a1 []
 unfold gs at e
 rw [a2, a3 h0] at e
 rw [e]
 have hag : ∀ i, i < m.length → ∀ j, j < Pl.wide m + 1 → matW hq (Pl.aug m b) [] i j = matW hq m b i j := fun i hi j hj => by
  rw [matW_lt (by rw [a3 h0]; exact hj)]
  refine KQ.ext ?_
  rw [a4 i hi j hj, mk0_val hq (matW hq m b i j).ok]
 obtain ⟨c1, c2⟩ := La.run_congr hag (Pl.wide m + 1) (Nat.le_refl _)
 unfold gs
 rw [c1]
 have hle := (La.run_ech (n := m.length) (M := matW hq m b) (Pl.wide m + 1)).len
 refine rows_ext rowsG_len.1 rowsG_len.1 rowsG_len.2 rowsG_len.2 fun i hi j hj => ?_
 rw [rowsG_getD hi hj, rowsG_getD hi hj, c2 i (by omega) j hj]
end
end Fd
end
section
set_option linter.unusedVariables false
set_option linter.unusedSimpArgs false
set_option linter.unusedSectionVars false
set_option maxRecDepth 100000
namespace Fd
open Go Fw Go.Proofs

theorem sol_eq {q : Int} {b : List Int} (X : List Nat) (T : List (List Int)) (DD : List (List Int)) (n : Nat) : ∀ (k : Nat) (x : List Int), (∀ t, k ≤ t → t < X.length → Pl.firstL (T.getD t []) = X.getD t 0 ∧ X.getD t 0 ≠ n ∧ (T.getD t []).getD n 0 = Pl.dot q (DD.getD t []) b) →
  T.length = X.length → X.length ≤ DD.length → ∀ d, d + k = X.length → Pl.rsL n (T.drop k) x = (Pl.solL q b (icast (X.drop k)) (DD.drop k) x, true) := by
 intro k x h hT hD d
 induction d generalizing k x with
 | zero =>
  intro e
  rw [List.drop_of_length_le (by omega), List.drop_of_length_le (show X.length ≤ k by omega)]; rfl
 | succ d ih =>
  intro e
  have hk : k < X.length := by omega
  obtain ⟨h1, h2, h3⟩ := h k (Nat.le_refl _) hk
  rw [drop_cons [] (show k < T.length by omega), drop_cons 0 hk, drop_cons [] (show k < DD.length by omega), Pl.rsL, h1, if_neg h2, h3]
  show _ = (Pl.solL q b (((X.getD k 0 : Nat) : Int) :: icast (X.drop (k + 1))) _ x, true)
  rw [Pl.solL, Int.toNat_natCast]
  exact ih (k + 1) _ (fun t h1 h2 => h t (by omega) h2) (by omega)
theorem rsL_no (n : Nat) (T : List (List Int)) : ∀ (x : List Int), (∃ r ∈ T, Pl.firstL r = n) → Pl.rsL n T x = ([], false) := by
 induction T with
 | nil => rintro x ⟨r, h, _⟩; cases h
 | cons r T ih =>
  intro x h
  rw [Pl.rsL]
  by_cases e : Pl.firstL r = n
  ·rw [if_pos e]
  ·rw [if_neg e]
   obtain ⟨r', h1, h2⟩ := h
   rcases List.mem_cons.1 h1 with h1 | h1
   ·subst h1; exact absurd h2 e
   ·exact ih _ ⟨r', h1, h2⟩
section
variable {q : Int} (hq : isQ q) {m : List (List Int)} (hs : Pl.shape q m = 0) {b : List Int} (hb : b.length = m.length) (hbi : ∀ y ∈ b, Pl.inQ q y)
include hq hs hb hbi
theorem first_row (c : Nat) (hc : c ≤ Pl.wide m + 1) {t : Nat} (ht : t < (gs hq m b c).2.length) (n : Nat) (hn : (gs hq m b c).2.getD t 0 < n) : Pl.firstL ((List.range n).map fun j => ((gs hq m b c).1 t j).v) = (gs hq m b c).2.getD t 0 := by
 have E := La.run_ech (n := m.length) (M := matW hq m b) c
 have hle : (gs hq m b c).2.length ≤ m.length := E.len
 have hg : ∀ j, j < n → ((List.range n).map fun j => ((gs hq m b c).1 t j).v).getD j 0 = ((gs hq m b c).1 t j).v := fun j hj => by
  simp [List.getD_eq_getElem?_getD, hj]
 refine firstL_at _ _ (by simpa using hn) (fun j hj => ?_) ?_
 ·rw [hg j (by omega)]
  exact KQ.zero_iff.1 (E.lead t ht j hj)
 ·rw [hg _ hn]
  have h1 : (gs hq m b c).1 t ((gs hq m b c).2.getD t 0) = 1 := by
   have := E.unit t ht t (by omega)
   rwa [if_pos rfl] at this
  rw [h1, KQ.one_val]; omega
theorem den_drop (k : Nat) : ∀ d : Nat, d + k = m.length → (Pl.denL q b (((List.range m.length).map fun i => (List.range m.length).map fun j => ((gs hq m b (Pl.wide m)).1 i (Pl.wide m + 1 + j)).v).drop k) = none ↔ ∀ i, k ≤ i → i < m.length → (gs hq m b (Pl.wide m)).1 i (Pl.wide m) = 0) ∧
  ∀ w, Pl.denL q b (((List.range m.length).map fun i => (List.range m.length).map fun j => ((gs hq m b (Pl.wide m)).1 i (Pl.wide m + 1 + j)).v).drop k) = some w → ∃ i, k ≤ i ∧ i < m.length ∧ (gs hq m b (Pl.wide m)).1 i (Pl.wide m) ≠ 0 ∧ w = (List.range m.length).map fun j => ((gs hq m b (Pl.wide m)).1 i (Pl.wide m + 1 + j)).v := by
 intro d
 induction d generalizing k with
 | zero =>
  intro h
  have : k = m.length := by omega
  subst this
  rw [List.drop_of_length_le (by simp), Pl.denL]
  exact ⟨⟨fun _ i h1 h2 => by omega, fun _ => rfl⟩, fun w hw => by cases hw⟩
 | succ d ih =>
  intro h
  have hk : k < m.length := by omega
  obtain ⟨i1, i2⟩ := ih (k + 1) (by omega)
  have e : ((List.range m.length).map fun i => (List.range m.length).map fun j => ((gs hq m b (Pl.wide m)).1 i (Pl.wide m + 1 + j)).v).drop k = ((List.range m.length).map fun j => ((gs hq m b (Pl.wide m)).1 k (Pl.wide m + 1 + j)).v) :: ((List.range m.length).map fun i => (List.range m.length).map fun j => ((gs hq m b (Pl.wide m)).1 i (Pl.wide m + 1 + j)).v).drop (k + 1) := by
   rw [List.drop_eq_getElem_cons (by simpa using hk)]
   simp
  rw [e, Pl.denL, dot_done hq hs hb hbi (Pl.wide m) hk]
  by_cases hz : (gs hq m b (Pl.wide m)).1 k (Pl.wide m) = 0
  ·rw [decide_eq_false (show ¬ ((gs hq m b (Pl.wide m)).1 k (Pl.wide m)).v ≠ 0 from fun hh => hh (KQ.zero_iff.1 hz)), cond_false]
   refine ⟨⟨fun hh i h1 h2 => ?_, fun hh => i1.2 fun i h1 h2 => hh i (by omega) h2⟩, fun w hw => ?_⟩
   ·by_cases ei : i = k
    ·rw [ei]; exact hz
    ·exact i1.1 hh i (by omega) h2
   ·obtain ⟨i, a1, a2, a3⟩ := i2 w hw
    exact ⟨i, by omega, a2, a3⟩
  ·rw [decide_eq_true (show ((gs hq m b (Pl.wide m)).1 k (Pl.wide m)).v ≠ 0 from fun hh => hz (KQ.zero_iff.2 hh)), cond_true]
   exact ⟨⟨(fun hh => by cases hh), fun hh => absurd (hh k (Nat.le_refl _) hk) hz⟩, fun w hw => ⟨k, Nat.le_refl _, hk, hz, (Option.some.inj hw).symm⟩⟩
theorem den_spec : (Pl.den q m b = none ↔ ∀ i, (gs hq m b (Pl.wide m)).2.length ≤ i → i < m.length → (gs hq m b (Pl.wide m)).1 i (Pl.wide m) = 0) ∧
  ∀ w, Pl.den q m b = some w → ∃ i, (gs hq m b (Pl.wide m)).2.length ≤ i ∧ i < m.length ∧ (gs hq m b (Pl.wide m)).1 i (Pl.wide m) ≠ 0 ∧ w = (List.range m.length).map fun j => ((gs hq m b (Pl.wide m)).1 i (Pl.wide m + 1 + j)).v := by
 obtain ⟨e1, _, e3⟩ := ech_gs hq hs b
 unfold Pl.den
 rw [e1, e3, icast_len]
 have hle := (La.run_ech (n := m.length) (M := matW hq m b) (Pl.wide m)).len
 have hle : (gs hq m b (Pl.wide m)).2.length ≤ m.length := hle
 exact den_drop hq hs hb hbi _ (m.length - (gs hq m b (Pl.wide m)).2.length) (by omega)
theorem solves (hw : Pl.wide m ≤ 60) : (Pl.den q m b = none ∧ Pl.rsolve q m b = (Pl.sol q m b, true)) ∨ (∃ w, Pl.den q m b = some w ∧ Pl.rsolve q m b = ([], false) ∧ Pl.denies q m b w = true) := by
 obtain ⟨s1, s2, s3⟩ := shape_0 hs
 rcases Nat.eq_zero_or_pos m.length with e0 | h0
 ·have e : m = [] := List.length_eq_zero_iff.1 e0
  subst e
  left
  exact ⟨rfl, rfl⟩
 obtain ⟨D1, D2⟩ := den_spec hq hs hb hbi
 have E := La.run_ech (n := m.length) (M := matW hq m b) (Pl.wide m)
 have hle := E.len
 obtain ⟨p1, p2, p3, p4⟩ := La.pv_spec (M := (La.run m.length (matW hq m b) (Pl.wide m)).1) (c := Pl.wide m) hle
 have hT : gs hq m b (Pl.wide m + 1) = La.step m.length (gs hq m b (Pl.wide m)) (Pl.wide m) := rfl
 unfold La.step at hT
 have hA := ech_aug hq hs hb hbi hw h0
 obtain ⟨e1, _, e3⟩ := ech_gs hq hs b
 by_cases hc : La.pv (gs hq m b (Pl.wide m)).1 m.length (Pl.wide m) (gs hq m b (Pl.wide m)).2.length = m.length
 ·left
  rw [if_pos hc] at hT
  have hz : ∀ i, (gs hq m b (Pl.wide m)).2.length ≤ i → i < m.length → (gs hq m b (Pl.wide m)).1 i (Pl.wide m) = 0 := fun i h1 h2 => by
   have hc : La.pv (La.run m.length (matW hq m b) (Pl.wide m)).1 m.length (Pl.wide m) (La.run m.length (matW hq m b) (Pl.wide m)).2.length = m.length := hc
   rw [hc] at p3
   exact p3 i h1 h2
  refine ⟨D1.2 hz, ?_⟩
  unfold Pl.rsolve Pl.sol
  rw [hA, hT, e1, e3]
  have := sol_eq (q := q) (b := b) (gs hq m b (Pl.wide m)).2 (rowsG (gs hq m b (Pl.wide m)).2.length (Pl.wide m + 1) (gs hq m b (Pl.wide m)).1) (rowsG m.length m.length fun i j => (gs hq m b (Pl.wide m)).1 i (Pl.wide m + 1 + j)) (Pl.wide m) 0 (List.replicate (Pl.wide m) 0) (fun t _ ht => ?_) rowsG_len.1 (by rw [rowsG_len.1]; exact hle) (gs hq m b (Pl.wide m)).2.length rfl
  ·rw [List.drop_zero, List.drop_zero, List.drop_zero] at this
   exact this
  ·have hlt := La.getD_lt E.lt ht
   have hlt : (gs hq m b (Pl.wide m)).2.getD t 0 < Pl.wide m := hlt
   have hle : (gs hq m b (Pl.wide m)).2.length ≤ m.length := hle
   have g1 : (rowsG (gs hq m b (Pl.wide m)).2.length (Pl.wide m + 1) (gs hq m b (Pl.wide m)).1).getD t [] = (List.range (Pl.wide m + 1)).map fun j => ((gs hq m b (Pl.wide m)).1 t j).v := by
    unfold rowsG
    rw [List.getD_eq_getElem?_getD, List.getElem?_map, List.getElem?_range ht]; rfl
   have g2 : (rowsG m.length m.length fun i j => (gs hq m b (Pl.wide m)).1 i (Pl.wide m + 1 + j)).getD t [] = (List.range m.length).map fun k => ((gs hq m b (Pl.wide m)).1 t (Pl.wide m + 1 + k)).v := by
    unfold rowsG
    rw [List.getD_eq_getElem?_getD, List.getElem?_map, List.getElem?_range (by omega)]; rfl
   refine ⟨?_, by omega, ?_⟩
   ·rw [g1]
    exact first_row hq hs hb hbi (Pl.wide m) (by omega) ht _ (by omega)
   ·rw [g2, dot_done hq hs hb hbi (Pl.wide m) (by omega), rowsG_getD ht (by omega)]
 ·right
  rw [if_neg hc] at hT
  have hlt : La.pv (gs hq m b (Pl.wide m)).1 m.length (Pl.wide m) (gs hq m b (Pl.wide m)).2.length < m.length := by
   have : La.pv (gs hq m b (Pl.wide m)).1 m.length (Pl.wide m) (gs hq m b (Pl.wide m)).2.length ≤ m.length := p2
   omega
  have hnz := p4 hlt
  have hd : Pl.den q m b ≠ none := fun hh => hnz (D1.1 hh _ p1 hlt)
  obtain ⟨w, hwd⟩ : ∃ w, Pl.den q m b = some w := by
   cases hh : Pl.den q m b with
   | none => exact absurd hh hd
   | some w => exact ⟨w, rfl⟩
  obtain ⟨i, i1, i2, i3, i4⟩ := D2 w hwd
  refine ⟨w, hwd, ?_, ?_⟩
  ·unfold Pl.rsolve
   refine rsL_no _ _ _ ⟨(List.range (Pl.wide m + 1)).map fun j => ((gs hq m b (Pl.wide m + 1)).1 (gs hq m b (Pl.wide m)).2.length j).v, ?_, ?_⟩
   ·rw [hA]
    unfold rowsG
    refine List.mem_map.2 ⟨(gs hq m b (Pl.wide m)).2.length, List.mem_range.2 ?_, rfl⟩
    rw [hT]
    show _ < (_ ++ [_]).length
    rw [List.length_append]; simp
   ·have hl : (gs hq m b (Pl.wide m + 1)).2.getD (gs hq m b (Pl.wide m)).2.length 0 = Pl.wide m := by
     rw [hT]
     show (_ ++ [Pl.wide m]).getD _ 0 = _
     rw [List.getD_eq_getElem?_getD, List.getElem?_append_right (Nat.le_refl _), Nat.sub_self]; rfl
    have := first_row hq hs hb hbi (Pl.wide m + 1) (Nat.le_refl _) (t := (gs hq m b (Pl.wide m)).2.length) (by rw [hT]; show _ < (_ ++ [_]).length; rw [List.length_append]; simp) (Pl.wide m + 1) (by rw [hl]; omega)
    rw [this, hl]
  ·have hwl : w.length = m.length := by rw [i4]; simp
   have hsys : Pl.sys q m b = 0 := by
    unfold Pl.sys
    rw [decide_eq_false (not_not_intro hs), decide_eq_false (not_not_intro hb), els_of hbi]; rfl
   have hwi : Pl.els q w = true := els_of fun x hx => by
    rw [i4] at hx
    obtain ⟨j, _, rfl⟩ := List.mem_map.1 hx
    exact ((gs hq m b (Pl.wide m)).1 i (Pl.wide m + 1 + j)).ok
   unfold Pl.denies
   rw [decide_eq_false (not_not_intro hsys), decide_eq_false (not_not_intro hwl), hwi, decide_eq_false (show ¬ m.length = 0 by omega)]
   have hcol : ∀ f j, f + j = Pl.wide m → Pl.cols0 q w m f j = true := by
    intro f
    induction f with
    | zero => intro j _; rfl
    | succ f ih =>
     intro j hj
     rw [Pl.cols0, i4, col_done hq hs hb hbi (Pl.wide m) i2 (show j < Pl.wide m by omega)]
     have hz : (gs hq m b (Pl.wide m)).1 i j = 0 := E.low i i1 i2 j (by omega)
     rw [hz, KQ.zero_val]
     rw [i4] at ih
     exact ih (j + 1) (by omega)
   have hdot : Pl.dot q w b ≠ 0 := by
    rw [i4, dot_done hq hs hb hbi (Pl.wide m) i2]
    exact fun hh => i3 (KQ.zero_iff.2 hh)
   rw [hcol _ 0 (by omega), decide_eq_true hdot]; rfl
end
end Fd
end
section
set_option linter.unusedVariables false
set_option linter.unusedSimpArgs false
set_option linter.unusedSectionVars false
set_option maxRecDepth 100000
namespace Fd
open Go Fw Go.Proofs

theorem aug_rows {q : Int} (hq : isQ q) {m : List (List Int)} (hs : Pl.shape q m = 0) {b : List Int} (hb : b.length = m.length) (hbi : ∀ y ∈ b, Pl.inQ q y) (hw : Pl.wide m ≤ 60) :
  (∀ r ∈ Pl.echelon q (Pl.aug m b), r.length = Pl.wide m + 1 ∧ Pl.firstL r < Pl.wide m + 1) ∧ (Pl.echelon q (Pl.aug m b)).length ≤ m.length := by
 rcases Nat.eq_zero_or_pos m.length with e0 | h0
 ·have e : m = [] := List.length_eq_zero_iff.1 e0
  subst e
  exact ⟨(fun r hr => by cases hr), Nat.le_refl _⟩
 ·rw [ech_aug hq hs hb hbi hw h0]
  refine ⟨fun r hr => ?_, by rw [rowsG_len.1]; exact (La.run_ech (n := m.length) (M := matW hq m b) (Pl.wide m + 1)).len⟩
  refine ⟨rowsG_len.2 r hr, ?_⟩
  unfold rowsG at hr
  obtain ⟨t, ht, rfl⟩ := List.mem_map.1 hr
  have ht := List.mem_range.1 ht
  have hlt := La.getD_lt (La.run_ech (n := m.length) (M := matW hq m b) (Pl.wide m + 1)).lt ht
  have hlt : (gs hq m b (Pl.wide m + 1)).2.getD t 0 < Pl.wide m + 1 := hlt
  rw [first_row hq hs hb hbi (Pl.wide m + 1) (Nat.le_refl _) ht _ hlt]
  exact hlt
theorem vc49 : ∀ x, C49.pre x → VC T49 H49 Try.f49 C49 x := by
 rintro ⟨⟨(q : Int), (p : Int), (k : Int), (m0 : Int), ⟨⟩⟩, (m : List (List Int)), (b : List Int), ⟨⟩⟩ ⟨(h0 : Pl.okr _), (hs : Pl.shape q m = 0), (hw : Pl.wide m ≤ 60), (hb : b.length = m.length), (hbi : ∀ y ∈ b, Pl.inQ q y)⟩
 obtain ⟨hq, _, _, _⟩ := okr_open h0
 refine cast (α := True ∧ ∃ (n : Nat), itl (fun (G : Nat × Int × List (Option (List Int)) × List (Option (List Nat)) × PUnit → Prop) (x : Nat × Int × List (Option (List Int)) × List (Option (List Nat)) × PUnit) => Br (decide (x.2.1 < (↑m.length : Int))) ((0 : Int) ≤ x.2.1 ∧ x.2.1 < (↑m.length : Int) ∧ mal x.2.2.1 (0 : Nat) ∧ ((↑(mrow x.2.2.1 (0 : Nat)).length : Int) + (↑(List.length (rd i64.slc m x.2.1)) : Int)) * (8 : Int) ≤ (140737488355328 : Int) ∧ (0 : Int) ≤ x.2.1 ∧ x.2.1 < (↑b.length : Int) ∧ mal (mnew (mkill x.2.2.1 (0 : Nat)) (mrow x.2.2.1 (0 : Nat) ++ rd i64.slc m x.2.1)) (List.length x.2.2.1 + (1 : Nat)) ∧ ((↑(mrow (mnew (mkill x.2.2.1 (0 : Nat)) (mrow x.2.2.1 (0 : Nat) ++ rd i64.slc m x.2.1)) (List.length x.2.2.1 + (1 : Nat))).length : Int) + (↑[rd i64 b x.2.1].length : Int)) * (8 : Int) ≤ (140737488355328 : Int) ∧ mal x.2.2.2.1 x.1 ∧ ((↑(mrow x.2.2.2.1 x.1).length : Int) + (↑[(mnew (mkill x.2.2.1 (0 : Nat)) (mrow x.2.2.1 (0 : Nat) ++ rd i64.slc m x.2.1)).length + (1 : Nat)].length : Int)) * (24 : Int) ≤ (140737488355328 : Int) ∧ G (List.length x.2.2.2.1 + (1 : Nat), IntKind.i64.wrap (x.2.1 + (1 : Int)), mnew (mkill (mnew (mkill x.2.2.1 (0 : Nat)) (mrow x.2.2.1 (0 : Nat) ++ rd i64.slc m x.2.1)) (List.length x.2.2.1 + (1 : Nat))) (mrow (mnew (mkill x.2.2.1 (0 : Nat)) (mrow x.2.2.1 (0 : Nat) ++ rd i64.slc m x.2.1)) (List.length x.2.2.1 + (1 : Nat)) ++ [rd i64 b x.2.1]), mnew (mkill x.2.2.2.1 x.1) (mrow x.2.2.2.1 x.1 ++ [(mnew (mkill x.2.2.1 (0 : Nat)) (mrow x.2.2.1 (0 : Nat) ++ rd i64.slc m x.2.1)).length + (1 : Nat)]), ())) (mal x.2.2.2.1 x.1 ∧ (∀ (i : (Ty.ref (0 : Nat)).El), i ∈ mrow x.2.2.2.1 x.1 → mal x.2.2.1 i) ∧ (Pl.okr (q, p, k, m0, ()) ∧ Pl.shape q (List.map (mrow x.2.2.1) (mrow x.2.2.2.1 x.1)) = (0 : Int)) ∧ (0 : Int) ≤ (↑(Pl.wide m) : Int) ∧ (↑(Pl.wide m) : Int) = (↑(Pl.wide m) : Int) ∧ (↑(Pl.wide m) : Int) * (8 : Int) ≤ (140737488355328 : Int) ∧ ∃ (n : Nat), itl (fun (G : List Int × Int × List (Option (List Int)) × List (Option (List Nat)) × PUnit → Prop) (x_1 : List Int × Int × List (Option (List Int)) × List (Option (List Nat)) × PUnit) => Br (decide (x_1.2.1 < (↑(Pl.echelon q (List.map (mrow x.2.2.1) (mrow x.2.2.2.1 x.1))).length : Int))) ((0 : Int) ≤ x_1.2.1 ∧ x_1.2.1 < (↑(Pl.echelon q (List.map (mrow x.2.2.1) (mrow x.2.2.2.1 x.1))).length : Int) ∧ List.length (rd i64.slc (Pl.echelon q (List.map (mrow x.2.2.1) (mrow x.2.2.2.1 x.1))) x_1.2.1) ≤ (1000000000 : Nat) ∧ Br ((↑(Pl.firstL (rd i64.slc (Pl.echelon q (List.map (mrow x.2.2.1) (mrow x.2.2.2.1 x.1))) x_1.2.1)) : Int) == (↑(Pl.wide m) : Int)) (([], false, ()) = C49.post ((q, p, k, m0, ()), m, b, ())) ((0 : Int) ≤ x_1.2.1 ∧ x_1.2.1 < (↑(Pl.echelon q (List.map (mrow x.2.2.1) (mrow x.2.2.2.1 x.1))).length : Int) ∧ (0 : Int) ≤ (↑(Pl.wide m) : Int) ∧ (↑(Pl.wide m) : Int) < (↑(List.length (rd i64.slc (Pl.echelon q (List.map (mrow x.2.2.1) (mrow x.2.2.2.1 x.1))) x_1.2.1)) : Int) ∧ (0 : Int) ≤ (↑(Pl.firstL (rd i64.slc (Pl.echelon q (List.map (mrow x.2.2.1) (mrow x.2.2.2.1 x.1))) x_1.2.1)) : Int) ∧ (↑(Pl.firstL (rd i64.slc (Pl.echelon q (List.map (mrow x.2.2.1) (mrow x.2.2.2.1 x.1))) x_1.2.1)) : Int) < (↑(List.length x_1.1) : Int) ∧ (0 : Int) ≤ (↑(Pl.firstL (rd i64.slc (Pl.echelon q (List.map (mrow x.2.2.1) (mrow x.2.2.2.1 x.1))) x_1.2.1)) : Int) ∧ (↑(Pl.firstL (rd i64.slc (Pl.echelon q (List.map (mrow x.2.2.1) (mrow x.2.2.2.1 x.1))) x_1.2.1)) : Int) < (↑(List.length x_1.1) : Int) ∧ G (List.set x_1.1 (↑(Pl.firstL (rd i64.slc (Pl.echelon q (List.map (mrow x.2.2.1) (mrow x.2.2.2.1 x.1))) x_1.2.1)) : Int).toNat (rd i64 (rd i64.slc (Pl.echelon q (List.map (mrow x.2.2.1) (mrow x.2.2.2.1 x.1))) x_1.2.1) (↑(Pl.wide m) : Int)), IntKind.i64.wrap (x_1.2.1 + (1 : Int)), x_1.2.2))) ((x_1.1, true, ()) = C49.post ((q, p, k, m0, ()), m, b, ()))) n (List.replicate (↑(Pl.wide m) : Int).toNat (0 : Int), (0 : Int), List.map (fun (x : Option (List i64.El)) => none) x.2.2.1, List.map (fun (x : Option (List (Ty.ref (0 : Nat)).El)) => none) x.2.2.2.1, ()))) n ((0 : Nat), (0 : Int), [], [], ())) (by kernel_rfl) ?_
 obtain ⟨s1, s2, s3⟩ := shape_0 hs
 have hp : C49.post ((q, p, k, m0, ()), m, b, ()) = ((Pl.rsolve q m b).1, (Pl.rsolve q m b).2, ()) := rfl
 rw [hp]
 obtain ⟨a1, a2, a3, a4⟩ := aug_ok hq hs hb hbi hw
 obtain ⟨hrows, hElb⟩ := aug_rows hq hs hb hbi hw
 refine ⟨trivial, itl_rule (fun (s : Nat × Int × XS × OS × PUnit) => ∃ i : Nat, i ≤ m.length ∧ s.2.1 = (i : Int) ∧ s.2.2.1.length = 2 * i ∧ (∀ t, t < i → s.2.2.1[2 * t + 1]? = some (some (m.getD t [] ++ [b.getD t 0]))) ∧ mal s.2.2.2.1 s.1 ∧ mrow s.2.2.2.1 s.1 = (List.range i).map (fun t => 2 * t + 2)) (fun s => m.length - s.2.1.toNat)
  ⟨0, Nat.zero_le _, rfl, rfl, fun t ht => by omega, trivial, rfl⟩ ?_⟩
 rintro ⟨R, i0, xs, os, ⟨⟩⟩ G ⟨i, hi, e, hx, hxs, hm, hr⟩ hG
 simp only at e hx hxs hm hr hG ⊢
 subst e
 refine Br_of (fun h => ?_) (fun h => ?_)
 ·have h : i < m.length := by have := of_decide_eq_true h; omega
  have hk : mkill xs 0 = xs := rfl
  have hr0 : mrow xs 0 = [] := rfl
  have hlen := (s3 _ (rowD_mem h)).1
  rw [rd_r, rd_i, wrap_i64 (by omega) (by omega), hk, hr0, hr]
  obtain ⟨c1, c2⟩ := row_at (ms := mnew xs ([] ++ m.getD i [])) (j := List.length xs) (xs := [] ++ m.getD i []) (by unfold mnew; rw [List.getElem?_append_right (Nat.le_refl _)]; simp)
  rw [c2, hlen]
  have hz : mkill (mnew xs ([] ++ m.getD i [])) (List.length xs + 1) = xs ++ [none] := by
   unfold mnew
   show (xs ++ [some ([] ++ m.getD i [])]).set xs.length none = _
   rw [List.set_append_right _ _ (Nat.le_refl _), Nat.sub_self]; rfl
  have hl2 : (mnew xs ([] ++ m.getD i [])).length = 2 * i + 1 := by unfold mnew; rw [List.length_append, hx]; rfl
  rw [hz, hl2]
  refine ⟨by omega, by omega, trivial, by simp only [List.length_nil]; omega, by omega, by omega, c1, by simp only [List.length_nil, List.length_append, List.length_singleton, hlen]; omega, hm, by rw [List.length_map, List.length_range]; simp only [List.length_singleton]; omega, hG _ ⟨i + 1, h, rfl, ?_, fun t ht => ?_, ?_⟩ (by simp only; omega)⟩
  ·show ((xs ++ [none]) ++ [some ([] ++ m.getD i [] ++ [b.getD i 0])]).length = 2 * (i + 1)
   rw [List.length_append, List.length_append, hx]; simp only [List.length_singleton]; omega
  ·show ((xs ++ [none]) ++ [some ([] ++ m.getD i [] ++ [b.getD i 0])])[2 * t + 1]? = _
   by_cases et : t = i
   ·subst et
    rw [List.getElem?_append_right (by rw [List.length_append, hx]; simp), List.length_append, hx]
    simp
   ·rw [List.getElem?_append_left (by rw [List.length_append, hx]; simp; omega), List.getElem?_append_left (by omega)]; exact hxs t (by omega)
  ·obtain ⟨a, b⟩ := row_at (ms := mnew (mkill os R) ((List.range i).map (fun t => 2 * t + 2) ++ [2 * i + 1 + 1])) (j := os.length) (xs := (List.range i).map (fun t => 2 * t + 2) ++ [2 * i + 1 + 1]) (by unfold mnew; rw [List.getElem?_append_right (by rw [mkill_length]; exact Nat.le_refl _), mkill_length]; simp)
   refine ⟨a, ?_⟩
   rw [b, List.range_succ, List.map_append]; rfl
 ·have h : i = m.length := by have := of_decide_eq_false h; omega
  subst h
  have hA : List.map (mrow xs) (mrow os R) = Pl.aug m b := by
   rw [hr, List.map_map]
   unfold Pl.aug
   refine List.map_congr_left fun t ht => ?_
   exact (row_at (hxs t (List.mem_range.1 ht))).2
  rw [hA]
  refine ⟨hm, fun i hi => ?_, ⟨h0, a1⟩, by omega, trivial, by omega, ?_⟩
  ·rw [hr] at hi
   obtain ⟨t, ht, rfl⟩ := List.mem_map.1 hi
   exact (row_at (hxs t (List.mem_range.1 ht))).1
  generalize List.map (fun (x : Option (List i64.El)) => none) xs = XX
  generalize List.map (fun (x : Option (List (Ty.ref (0 : Nat)).El)) => none) os = YY
  unfold Pl.rsolve
  generalize Pl.echelon q (Pl.aug m b) = E at *
  rw [Int.toNat_natCast]
  refine itl_rule (fun s => ∃ (t : Nat) (x : List Int), t ≤ E.length ∧ s = (x, (t : Int), XX, YY, ()) ∧ x.length = Pl.wide m ∧ Pl.rsL (Pl.wide m) (E.drop t) x = Pl.rsL (Pl.wide m) E (List.replicate (Pl.wide m) 0)) (fun s => E.length - s.2.1.toNat)
   ⟨0, _, Nat.zero_le _, rfl, List.length_replicate, rfl⟩ ?_
  rintro x G1 ⟨t, x, ht, rfl, hxl, hx⟩ hG1
  simp only
  refine Br_of (fun h1 => ?_) (fun h1 => ?_)
  ·have h1 : t < E.length := by have := of_decide_eq_true h1; omega
   obtain ⟨r1, r2⟩ := hrows _ (rowD_mem h1)
   rw [rd_r]
   rw [drop_cons [] h1, Pl.rsL] at hx
   refine ⟨by omega, by omega, by omega, Br_of (fun h2 => ?_) (fun h2 => ?_)⟩
   ·have h2 : Pl.firstL (E.getD t []) = Pl.wide m := by have := eq_of_beq h2; omega
    rw [if_pos h2] at hx
    rw [← hx]
   ·have h2 : Pl.firstL (E.getD t []) ≠ Pl.wide m := fun e => by rw [e] at h2; simp at h2
    rw [if_neg h2] at hx
    rw [rd_i, Int.toNat_natCast]
    rw [wrap_i64 (by omega) (by omega)]
    exact ⟨by omega, by omega, by omega, by omega, by omega, by omega, by omega, by omega, hG1 _ ⟨t + 1, _, h1, rfl, by rw [List.length_set]; exact hxl, hx⟩ (by simp only; omega)⟩
  ·have h1 : t = E.length := by have := of_decide_eq_false h1; omega
   subst h1
   rw [List.drop_length, Pl.rsL] at hx
   rw [← hx]
theorem snd49 : Sound Try.prog 49 C49 := fn_sound (T := T49) (fn := Try.f49) (tokg (T := T49) ⟨snd21, snd48, snd103, trivial⟩ trivial trivial noInv noCv) Try.func49 (by kernel_rfl) H49 vc49 (by kernel_rfl)
theorem vc9 : ∀ x, C9.pre x → VC T9 H9 Try.f9 C9 x := by
 rintro ⟨(o : Int), (l : List (List Int)), (b : List Int), ⟨⟩⟩ -
 refine cast (α := True ∧ (Pl.okr (Pl.someQ o (300 : Int), Pl.lpf (Pl.someQ o (300 : Int)), Pl.K (Pl.someQ o (300 : Int)), Pl.Mod (Pl.someQ o (300 : Int)), ()) ∧ Pl.most (8 : Int)) ∧ (Pl.okF (D.rptr (fieldC (Pl.someQ o (300 : Int)))) ∧ Pl.okMM (Pl.tame (Pl.someQ o (300 : Int)) l (Int.toNat (8 : Int))) ∧ Pl.shape (Pl.qF (D.rptr (fieldC (Pl.someQ o (300 : Int))))) (Pl.tame (Pl.someQ o (300 : Int)) l (Int.toNat (8 : Int))) = (0 : Int)) ∧ (Pl.okr (Pl.someQ o (300 : Int), Pl.lpf (Pl.someQ o (300 : Int)), Pl.K (Pl.someQ o (300 : Int)), Pl.Mod (Pl.someQ o (300 : Int)), ()) ∧ Pl.shape (Pl.someQ o (300 : Int)) (Pl.tame (Pl.someQ o (300 : Int)) l (Int.toNat (8 : Int))) = (0 : Int)) ∧ (Pl.echelon (Pl.qF (D.rptr (fieldC (Pl.someQ o (300 : Int))))) (Pl.tame (Pl.someQ o (300 : Int)) l (Int.toNat (8 : Int))) = Pl.echelon (Pl.someQ o (300 : Int)) (Pl.tame (Pl.someQ o (300 : Int)) l (Int.toNat (8 : Int))) ∧ Pl.okMM (Pl.echelon (Pl.qF (D.rptr (fieldC (Pl.someQ o (300 : Int))))) (Pl.tame (Pl.someQ o (300 : Int)) l (Int.toNat (8 : Int))))) ∧ (Pl.okr (Pl.someQ o (300 : Int), Pl.lpf (Pl.someQ o (300 : Int)), Pl.K (Pl.someQ o (300 : Int)), Pl.Mod (Pl.someQ o (300 : Int)), ()) ∧ Pl.most (↑(Pl.tame (Pl.someQ o (300 : Int)) l (Int.toNat (8 : Int))).length : Int)) ∧ ∃ (n : Nat), itl (fun (G : List Int × PUnit → Prop) (x : List Int × PUnit) => Br (decide ((↑(List.length x.1) : Int) < (↑(Pl.tame (Pl.someQ o (300 : Int)) l (Int.toNat (8 : Int))).length : Int))) (((↑(List.length x.1) : Int) + (↑[(1 : Int)].length : Int)) * (8 : Int) ≤ (140737488355328 : Int) ∧ G (List.append x.1 [(1 : Int)], ())) ((Pl.okSy (D.rptr (fieldC (Pl.someQ o (300 : Int))), Pl.tame (Pl.someQ o (300 : Int)) l (Int.toNat (8 : Int)), x) ∧ True) ∧ (Pl.okSy (D.rptr (fieldC (Pl.someQ o (300 : Int))), Pl.tame (Pl.someQ o (300 : Int)) l (Int.toNat (8 : Int)), x) ∧ True) ∧ (Pl.okr (Pl.someQ o (300 : Int), Pl.lpf (Pl.someQ o (300 : Int)), Pl.K (Pl.someQ o (300 : Int)), Pl.Mod (Pl.someQ o (300 : Int)), ()) ∧ Pl.shape (Pl.someQ o (300 : Int)) (Pl.tame (Pl.someQ o (300 : Int)) l (Int.toNat (8 : Int))) = (0 : Int) ∧ Pl.wide (Pl.tame (Pl.someQ o (300 : Int)) l (Int.toNat (8 : Int))) ≤ (60 : Nat) ∧ x.1.length = (Pl.tame (Pl.someQ o (300 : Int)) l (Int.toNat (8 : Int))).length ∧ ∀ (y : Int), y ∈ x.1 → Pl.inQ (Pl.someQ o (300 : Int)) y) ∧ Br (Pl.rsolve (Pl.someQ o (300 : Int)) (Pl.tame (Pl.someQ o (300 : Int)) l (Int.toNat (8 : Int))) x.1).2 (Br ((Pl.solve (Pl.qF (D.rptr (fieldC (Pl.someQ o (300 : Int))))) (Pl.tame (Pl.someQ o (300 : Int)) l (Int.toNat (8 : Int))) x.1).2 == (0 : Int)) ((Pl.solve (Pl.qF (D.rptr (fieldC (Pl.someQ o (300 : Int))))) (Pl.tame (Pl.someQ o (300 : Int)) l (Int.toNat (8 : Int))) x.1).1.length ≤ (1000000000 : Nat) ∧ Br (Pl.same (Pl.solve (Pl.qF (D.rptr (fieldC (Pl.someQ o (300 : Int))))) (Pl.tame (Pl.someQ o (300 : Int)) l (Int.toNat (8 : Int))) x.1).1 (Pl.rsolve (Pl.someQ o (300 : Int)) (Pl.tame (Pl.someQ o (300 : Int)) l (Int.toNat (8 : Int))) x.1).1) (Br (!(Pl.deny (Pl.qF (D.rptr (fieldC (Pl.someQ o (300 : Int))))) (Pl.tame (Pl.someQ o (300 : Int)) l (Int.toNat (8 : Int))) x.1).2) (Br ((↑(Pl.deny (Pl.qF (D.rptr (fieldC (Pl.someQ o (300 : Int))))) (Pl.tame (Pl.someQ o (300 : Int)) l (Int.toNat (8 : Int))) x.1).1.length : Int) == (0 : Int)) (True ∧ (true, ()) = C9.post (o, l, b, ())) ((false, ()) = C9.post (o, l, b, ()))) ((false, ()) = C9.post (o, l, b, ()))) ((false, ()) = C9.post (o, l, b, ()))) ((false, ()) = C9.post (o, l, b, ()))) (Br ((Pl.solve (Pl.qF (D.rptr (fieldC (Pl.someQ o (300 : Int))))) (Pl.tame (Pl.someQ o (300 : Int)) l (Int.toNat (8 : Int))) x.1).2 == (4 : Int)) (Br ((↑(Pl.solve (Pl.qF (D.rptr (fieldC (Pl.someQ o (300 : Int))))) (Pl.tame (Pl.someQ o (300 : Int)) l (Int.toNat (8 : Int))) x.1).1.length : Int) == (0 : Int)) (Br (Pl.deny (Pl.qF (D.rptr (fieldC (Pl.someQ o (300 : Int))))) (Pl.tame (Pl.someQ o (300 : Int)) l (Int.toNat (8 : Int))) x.1).2 ((Pl.okr (Pl.someQ o (300 : Int), Pl.lpf (Pl.someQ o (300 : Int)), Pl.K (Pl.someQ o (300 : Int)), Pl.Mod (Pl.someQ o (300 : Int)), ()) ∧ Pl.okMM (Pl.tame (Pl.someQ o (300 : Int)) l (Int.toNat (8 : Int))) ∧ x.1.length ≤ (1000000000 : Nat) ∧ (Pl.deny (Pl.qF (D.rptr (fieldC (Pl.someQ o (300 : Int))))) (Pl.tame (Pl.someQ o (300 : Int)) l (Int.toNat (8 : Int))) x.1).1.length ≤ (1000000000 : Nat)) ∧ Br (Pl.denies (Pl.someQ o (300 : Int)) (Pl.tame (Pl.someQ o (300 : Int)) l (Int.toNat (8 : Int))) x.1 (Pl.deny (Pl.qF (D.rptr (fieldC (Pl.someQ o (300 : Int))))) (Pl.tame (Pl.someQ o (300 : Int)) l (Int.toNat (8 : Int))) x.1).1) ((Pl.okF (D.rptr (fieldC (Pl.someQ o (300 : Int)))) ∧ Pl.okMM (Pl.tame (Pl.someQ o (300 : Int)) l (Int.toNat (8 : Int))) ∧ x.1.length ≤ (1000000000 : Nat) ∧ (Pl.deny (Pl.qF (D.rptr (fieldC (Pl.someQ o (300 : Int))))) (Pl.tame (Pl.someQ o (300 : Int)) l (Int.toNat (8 : Int))) x.1).1.length ≤ (1000000000 : Nat)) ∧ Br (Pl.denies (Pl.qF (D.rptr (fieldC (Pl.someQ o (300 : Int))))) (Pl.tame (Pl.someQ o (300 : Int)) l (Int.toNat (8 : Int))) x.1 (Pl.deny (Pl.qF (D.rptr (fieldC (Pl.someQ o (300 : Int))))) (Pl.tame (Pl.someQ o (300 : Int)) l (Int.toNat (8 : Int))) x.1).1) (True ∧ (true, ()) = C9.post (o, l, b, ())) ((false, ()) = C9.post (o, l, b, ()))) ((false, ()) = C9.post (o, l, b, ()))) ((false, ()) = C9.post (o, l, b, ()))) ((false, ()) = C9.post (o, l, b, ()))) ((false, ()) = C9.post (o, l, b, ()))))) n (List.map (fun (x : i64.El) => x % Pl.someQ o (300 : Int)) (List.take (↑(Pl.tame (Pl.someQ o (300 : Int)) l (Int.toNat (8 : Int))).length : Int).toNat b), ())) (by kernel_rfl) ?_
 have hq := someQ_isQ o 300
 generalize Pl.someQ o 300 = q at *
 rw [qF_f]
 have hr : Pl.okr (q, Pl.lpf q, Pl.K q, Pl.Mod q, ()) := okr_RF hq
 have oF := okF_f hq
 have hs := tame_shape hq l (show Int.toNat 8 ≤ 64 by decide)
 have hw : Pl.wide (Pl.tame q l (Int.toNat 8)) ≤ 8 := by
  obtain ⟨k1, k2⟩ := tame_ok q l (Int.toNat 8)
  rcases Nat.eq_zero_or_pos (Pl.tame q l (Int.toNat 8)).length with e | e
  ·rw [List.length_eq_zero_iff.1 e]; exact Nat.zero_le _
  ·exact k2 _ (rowD_mem e)
 generalize Pl.tame q l (Int.toNat 8) = m at *
 obtain ⟨s1, s2, s3⟩ := shape_0 hs
 obtain ⟨e1, _⟩ := ech_rows hq hs
 have hp : C9.post (o, l, b, ()) = (true, ()) := rfl
 rw [hp]
 refine ⟨trivial, ⟨hr, by omega, by omega⟩, ⟨oF, shape_mm hs, hs⟩, ⟨hr, hs⟩, ⟨rfl, shape_mm e1⟩, ⟨hr, by omega, by omega⟩, ?_⟩
 refine itl_rule (fun s => s.1.length ≤ m.length ∧ ∀ y ∈ s.1, Pl.inQ q y) (fun s => m.length - s.1.length) ⟨by rw [List.length_map, List.length_take]; omega, fun y hy => ?_⟩ ?_
 ·obtain ⟨z, _, rfl⟩ := List.mem_map.1 hy
  exact emod_inQ hq z
 rintro ⟨v, ⟨⟩⟩ G ⟨h1, h2⟩ hG
 simp only at h1 h2 hG ⊢
 refine Br_of (fun h => ?_) (fun h => ?_)
 ·have h : v.length < m.length := by have := of_decide_eq_true h; omega
  refine ⟨by simp only [List.length_singleton]; omega, hG _ ⟨?_, fun y hy => ?_⟩ ?_⟩
  ·show (v ++ [(1 : Int)]).length ≤ _; rw [List.length_append]; simp; omega
  ·rcases List.mem_append.1 hy with hy | hy
   ·exact h2 y hy
   ·rw [List.mem_singleton.1 hy]; exact one_inQ hq
  ·show m.length - (v ++ [(1 : Int)]).length < _; rw [List.length_append]; simp; omega
 have hv : v.length = m.length := by have := of_decide_eq_false h; omega
 have sy : Pl.okSy (D.rptr (fieldC q), m, v, ()) := ⟨oF, shape_mm hs, by show v.length ≤ _; omega⟩
 have hsys : Pl.sys q m v = 0 := by
  unfold Pl.sys
  rw [decide_eq_false (not_not_intro hs), decide_eq_false (not_not_intro hv), els_of h2]; rfl
 refine ⟨⟨sy, trivial⟩, ⟨sy, trivial⟩, ⟨hr, hs, by omega, hv, h2⟩, ?_⟩
 rcases solves hq hs hv h2 (by omega) with ⟨d1, d2⟩ | ⟨w, d1, d2, d3⟩
 ·rw [d2, solve_none hsys d1, deny_none hsys d1]
  have hl : (Pl.sol q m v).length ≤ 1000000000 := by
   unfold Pl.sol
   rw [solL_len, List.length_replicate]; omega
  simp only
  rw [same_refl]
  exact ⟨hl, trivial, trivial⟩
 ·rw [d2, solve_some hsys (by rw [d1]; simp), deny_some hsys (by rw [d1]; simp)]
  have hW : Pl.denW q m v = w := by unfold Pl.denW; rw [d1]; rfl
  obtain ⟨w1, _, _⟩ := den_len hq hsys d1
  simp only
  rw [hW, d3]
  exact ⟨⟨hr, shape_mm hs, by omega, by omega⟩, ⟨oF, shape_mm hs, by omega, by omega⟩, trivial, trivial⟩
theorem snd9 : Sound Try.prog 9 C9 := fn_sound (T := T9) (fn := Try.f9) (tok0 ⟨snd19, snd20, snd22q, snd48, snd23, snd26, snd45, snd46, snd49, snd50, snd28, snd27, snd24, trivial⟩) Try.func9 (by kernel_rfl) H9 vc9 (by kernel_rfl)
end Fd
end
section
namespace Go.Proofs.Ytfhlgbgclkahnaa
open Go.ChangeShapes Go.WideShapes Go.ChangeAt Go.RowKit
set_option linter.unusedVariables false
set_option maxRecDepth 100000

theorem laidTry : laidOutB Try.prog = true := by kernel_rfl
theorem cells3 : Try.prog.cellsOf 3 = 1 := by kernel_rfl
theorem cells30 : Try.prog.cellsOf 30 = 1 := by kernel_rfl
section
variable {H : Type} {enc : TypeId × Value → H} {W : World}
abbrev O0 : Fw.OO := ⟨fun _ => False, Fw.nn⟩
theorem srep_ints {b0 : Nat} {v : Value} {d : DataW H} {ps : List MemPlace} (hval : Value.okWide Try.prog W .any b0 30 v) (hd : DataW.Trod enc Try.prog W 0 (fun _ => true) true 30 v d ps) : ∃ l : List Int, Fw.SRep W O0 (.int .i64) l v := by
 obtain ⟨a0, len0, cap0, rfl⟩ := okWide_slice Try.underlying30 hval
 obtain ⟨fuel, hf⟩ := hd
 rcases open_ints Try.underlying30 Try.underlying3 cells3 hf with ⟨hcs, _⟩ | ⟨a, len, cap, zs, hcs, _, hl, _, hz, _, hcell, _⟩
 ·simp [Value.cells] at hcs
  obtain ⟨rfl, rfl, rfl⟩ := hcs
  exact ⟨[], none, 0, rfl, Nat.le_refl _, fun h => absurd h (Nat.lt_irrefl 0)⟩
 ·simp [Value.cells] at hcs
  obtain ⟨rfl, rfl, rfl⟩ := hcs
  simp only [if_true] at hz
  have hlen : (zs.take len0).length = len0 := by rw [List.length_take]; omega
  refine ⟨zs.take len0, some a, cap0, by rw [hlen], by rw [hlen]; exact hl, fun _ => ⟨a, rfl, fun j hj => ⟨fun h => h, ?_⟩⟩⟩
  have hj' : j < len0 := by rw [hlen] at hj; exact hj
  have h1 := hcell j (by omega)
  show W.cell? (a.add (j * 1)) = some (.int .i64 (zs.take len0)[j])
  rw [Nat.mul_one, h1, List.getElem_take, List.getD_eq_getElem?_getD, List.getElem?_eq_getElem (by omega)]; rfl
theorem srep_rows {b0 : Nat} {v : Value} {d : DataW H} {ps : List MemPlace} (hval : Value.okWide Try.prog W .any b0 22 v) (hd : DataW.Trod enc Try.prog W 0 (fun _ => true) true 22 v d ps) : ∃ m : List (List Int), Fw.SRep W O0 (.slc (.int .i64)) m v := by
 obtain ⟨a0, len0, cap0, rfl⟩ := okWide_slice Try.underlying22 hval
 obtain ⟨fuel, hf⟩ := hd
 rcases Deep.open_int_rows Try.underlying22 Try.underlying30 Try.underlying3 cells30 cells3 hf with ⟨hcs, _⟩ | ⟨a, len, cap, A, L, C, Z, hcs, _, hl, _, _, hrow⟩
 ·simp [Value.cells] at hcs
  obtain ⟨rfl, rfl, rfl⟩ := hcs
  exact ⟨[], none, 0, rfl, Nat.le_refl _, fun h => absurd h (Nat.lt_irrefl 0)⟩
 ·simp [Value.cells] at hcs
  obtain ⟨rfl, rfl, rfl⟩ := hcs
  have hlen : ((List.range len0).map fun r => (Z r).take (L r)).length = len0 := by rw [List.length_map, List.length_range]
  refine ⟨(List.range len0).map fun r => (Z r).take (L r), some a, cap0, by rw [hlen], by rw [hlen]; exact hl, fun _ => ⟨a, rfl, fun j hj => ?_⟩⟩
  have hj' : j < len0 := by rw [hlen] at hj; exact hj
  obtain ⟨c1, c2, c3, c4, _, c5, c6⟩ := hrow j (by omega)
  have hel : ((List.range len0).map fun r => (Z r).take (L r))[j] = (Z j).take (L j) := by rw [List.getElem_map, List.getElem_range]
  have hL : ((Z j).take (L j)).length = L j := by rw [List.length_take]; omega
  rw [hel]
  refine ⟨A j, C j, ⟨fun h => h, ?_⟩, by rw [hL]; exact c2, fun h0 => ?_⟩
  ·show W.cell? (a.add (j * 1)) = _
   rw [Nat.mul_one, c1, hL]
  ·cases hA : A j with
   | none => have := c5 hA; rw [hL] at h0; omega
   | some ad =>
    obtain ⟨_, hc⟩ := c6 ad hA
    refine ⟨ad, rfl, fun i hi => ⟨fun h => h, ?_⟩⟩
    have hi' : i < L j := by rw [hL] at hi; exact hi
    show W.cell? (ad.add (i * 1)) = some (.int .i64 ((Z j).take (L j))[i])
    rw [Nat.mul_one, hc i (by omega), List.getElem_take, List.getD_eq_getElem?_getD, List.getElem?_eq_getElem (by omega)]; rfl
end
end Go.Proofs.Ytfhlgbgclkahnaa
end
