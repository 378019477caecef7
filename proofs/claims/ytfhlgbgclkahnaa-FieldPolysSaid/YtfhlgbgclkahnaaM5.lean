import Derived.Test.YtfhlgbgclkahnaaM4
section
set_option linter.unusedVariables false
set_option linter.unusedSimpArgs false
set_option linter.unusedSectionVars false
set_option maxRecDepth 100000
namespace Fd
open Go Fw Go.Proofs

theorem swp_perm {l : List Nat} {i k : Int} (i0 : 0 ≤ i) (i1 : i < l.length) (k0 : 0 ≤ k) (k1 : k < l.length) : List.Perm (Pl.swp l i k) l := by
 unfold Pl.swp
 have hi : i.toNat < l.length := by omega
 have hk : k.toNat < l.length := by omega
 rw [List.getD_eq_getElem?_getD, List.getD_eq_getElem?_getD, List.getElem?_eq_getElem hi, List.getElem?_eq_getElem hk]
 exact List.set_set_perm hi hk
theorem ri_mem {os : OS} {r : Nat} {i : Int} (i0 : 0 ≤ i) (i1 : i < (mrow os r).length) : Pl.ri os r i ∈ mrow os r := by
 unfold Pl.ri
 have hi : i.toNat < (mrow os r).length := by omega
 rw [List.getD_eq_getElem?_getD, List.getElem?_eq_getElem hi]
 exact List.getElem_mem hi
theorem ri_inj {os : OS} {r : Nat} {i k : Int} (nd : (mrow os r).Nodup) (i0 : 0 ≤ i) (i1 : i < (mrow os r).length) (k0 : 0 ≤ k) (k1 : k < (mrow os r).length) (h : i ≠ k) : Pl.ri os r i ≠ Pl.ri os r k := by
 unfold Pl.ri
 have hi : i.toNat < (mrow os r).length := by omega
 have hk : k.toNat < (mrow os r).length := by omega
 rw [List.getD_eq_getElem?_getD, List.getElem?_eq_getElem hi, List.getD_eq_getElem?_getD, List.getElem?_eq_getElem hk]
 intro e
 have hp := List.pairwise_iff_getElem.1 nd
 rcases Nat.lt_or_ge i.toNat k.toNat with hlt | hge
 ·exact hp _ _ hi hk hlt e
 ·exact hp _ _ hk hi (by omega) e.symm
theorem good_mset {q : Int} {xs : XS} {w r : Nat} {l : List Nat} {row : List Int} (hg : Pl.good q xs w l) (hm : mal xs r) (h0 : 0 < r) (hw : r ∈ l → row.length = w) (hq : ∀ x ∈ row, Pl.inQ q x) : Pl.good q (mset xs r row) w l := by
 intro r' hr'
 obtain ⟨a1, a2, a3, a4⟩ := hg r' hr'
 by_cases e : r = r'
 ·subst e
  obtain ⟨b1, b2⟩ := mset_at (xs := row) hm h0
  exact ⟨b1, h0, by rw [b2]; exact hw hr', by rw [b2]; exact hq⟩
 ·obtain ⟨b1, b2⟩ := mset_other (ms := xs) (xs := row) e
  exact ⟨b1.2 a1, a2, by rw [b2]; exact a3, by rw [b2]; exact a4⟩
theorem good_sub {q : Int} {xs : XS} {w : Nat} {l l' : List Nat} (hg : Pl.good q xs w l) (h : ∀ r ∈ l', r ∈ l) : Pl.good q xs w l' := fun r hr => hg r (h r hr)
section
variable {q : Int} {r1 r2 n w : Nat} {xs : XS} {os : OS}
theorem swO_at {r : Nat} {i k : Int} (hm : mal os r) (h0 : 0 < r) : mal (Pl.swO os r i k) r ∧ mrow (Pl.swO os r i k) r = Pl.swp (mrow os r) i k := mset_at hm h0
theorem swO_other {r r' : Nat} {i k : Int} (h : r ≠ r') : (mal (Pl.swO os r i k) r' ↔ mal os r') ∧ mrow (Pl.swO os r i k) r' = mrow os r' := mset_other h
theorem Rec_sw (h : Pl.Rec q r1 r2 n w xs os) {i k : Int} (i0 : 0 ≤ i) (i1 : i < n) (k0 : 0 ≤ k) (k1 : k < n) :
  (Pl.preS os r1 i k ∧ Pl.preS (Pl.swO os r1 i k) r2 i k) ∧ Pl.Rec q r1 r2 n w xs (Pl.colO r1 r2 os i k) := by
 obtain ⟨m1, m2, ne, p1, p2, e1, e2, nd, g1, g2, nn, ww⟩ := h
 obtain ⟨a1, a2⟩ := swO_at (i := i) (k := k) m1 p1
 obtain ⟨b1, b2⟩ := swO_other (os := os) (i := i) (k := k) ne
 have c1 := b1.2 m2
 obtain ⟨d1, d2⟩ := swO_at (i := i) (k := k) c1 p2
 obtain ⟨f1, f2⟩ := swO_other (os := Pl.swO os r1 i k) (i := i) (k := k) ne.symm
 have P1 := swp_perm (l := mrow os r1) i0 (by omega) k0 (by omega)
 have P2 := swp_perm (l := mrow os r2) i0 (by omega) k0 (by omega)
 have E1 : mrow (Pl.colO r1 r2 os i k) r1 = Pl.swp (mrow os r1) i k := by show mrow (Pl.swO (Pl.swO os r1 i k) r2 i k) r1 = _; rw [f2, a2]
 have E2 : mrow (Pl.colO r1 r2 os i k) r2 = Pl.swp (mrow os r2) i k := by show mrow (Pl.swO (Pl.swO os r1 i k) r2 i k) r2 = _; rw [d2, b2]
 refine ⟨⟨⟨m1, ⟨i0, by omega⟩, k0, by omega⟩, c1, ⟨i0, by rw [b2]; omega⟩, k0, by rw [b2]; omega⟩, ⟨f1.2 a1, d1, ne, p1, p2, by rw [E1, P1.length_eq, e1], by rw [E2, P2.length_eq, e2], ?_, ?_, ?_, nn, ww⟩⟩
 ·rw [E1, E2]; exact (List.Perm.nodup_iff (P1.append P2)).2 nd
 ·rw [E1]; exact good_sub g1 fun r hr => P1.mem_iff.1 hr
 ·rw [E2]; exact good_sub g2 fun r hr => P2.mem_iff.1 hr
theorem Rec.nd1 (h : Pl.Rec q r1 r2 n w xs os) : (mrow os r1).Nodup := (List.nodup_append.1 h.nd).1
theorem Rec.nd2 (h : Pl.Rec q r1 r2 n w xs os) : (mrow os r2).Nodup := (List.nodup_append.1 h.nd).2.1
theorem Rec.dis (h : Pl.Rec q r1 r2 n w xs os) {a b : Nat} (ha : a ∈ mrow os r1) (hb : b ∈ mrow os r2) : a ≠ b := (List.nodup_append.1 h.nd).2.2 a ha b hb
theorem scl_in (hq : isQ q) {c : Int} {l : List Int} : ∀ x ∈ Pl.scl q c l, Pl.inQ q x := by
 intro x hx
 unfold Pl.scl at hx
 obtain ⟨y, _, rfl⟩ := List.mem_map.1 hx
 exact mul_inQ hq _ _
theorem tkl_in (hq : isQ q) {c : Int} {x y : List Int} : ∀ z ∈ Pl.tkl q c x y, Pl.inQ q z := by
 intro z hz
 unfold Pl.tkl at hz
 obtain ⟨i, hi, rfl⟩ := List.mem_iff_getElem.1 hz
 rw [List.getElem_zipWith]
 exact sub_inQ hq _ _
theorem Rec_sc (hq : isQ q) {v : D} (hv : Pl.okA v) (hqv : Pl.qA v = q) (h : Pl.Rec q r1 r2 n w xs os) {i c : Int} (i0 : 0 ≤ i) (i1 : i < n) (hc : Pl.inQ q c) :
  (Pl.preL v xs os r1 i c ∧ Pl.preL v (Pl.scX q xs os r1 i c) os r2 i c) ∧ Pl.Rec q r1 r2 n w (Pl.scX q (Pl.scX q xs os r1 i c) os r2 i c) os := by
 have M1 := ri_mem (os := os) (r := r1) i0 (by rw [h.l1]; exact i1)
 have M2 := ri_mem (os := os) (r := r2) i0 (by rw [h.l2]; exact i1)
 obtain ⟨a1, a2, a3, a4⟩ := h.g1 _ M1
 have G1 : Pl.good q (Pl.scX q xs os r1 i c) w (mrow os r1) := good_mset h.g1 a1 a2 (fun _ => by unfold Pl.scl; rw [List.length_map, a3]) (scl_in hq)
 have G2 : Pl.good q (Pl.scX q xs os r1 i c) n (mrow os r2) := good_mset h.g2 a1 a2 (fun hm => absurd rfl (Rec.dis h M1 hm)) (scl_in hq)
 obtain ⟨b1, b2, b3, b4⟩ := G2 _ M2
 have G3 : Pl.good q (Pl.scX q (Pl.scX q xs os r1 i c) os r2 i c) w (mrow os r1) := good_mset G1 b1 b2 (fun hm => absurd rfl (Rec.dis h hm M2)) (scl_in hq)
 have G4 : Pl.good q (Pl.scX q (Pl.scX q xs os r1 i c) os r2 i c) n (mrow os r2) := good_mset G2 b1 b2 (fun _ => by unfold Pl.scl; rw [List.length_map, b3]) (scl_in hq)
 have hn := h.nn
 have hw := h.ww
 rw [← hqv] at hc
 have V : ∀ {l : List Int}, (∀ x ∈ l, Pl.inQ q x) → ∀ x ∈ l, Pl.inQ (Pl.qA v) x := fun hl x hx => by rw [hqv]; exact hl x hx
 exact ⟨⟨⟨⟨h.m1, i0, by rw [h.l1]; exact i1⟩, a1, hv, hc, V a4, by omega⟩, ⟨h.m2, i0, by rw [h.l2]; exact i1⟩, b1, hv, hc, V b4, by omega⟩, ⟨h.m1, h.m2, h.ne, h.p1, h.p2, h.l1, h.l2, h.nd, G3, G4, h.nn, h.ww⟩⟩
theorem tkl_len {c : Int} {x y : List Int} (h : y.length = x.length) : (Pl.tkl q c x y).length = x.length := by
 unfold Pl.tkl; rw [List.length_zipWith]; omega
theorem Rec_tk (hq : isQ q) {v : D} (hv : Pl.okA v) (hqv : Pl.qA v = q) (h : Pl.Rec q r1 r2 n w xs os) {i k c : Int} (i0 : 0 ≤ i) (i1 : i < n) (k0 : 0 ≤ k) (k1 : k < n) (hik : i ≠ k) (hc : Pl.inQ q c) :
  (Pl.preT v xs os r1 i k c ∧ Pl.preT v (Pl.tkX q xs os r1 i k c) os r2 i k c) ∧ Pl.Rec q r1 r2 n w (Pl.tkX q (Pl.tkX q xs os r1 i k c) os r2 i k c) os := by
 have M1 := ri_mem (os := os) (r := r1) i0 (by rw [h.l1]; exact i1)
 have M2 := ri_mem (os := os) (r := r2) i0 (by rw [h.l2]; exact i1)
 have N1 := ri_mem (os := os) (r := r1) k0 (by rw [h.l1]; exact k1)
 have N2 := ri_mem (os := os) (r := r2) k0 (by rw [h.l2]; exact k1)
 have D1 := ri_inj (Rec.nd1 h) i0 (by rw [h.l1]; exact i1) k0 (by rw [h.l1]; exact k1) hik
 have D2 := ri_inj (Rec.nd2 h) i0 (by rw [h.l2]; exact i1) k0 (by rw [h.l2]; exact k1) hik
 obtain ⟨a1, a2, a3, a4⟩ := h.g1 _ M1
 obtain ⟨c1, c2, c3, c4⟩ := h.g1 _ N1
 have G1 : Pl.good q (Pl.tkX q xs os r1 i k c) w (mrow os r1) := good_mset h.g1 a1 a2 (fun _ => by rw [tkl_len (by omega), a3]) (tkl_in hq)
 have G2 : Pl.good q (Pl.tkX q xs os r1 i k c) n (mrow os r2) := good_mset h.g2 a1 a2 (fun hm => absurd rfl (Rec.dis h M1 hm)) (tkl_in hq)
 obtain ⟨b1, b2, b3, b4⟩ := G2 _ M2
 obtain ⟨d1, d2, d3, d4⟩ := G2 _ N2
 have G3 : Pl.good q (Pl.tkX q (Pl.tkX q xs os r1 i k c) os r2 i k c) w (mrow os r1) := good_mset G1 b1 b2 (fun hm => absurd rfl (Rec.dis h hm M2)) (tkl_in hq)
 have G4 : Pl.good q (Pl.tkX q (Pl.tkX q xs os r1 i k c) os r2 i k c) n (mrow os r2) := good_mset G2 b1 b2 (fun _ => by rw [tkl_len (by omega), b3]) (tkl_in hq)
 have hn := h.nn
 have hw := h.ww
 rw [← hqv] at hc
 have V : ∀ {l : List Int}, (∀ x ∈ l, Pl.inQ q x) → ∀ x ∈ l, Pl.inQ (Pl.qA v) x := fun hl x hx => by rw [hqv]; exact hl x hx
 exact ⟨⟨⟨⟨h.m1, ⟨i0, by rw [h.l1]; exact i1⟩, k0, by rw [h.l1]; exact k1⟩, ⟨a1, c1, a2, D1⟩, hv, hc, ⟨V a4, by omega⟩, ⟨V c4, by omega⟩, by omega⟩,
  ⟨h.m2, ⟨i0, by rw [h.l2]; exact i1⟩, k0, by rw [h.l2]; exact k1⟩, ⟨b1, d1, b2, D2⟩, hv, hc, ⟨V b4, by omega⟩, ⟨V d4, by omega⟩, by omega⟩, ⟨h.m1, h.m2, h.ne, h.p1, h.p2, h.l1, h.l2, h.nd, G3, G4, h.nn, h.ww⟩⟩
theorem Rec_ent (h : Pl.Rec q r1 r2 n w xs os) {i col : Int} (i0 : 0 ≤ i) (i1 : i < n) (c0 : 0 ≤ col) (c1 : col < w) : mal xs (Pl.ri os r1 i) ∧ (mrow xs (Pl.ri os r1 i)).length = w ∧ Pl.inQ q (Pl.ent xs os r1 i col) := by
 obtain ⟨a1, a2, a3, a4⟩ := h.g1 _ (ri_mem (os := os) (r := r1) i0 (by rw [h.l1]; exact i1))
 exact ⟨a1, a3, getD_inQ a4 (by omega)⟩
end
theorem cst_len (l : List Int) : (Pl.cst l).length = l.length := by
 unfold Pl.cst
 by_cases h : l.length = 0
 ·rw [decide_eq_true h, cond_true, h]; rfl
 ·rw [decide_eq_false h, cond_false, List.length_append, List.length_replicate, List.length_singleton]; omega
theorem cst_row (l : List Int) : mal (Pl.cst l) l.length ∧ mrow (Pl.cst l) l.length = l := by
 unfold Pl.cst
 by_cases h : l.length = 0
 ·rw [decide_eq_true h, cond_true, h]
  exact ⟨trivial, (List.length_eq_zero_iff.1 h).symm⟩
 ·rw [decide_eq_false h, cond_false]
  obtain ⟨m, hm⟩ : ∃ m, l.length = m + 1 := ⟨l.length - 1, by omega⟩
  rw [hm, Nat.add_sub_cancel]
  have e : (List.replicate m none ++ [some l])[m]? = some (some l) := by rw [List.getElem?_append_right (by simp)]; simp
  exact ⟨⟨l, e⟩, by show ((List.replicate m none ++ [some l]).getD m none).getD [] = l; rw [List.getD_eq_getElem?_getD, e]; rfl⟩
theorem cst_snoc (l : List Int) (c : Int) : mnew (mkill (Pl.cst l) l.length) (l ++ [c]) = Pl.cst (l ++ [c]) := by
 unfold mnew
 have e : mkill (Pl.cst l) l.length = List.replicate l.length none := by
  unfold Pl.cst
  by_cases h : l.length = 0
  ·rw [decide_eq_true h, cond_true, h]; rfl
  ·rw [decide_eq_false h, cond_false]
   obtain ⟨m, hm⟩ : ∃ m, l.length = m + 1 := ⟨l.length - 1, by omega⟩
   rw [hm, Nat.add_sub_cancel]
   show (List.replicate m none ++ [some l]).set m none = _
   rw [List.set_append_right _ _ (by simp), List.length_replicate, Nat.sub_self, List.set_cons_zero, List.replicate_succ']
 rw [e]
 unfold Pl.cst
 rw [decide_eq_false (by simp), cond_false]
 simp
theorem swp_at {os : OS} {r : Nat} {i k : Int} (hm : mal os r) (h0 : 0 < r) (i0 : 0 ≤ i) (i1 : i < (mrow os r).length) (k0 : 0 ≤ k) (k1 : k < (mrow os r).length) : Pl.ri (Pl.swO os r i k) r i = Pl.ri os r k := by
 unfold Pl.ri
 rw [(swO_at hm h0).2]
 unfold Pl.swp
 have hi : i.toNat < (mrow os r).length := by omega
 have hk : k.toNat < (mrow os r).length := by omega
 rw [List.getD_eq_getElem?_getD, List.getElem?_set, List.length_set]
 by_cases e : k.toNat = i.toNat
 ·rw [if_pos e, e, if_pos hi]; rfl
 ·rw [if_neg e, List.getElem?_set, if_pos rfl, if_pos hi]; rfl
theorem ent_sw {q : Int} {r1 r2 n w : Nat} {xs : XS} {os : OS} (h : Pl.Rec q r1 r2 n w xs os) {i k : Int} (i0 : 0 ≤ i) (i1 : i < n) (k0 : 0 ≤ k) (k1 : k < n) (col : Int) : Pl.ent xs (Pl.colO r1 r2 os i k) r1 i col = Pl.ent xs os r1 k col := by
 unfold Pl.ent
 have e : Pl.ri (Pl.colO r1 r2 os i k) r1 i = Pl.ri os r1 k := by
  have := swp_at (k := k) h.m1 h.p1 i0 (by rw [h.l1]; exact i1) k0 (by rw [h.l1]; exact k1)
  rw [← this]
  unfold Pl.ri Pl.colO
  rw [(swO_other h.ne.symm).2]
 rw [e]
end Fd
end
section
set_option linter.unusedVariables false
set_option linter.unusedSimpArgs false
set_option maxRecDepth 100000
namespace Fd
open Go Fw Go.Proofs

theorem kf_stop {xs : XS} {os : OS} {r : Nat} {col : Int} {f : Nat} {k : Int} (hf : 0 < f) (h : ¬ (k < (Pl.len os r : Int) ∧ Pl.ent xs os r k col = 0)) : Pl.kf xs os r col f k = k := by
 obtain ⟨f, rfl⟩ : ∃ g, f = g + 1 := ⟨f - 1, by omega⟩
 rw [Pl.kf]
 cases hb : (decide (k < (Pl.len os r : Int)) && decide (Pl.ent xs os r k col = 0)) with
 | false => rfl
 | true => simp at hb; exact absurd hb h
theorem kf_go {xs : XS} {os : OS} {r : Nat} {col : Int} {f : Nat} {k : Int} (hf : 0 < f) (h1 : k < (Pl.len os r : Int)) (h2 : Pl.ent xs os r k col = 0) : Pl.kf xs os r col f k = Pl.kf xs os r col (f - 1) (k + 1) := by
 obtain ⟨f, rfl⟩ : ∃ g, f = g + 1 := ⟨f - 1, by omega⟩
 rw [Pl.kf, decide_eq_true h1, decide_eq_true h2]; rfl
theorem elim_no {q : Int} {r1 r2 : Nat} {os : OS} {at_ col i : Int} {xs : XS} (h : i = at_ ∨ Pl.ent xs os r1 i col = 0) : Pl.elim1 q r1 r2 os at_ col i xs = xs := by
 unfold Pl.elim1
 rcases h with h | h
 ·rw [decide_eq_false (not_not_intro h)]; rfl
 ·rw [decide_eq_false (not_not_intro h), Bool.and_false]; rfl
theorem elim_yes {q : Int} {r1 r2 : Nat} {os : OS} {at_ col i : Int} {xs : XS} (h1 : i ≠ at_) (h2 : Pl.ent xs os r1 i col ≠ 0) : Pl.elim1 q r1 r2 os at_ col i xs = Pl.tkX q (Pl.tkX q xs os r1 i at_ (Pl.ent xs os r1 i col)) os r2 i at_ (Pl.ent xs os r1 i col) := by
 unfold Pl.elim1
 rw [decide_eq_true h1, decide_eq_true h2]; rfl
theorem col_no {q : Int} {r1 r2 : Nat} {xo : XO} {cs : List Int} {col : Int} (h : Pl.colK r1 xo cs.length col = (Pl.len xo.2 r1 : Int)) : Pl.col q r1 r2 xo cs col = (xo, cs) := by
 unfold Pl.col
 rw [decide_eq_true h]; rfl
theorem col_yes {q : Int} {r1 r2 : Nat} {xs : XS} {os : OS} {cs : List Int} {col k : Int} {n : Nat} (hk : Pl.colK r1 (xs, os) cs.length col = k) (hn : Pl.len os r1 = n) (h : k ≠ n) : Pl.col q r1 r2 (xs, os) cs col =
  ((Pl.elim q r1 r2 (Pl.colO r1 r2 os cs.length k) cs.length col n (Pl.colX q r1 r2 xs (Pl.colO r1 r2 os cs.length k) cs.length col), Pl.colO r1 r2 os cs.length k), cs ++ [col]) := by
 unfold Pl.col
 subst hn hk
 rw [decide_eq_false h]; rfl
theorem rd_ri (os : OS) (r : Nat) (i : Int) : rd (Ty.ref (0 : Nat)) (mrow os r) i = Pl.ri os r i := rfl
theorem rd_ent (xs : XS) (os : OS) (r : Nat) (i col : Int) : rd i64 (mrow xs (Pl.ri os r i)) col = Pl.ent xs os r i col := rfl
theorem vc91 : ∀ (xs : XS) (os : OS) (t1 : Nat) (d1 : D) (l1 : List D) (r1 t2 : Nat) (d2 : D) (l2 : List D) (r2 : Nat) (h : Hp) (n : Nat) (cs' : List (Option (List Int))) (xs' : XS) (os' : OS) (l : List Int), Pl.preE t1 t2 d1 d2 r1 r2 xs os →
  Pl.ech (Pl.qA (.iface t1 d1)) r1 r2 (xs, os) = ((xs', os'), l) → n = l.length → cs' = Pl.cst l →
  VCP T91 H91 Try.f91 pt91 [.d (.ref 1 1)] (upd ((MS.mk xs os t1 d1 l1 r1 t2 d2 l2 r2).put h) 4 (some (.aren 3 i64 []))) (.d (.ref 4 n)) (echH (MS.mk xs' os' t1 d1 l1 r1 t2 d2 l2 r2) (upd ((MS.mk xs os t1 d1 l1 r1 t2 d2 l2 r2).put h) 4 (some (.aren 3 i64 []))) cs') := by
 rintro xs os t1 d1 l1 r1 t2 d2 l2 r2 h n cs' xs' os' l ⟨hA, e2, hm, h0⟩ hE hn hcs
 refine cast (α := mal os r1 ∧ Br ((↑(mrow os r1).length : Int) == (0 : Int)) ((0 : Nat) = n ∧ xs = xs' ∧ os = os' ∧ [] = cs' ∧ True) (mal os r1 ∧ (0 : Int) ≤ (0 : Int) ∧ (0 : Int) < (↑(mrow os r1).length : Int) ∧ mal os r1 ∧ (0 : Int) ≤ (0 : Int) ∧ (0 : Int) < (↑(mrow os r1).length : Int) ∧ mal xs (rd (Ty.ref (0 : Nat)) (mrow os r1) (0 : Int)) ∧ ∃ (n_1 : Nat), itl (fun (G : Nat × Int × List (Option (List Int)) × List (Option (List Nat)) × List (Option (List Int)) × PUnit → Prop) (x : Nat × Int × List (Option (List Int)) × List (Option (List Nat)) × List (Option (List Int)) × PUnit) => Br (decide (x.2.1 < (↑(mrow xs (rd (Ty.ref (0 : Nat)) (mrow os r1) (0 : Int))).length : Int))) (mal x.2.2.2.2.1 x.1 ∧ ∃ (n : Nat), itl (fun (G_1 : Int × List (Option (List Int)) × List (Option (List Nat)) × List (Option (List Int)) × PUnit → Prop) (x_1 : Int × List (Option (List Int)) × List (Option (List Nat)) × List (Option (List Int)) × PUnit) => mal x_1.2.2.1 r1 ∧ Br (decide (x_1.1 < (↑(mrow x_1.2.2.1 r1).length : Int))) (mal x_1.2.2.1 r1 ∧ (0 : Int) ≤ x_1.1 ∧ x_1.1 < (↑(mrow x_1.2.2.1 r1).length : Int) ∧ mal x_1.2.2.1 r1 ∧ (0 : Int) ≤ x_1.1 ∧ x_1.1 < (↑(mrow x_1.2.2.1 r1).length : Int) ∧ mal x_1.2.1 (rd (Ty.ref (0 : Nat)) (mrow x_1.2.2.1 r1) x_1.1) ∧ (0 : Int) ≤ x.2.1 ∧ x.2.1 < (↑(mrow x_1.2.1 (rd (Ty.ref (0 : Nat)) (mrow x_1.2.2.1 r1) x_1.1)).length : Int) ∧ mal x_1.2.1 (rd (Ty.ref (0 : Nat)) (mrow x_1.2.2.1 r1) x_1.1) ∧ (0 : Int) ≤ x.2.1 ∧ x.2.1 < (↑(mrow x_1.2.1 (rd (Ty.ref (0 : Nat)) (mrow x_1.2.2.1 r1) x_1.1)).length : Int) ∧ Br (rd i64 (mrow x_1.2.1 (rd (Ty.ref (0 : Nat)) (mrow x_1.2.2.1 r1) x_1.1)) x.2.1 == (0 : Int)) (G_1 (IntKind.i64.wrap (x_1.1 + (1 : Int)), x_1.2)) (mal x_1.2.2.1 r1 ∧ Br (x_1.1 == (↑(mrow x_1.2.2.1 r1).length : Int)) (G (x.1, IntKind.i64.wrap (x.2.1 + (1 : Int)), x_1.2)) ((Pl.preS x_1.2.2.1 r1 (↑(mrow x.2.2.2.2.1 x.1).length : Int) x_1.1 ∧ Pl.preS (Pl.swO x_1.2.2.1 r1 (↑(mrow x.2.2.2.2.1 x.1).length : Int) x_1.1) r2 (↑(mrow x.2.2.2.2.1 x.1).length : Int) x_1.1) ∧ mal (Pl.swO (Pl.swO x_1.2.2.1 r1 (↑(mrow x.2.2.2.2.1 x.1).length : Int) x_1.1) r2 (↑(mrow x.2.2.2.2.1 x.1).length : Int) x_1.1) r1 ∧ (0 : Int) ≤ (↑(mrow x.2.2.2.2.1 x.1).length : Int) ∧ (↑(mrow x.2.2.2.2.1 x.1).length : Int) < (↑(mrow (Pl.swO (Pl.swO x_1.2.2.1 r1 (↑(mrow x.2.2.2.2.1 x.1).length : Int) x_1.1) r2 (↑(mrow x.2.2.2.2.1 x.1).length : Int) x_1.1) r1).length : Int) ∧ mal (Pl.swO (Pl.swO x_1.2.2.1 r1 (↑(mrow x.2.2.2.2.1 x.1).length : Int) x_1.1) r2 (↑(mrow x.2.2.2.2.1 x.1).length : Int) x_1.1) r1 ∧ (0 : Int) ≤ (↑(mrow x.2.2.2.2.1 x.1).length : Int) ∧ (↑(mrow x.2.2.2.2.1 x.1).length : Int) < (↑(mrow (Pl.swO (Pl.swO x_1.2.2.1 r1 (↑(mrow x.2.2.2.2.1 x.1).length : Int) x_1.1) r2 (↑(mrow x.2.2.2.2.1 x.1).length : Int) x_1.1) r1).length : Int) ∧ mal x_1.2.1 (rd (Ty.ref (0 : Nat)) (mrow (Pl.swO (Pl.swO x_1.2.2.1 r1 (↑(mrow x.2.2.2.2.1 x.1).length : Int) x_1.1) r2 (↑(mrow x.2.2.2.2.1 x.1).length : Int) x_1.1) r1) (↑(mrow x.2.2.2.2.1 x.1).length : Int)) ∧ (0 : Int) ≤ x.2.1 ∧ x.2.1 < (↑(mrow x_1.2.1 (rd (Ty.ref (0 : Nat)) (mrow (Pl.swO (Pl.swO x_1.2.2.1 r1 (↑(mrow x.2.2.2.2.1 x.1).length : Int) x_1.1) r2 (↑(mrow x.2.2.2.2.1 x.1).length : Int) x_1.1) r1) (↑(mrow x.2.2.2.2.1 x.1).length : Int))).length : Int) ∧ mal x_1.2.1 (rd (Ty.ref (0 : Nat)) (mrow (Pl.swO (Pl.swO x_1.2.2.1 r1 (↑(mrow x.2.2.2.2.1 x.1).length : Int) x_1.1) r2 (↑(mrow x.2.2.2.2.1 x.1).length : Int) x_1.1) r1) (↑(mrow x.2.2.2.2.1 x.1).length : Int)) ∧ (0 : Int) ≤ x.2.1 ∧ x.2.1 < (↑(mrow x_1.2.1 (rd (Ty.ref (0 : Nat)) (mrow (Pl.swO (Pl.swO x_1.2.2.1 r1 (↑(mrow x.2.2.2.2.1 x.1).length : Int) x_1.1) r2 (↑(mrow x.2.2.2.2.1 x.1).length : Int) x_1.1) r1) (↑(mrow x.2.2.2.2.1 x.1).length : Int))).length : Int) ∧ (Pl.okA (D.iface t1 d1) ∧ Pl.inQ (Pl.qA (D.iface t1 d1)) (rd i64 (mrow x_1.2.1 (rd (Ty.ref (0 : Nat)) (mrow (Pl.swO (Pl.swO x_1.2.2.1 r1 (↑(mrow x.2.2.2.2.1 x.1).length : Int) x_1.1) r2 (↑(mrow x.2.2.2.2.1 x.1).length : Int) x_1.1) r1) (↑(mrow x.2.2.2.2.1 x.1).length : Int))) x.2.1) ∧ rd i64 (mrow x_1.2.1 (rd (Ty.ref (0 : Nat)) (mrow (Pl.swO (Pl.swO x_1.2.2.1 r1 (↑(mrow x.2.2.2.2.1 x.1).length : Int) x_1.1) r2 (↑(mrow x.2.2.2.2.1 x.1).length : Int) x_1.1) r1) (↑(mrow x.2.2.2.2.1 x.1).length : Int))) x.2.1 ≠ (0 : Int)) ∧ (Pl.preL (D.iface t1 d1) x_1.2.1 (Pl.swO (Pl.swO x_1.2.2.1 r1 (↑(mrow x.2.2.2.2.1 x.1).length : Int) x_1.1) r2 (↑(mrow x.2.2.2.2.1 x.1).length : Int) x_1.1) r1 (↑(mrow x.2.2.2.2.1 x.1).length : Int) (Pl.inv (Pl.qA (D.iface t1 d1)) (rd i64 (mrow x_1.2.1 (rd (Ty.ref (0 : Nat)) (mrow (Pl.swO (Pl.swO x_1.2.2.1 r1 (↑(mrow x.2.2.2.2.1 x.1).length : Int) x_1.1) r2 (↑(mrow x.2.2.2.2.1 x.1).length : Int) x_1.1) r1) (↑(mrow x.2.2.2.2.1 x.1).length : Int))) x.2.1)) ∧ Pl.preL (D.iface t2 d2) (Pl.scX (Pl.qA (D.iface t1 d1)) x_1.2.1 (Pl.swO (Pl.swO x_1.2.2.1 r1 (↑(mrow x.2.2.2.2.1 x.1).length : Int) x_1.1) r2 (↑(mrow x.2.2.2.2.1 x.1).length : Int) x_1.1) r1 (↑(mrow x.2.2.2.2.1 x.1).length : Int) (Pl.inv (Pl.qA (D.iface t1 d1)) (rd i64 (mrow x_1.2.1 (rd (Ty.ref (0 : Nat)) (mrow (Pl.swO (Pl.swO x_1.2.2.1 r1 (↑(mrow x.2.2.2.2.1 x.1).length : Int) x_1.1) r2 (↑(mrow x.2.2.2.2.1 x.1).length : Int) x_1.1) r1) (↑(mrow x.2.2.2.2.1 x.1).length : Int))) x.2.1))) (Pl.swO (Pl.swO x_1.2.2.1 r1 (↑(mrow x.2.2.2.2.1 x.1).length : Int) x_1.1) r2 (↑(mrow x.2.2.2.2.1 x.1).length : Int) x_1.1) r2 (↑(mrow x.2.2.2.2.1 x.1).length : Int) (Pl.inv (Pl.qA (D.iface t1 d1)) (rd i64 (mrow x_1.2.1 (rd (Ty.ref (0 : Nat)) (mrow (Pl.swO (Pl.swO x_1.2.2.1 r1 (↑(mrow x.2.2.2.2.1 x.1).length : Int) x_1.1) r2 (↑(mrow x.2.2.2.2.1 x.1).length : Int) x_1.1) r1) (↑(mrow x.2.2.2.2.1 x.1).length : Int))) x.2.1))) ∧ mal (Pl.swO (Pl.swO x_1.2.2.1 r1 (↑(mrow x.2.2.2.2.1 x.1).length : Int) x_1.1) r2 (↑(mrow x.2.2.2.2.1 x.1).length : Int) x_1.1) r1 ∧ ∃ (n : Nat), itl (fun (G_2 : Int × List (Option (List Int)) × List (Option (List Nat)) × List (Option (List Int)) × PUnit → Prop) (x_2 : Int × List (Option (List Int)) × List (Option (List Nat)) × List (Option (List Int)) × PUnit) => Br (decide (x_2.1 < (↑(mrow (Pl.swO (Pl.swO x_1.2.2.1 r1 (↑(mrow x.2.2.2.2.1 x.1).length : Int) x_1.1) r2 (↑(mrow x.2.2.2.2.1 x.1).length : Int) x_1.1) r1).length : Int))) (Br (x_2.1 != (↑(mrow x.2.2.2.2.1 x.1).length : Int)) (mal x_2.2.2.1 r1 ∧ (0 : Int) ≤ x_2.1 ∧ x_2.1 < (↑(mrow x_2.2.2.1 r1).length : Int) ∧ mal x_2.2.2.1 r1 ∧ (0 : Int) ≤ x_2.1 ∧ x_2.1 < (↑(mrow x_2.2.2.1 r1).length : Int) ∧ mal x_2.2.1 (rd (Ty.ref (0 : Nat)) (mrow x_2.2.2.1 r1) x_2.1) ∧ (0 : Int) ≤ x.2.1 ∧ x.2.1 < (↑(mrow x_2.2.1 (rd (Ty.ref (0 : Nat)) (mrow x_2.2.2.1 r1) x_2.1)).length : Int) ∧ mal x_2.2.1 (rd (Ty.ref (0 : Nat)) (mrow x_2.2.2.1 r1) x_2.1) ∧ (0 : Int) ≤ x.2.1 ∧ x.2.1 < (↑(mrow x_2.2.1 (rd (Ty.ref (0 : Nat)) (mrow x_2.2.2.1 r1) x_2.1)).length : Int) ∧ Br (rd i64 (mrow x_2.2.1 (rd (Ty.ref (0 : Nat)) (mrow x_2.2.2.1 r1) x_2.1)) x.2.1 != (0 : Int)) (mal x_2.2.2.1 r1 ∧ (0 : Int) ≤ x_2.1 ∧ x_2.1 < (↑(mrow x_2.2.2.1 r1).length : Int) ∧ mal x_2.2.2.1 r1 ∧ (0 : Int) ≤ x_2.1 ∧ x_2.1 < (↑(mrow x_2.2.2.1 r1).length : Int) ∧ mal x_2.2.1 (rd (Ty.ref (0 : Nat)) (mrow x_2.2.2.1 r1) x_2.1) ∧ (0 : Int) ≤ x.2.1 ∧ x.2.1 < (↑(mrow x_2.2.1 (rd (Ty.ref (0 : Nat)) (mrow x_2.2.2.1 r1) x_2.1)).length : Int) ∧ mal x_2.2.1 (rd (Ty.ref (0 : Nat)) (mrow x_2.2.2.1 r1) x_2.1) ∧ (0 : Int) ≤ x.2.1 ∧ x.2.1 < (↑(mrow x_2.2.1 (rd (Ty.ref (0 : Nat)) (mrow x_2.2.2.1 r1) x_2.1)).length : Int) ∧ (Pl.preT (D.iface t1 d1) x_2.2.1 x_2.2.2.1 r1 x_2.1 (↑(mrow x.2.2.2.2.1 x.1).length : Int) (rd i64 (mrow x_2.2.1 (rd (Ty.ref (0 : Nat)) (mrow x_2.2.2.1 r1) x_2.1)) x.2.1) ∧ Pl.preT (D.iface t2 d2) (Pl.tkX (Pl.qA (D.iface t1 d1)) x_2.2.1 x_2.2.2.1 r1 x_2.1 (↑(mrow x.2.2.2.2.1 x.1).length : Int) (rd i64 (mrow x_2.2.1 (rd (Ty.ref (0 : Nat)) (mrow x_2.2.2.1 r1) x_2.1)) x.2.1)) x_2.2.2.1 r2 x_2.1 (↑(mrow x.2.2.2.2.1 x.1).length : Int) (rd i64 (mrow x_2.2.1 (rd (Ty.ref (0 : Nat)) (mrow x_2.2.2.1 r1) x_2.1)) x.2.1)) ∧ G_2 (IntKind.i64.wrap (x_2.1 + (1 : Int)), mset (Pl.tkX (Pl.qA (D.iface t1 d1)) x_2.2.1 x_2.2.2.1 r1 x_2.1 (↑(mrow x.2.2.2.2.1 x.1).length : Int) (rd i64 (mrow x_2.2.1 (rd (Ty.ref (0 : Nat)) (mrow x_2.2.2.1 r1) x_2.1)) x.2.1)) (Pl.ri x_2.2.2.1 r2 x_2.1) (Pl.tkl (Pl.qA (D.iface t2 d2)) (rd i64 (mrow x_2.2.1 (rd (Ty.ref (0 : Nat)) (mrow x_2.2.2.1 r1) x_2.1)) x.2.1) (mrow (Pl.tkX (Pl.qA (D.iface t1 d1)) x_2.2.1 x_2.2.2.1 r1 x_2.1 (↑(mrow x.2.2.2.2.1 x.1).length : Int) (rd i64 (mrow x_2.2.1 (rd (Ty.ref (0 : Nat)) (mrow x_2.2.2.1 r1) x_2.1)) x.2.1)) (Pl.ri x_2.2.2.1 r2 x_2.1)) (mrow (Pl.tkX (Pl.qA (D.iface t1 d1)) x_2.2.1 x_2.2.2.1 r1 x_2.1 (↑(mrow x.2.2.2.2.1 x.1).length : Int) (rd i64 (mrow x_2.2.1 (rd (Ty.ref (0 : Nat)) (mrow x_2.2.2.1 r1) x_2.1)) x.2.1)) (Pl.ri x_2.2.2.1 r2 (↑(mrow x.2.2.2.2.1 x.1).length : Int)))), x_2.2.2)) (G_2 (IntKind.i64.wrap (x_2.1 + (1 : Int)), x_2.2))) (G_2 (IntKind.i64.wrap (x_2.1 + (1 : Int)), x_2.2))) (mal x_2.2.2.2.1 x.1 ∧ ((↑(mrow x_2.2.2.2.1 x.1).length : Int) + (↑[x.2.1].length : Int)) * (↑(nat_lit 8) : Int) ≤ (140737488355328 : Int) ∧ G (List.length x_2.2.2.2.1 + (1 : Nat), IntKind.i64.wrap (x.2.1 + (1 : Int)), x_2.2.1, x_2.2.2.1, mnew (mkill x_2.2.2.2.1 x.1) (mrow x_2.2.2.2.1 x.1 ++ [x.2.1]), ()))) n ((0 : Int), mset (Pl.scX (Pl.qA (D.iface t1 d1)) x_1.2.1 (Pl.swO (Pl.swO x_1.2.2.1 r1 (↑(mrow x.2.2.2.2.1 x.1).length : Int) x_1.1) r2 (↑(mrow x.2.2.2.2.1 x.1).length : Int) x_1.1) r1 (↑(mrow x.2.2.2.2.1 x.1).length : Int) (Pl.inv (Pl.qA (D.iface t1 d1)) (rd i64 (mrow x_1.2.1 (rd (Ty.ref (0 : Nat)) (mrow (Pl.swO (Pl.swO x_1.2.2.1 r1 (↑(mrow x.2.2.2.2.1 x.1).length : Int) x_1.1) r2 (↑(mrow x.2.2.2.2.1 x.1).length : Int) x_1.1) r1) (↑(mrow x.2.2.2.2.1 x.1).length : Int))) x.2.1))) (Pl.ri (Pl.swO (Pl.swO x_1.2.2.1 r1 (↑(mrow x.2.2.2.2.1 x.1).length : Int) x_1.1) r2 (↑(mrow x.2.2.2.2.1 x.1).length : Int) x_1.1) r2 (↑(mrow x.2.2.2.2.1 x.1).length : Int)) (Pl.scl (Pl.qA (D.iface t2 d2)) (Pl.inv (Pl.qA (D.iface t1 d1)) (rd i64 (mrow x_1.2.1 (rd (Ty.ref (0 : Nat)) (mrow (Pl.swO (Pl.swO x_1.2.2.1 r1 (↑(mrow x.2.2.2.2.1 x.1).length : Int) x_1.1) r2 (↑(mrow x.2.2.2.2.1 x.1).length : Int) x_1.1) r1) (↑(mrow x.2.2.2.2.1 x.1).length : Int))) x.2.1)) (mrow (Pl.scX (Pl.qA (D.iface t1 d1)) x_1.2.1 (Pl.swO (Pl.swO x_1.2.2.1 r1 (↑(mrow x.2.2.2.2.1 x.1).length : Int) x_1.1) r2 (↑(mrow x.2.2.2.2.1 x.1).length : Int) x_1.1) r1 (↑(mrow x.2.2.2.2.1 x.1).length : Int) (Pl.inv (Pl.qA (D.iface t1 d1)) (rd i64 (mrow x_1.2.1 (rd (Ty.ref (0 : Nat)) (mrow (Pl.swO (Pl.swO x_1.2.2.1 r1 (↑(mrow x.2.2.2.2.1 x.1).length : Int) x_1.1) r2 (↑(mrow x.2.2.2.2.1 x.1).length : Int) x_1.1) r1) (↑(mrow x.2.2.2.2.1 x.1).length : Int))) x.2.1))) (Pl.ri (Pl.swO (Pl.swO x_1.2.2.1 r1 (↑(mrow x.2.2.2.2.1 x.1).length : Int) x_1.1) r2 (↑(mrow x.2.2.2.2.1 x.1).length : Int) x_1.1) r2 (↑(mrow x.2.2.2.2.1 x.1).length : Int)))), mset (Pl.swO x_1.2.2.1 r1 (↑(mrow x.2.2.2.2.1 x.1).length : Int) x_1.1) r2 (Pl.swp (mrow (Pl.swO x_1.2.2.1 r1 (↑(mrow x.2.2.2.2.1 x.1).length : Int) x_1.1) r2) (↑(mrow x.2.2.2.2.1 x.1).length : Int) x_1.1), x_1.2.2.2)))) (mal x_1.2.2.1 r1 ∧ Br (x_1.1 == (↑(mrow x_1.2.2.1 r1).length : Int)) (G (x.1, IntKind.i64.wrap (x.2.1 + (1 : Int)), x_1.2)) ((Pl.preS x_1.2.2.1 r1 (↑(mrow x.2.2.2.2.1 x.1).length : Int) x_1.1 ∧ Pl.preS (Pl.swO x_1.2.2.1 r1 (↑(mrow x.2.2.2.2.1 x.1).length : Int) x_1.1) r2 (↑(mrow x.2.2.2.2.1 x.1).length : Int) x_1.1) ∧ mal (Pl.swO (Pl.swO x_1.2.2.1 r1 (↑(mrow x.2.2.2.2.1 x.1).length : Int) x_1.1) r2 (↑(mrow x.2.2.2.2.1 x.1).length : Int) x_1.1) r1 ∧ (0 : Int) ≤ (↑(mrow x.2.2.2.2.1 x.1).length : Int) ∧ (↑(mrow x.2.2.2.2.1 x.1).length : Int) < (↑(mrow (Pl.swO (Pl.swO x_1.2.2.1 r1 (↑(mrow x.2.2.2.2.1 x.1).length : Int) x_1.1) r2 (↑(mrow x.2.2.2.2.1 x.1).length : Int) x_1.1) r1).length : Int) ∧ mal (Pl.swO (Pl.swO x_1.2.2.1 r1 (↑(mrow x.2.2.2.2.1 x.1).length : Int) x_1.1) r2 (↑(mrow x.2.2.2.2.1 x.1).length : Int) x_1.1) r1 ∧ (0 : Int) ≤ (↑(mrow x.2.2.2.2.1 x.1).length : Int) ∧ (↑(mrow x.2.2.2.2.1 x.1).length : Int) < (↑(mrow (Pl.swO (Pl.swO x_1.2.2.1 r1 (↑(mrow x.2.2.2.2.1 x.1).length : Int) x_1.1) r2 (↑(mrow x.2.2.2.2.1 x.1).length : Int) x_1.1) r1).length : Int) ∧ mal x_1.2.1 (rd (Ty.ref (0 : Nat)) (mrow (Pl.swO (Pl.swO x_1.2.2.1 r1 (↑(mrow x.2.2.2.2.1 x.1).length : Int) x_1.1) r2 (↑(mrow x.2.2.2.2.1 x.1).length : Int) x_1.1) r1) (↑(mrow x.2.2.2.2.1 x.1).length : Int)) ∧ (0 : Int) ≤ x.2.1 ∧ x.2.1 < (↑(mrow x_1.2.1 (rd (Ty.ref (0 : Nat)) (mrow (Pl.swO (Pl.swO x_1.2.2.1 r1 (↑(mrow x.2.2.2.2.1 x.1).length : Int) x_1.1) r2 (↑(mrow x.2.2.2.2.1 x.1).length : Int) x_1.1) r1) (↑(mrow x.2.2.2.2.1 x.1).length : Int))).length : Int) ∧ mal x_1.2.1 (rd (Ty.ref (0 : Nat)) (mrow (Pl.swO (Pl.swO x_1.2.2.1 r1 (↑(mrow x.2.2.2.2.1 x.1).length : Int) x_1.1) r2 (↑(mrow x.2.2.2.2.1 x.1).length : Int) x_1.1) r1) (↑(mrow x.2.2.2.2.1 x.1).length : Int)) ∧ (0 : Int) ≤ x.2.1 ∧ x.2.1 < (↑(mrow x_1.2.1 (rd (Ty.ref (0 : Nat)) (mrow (Pl.swO (Pl.swO x_1.2.2.1 r1 (↑(mrow x.2.2.2.2.1 x.1).length : Int) x_1.1) r2 (↑(mrow x.2.2.2.2.1 x.1).length : Int) x_1.1) r1) (↑(mrow x.2.2.2.2.1 x.1).length : Int))).length : Int) ∧ (Pl.okA (D.iface t1 d1) ∧ Pl.inQ (Pl.qA (D.iface t1 d1)) (rd i64 (mrow x_1.2.1 (rd (Ty.ref (0 : Nat)) (mrow (Pl.swO (Pl.swO x_1.2.2.1 r1 (↑(mrow x.2.2.2.2.1 x.1).length : Int) x_1.1) r2 (↑(mrow x.2.2.2.2.1 x.1).length : Int) x_1.1) r1) (↑(mrow x.2.2.2.2.1 x.1).length : Int))) x.2.1) ∧ rd i64 (mrow x_1.2.1 (rd (Ty.ref (0 : Nat)) (mrow (Pl.swO (Pl.swO x_1.2.2.1 r1 (↑(mrow x.2.2.2.2.1 x.1).length : Int) x_1.1) r2 (↑(mrow x.2.2.2.2.1 x.1).length : Int) x_1.1) r1) (↑(mrow x.2.2.2.2.1 x.1).length : Int))) x.2.1 ≠ (0 : Int)) ∧ (Pl.preL (D.iface t1 d1) x_1.2.1 (Pl.swO (Pl.swO x_1.2.2.1 r1 (↑(mrow x.2.2.2.2.1 x.1).length : Int) x_1.1) r2 (↑(mrow x.2.2.2.2.1 x.1).length : Int) x_1.1) r1 (↑(mrow x.2.2.2.2.1 x.1).length : Int) (Pl.inv (Pl.qA (D.iface t1 d1)) (rd i64 (mrow x_1.2.1 (rd (Ty.ref (0 : Nat)) (mrow (Pl.swO (Pl.swO x_1.2.2.1 r1 (↑(mrow x.2.2.2.2.1 x.1).length : Int) x_1.1) r2 (↑(mrow x.2.2.2.2.1 x.1).length : Int) x_1.1) r1) (↑(mrow x.2.2.2.2.1 x.1).length : Int))) x.2.1)) ∧ Pl.preL (D.iface t2 d2) (Pl.scX (Pl.qA (D.iface t1 d1)) x_1.2.1 (Pl.swO (Pl.swO x_1.2.2.1 r1 (↑(mrow x.2.2.2.2.1 x.1).length : Int) x_1.1) r2 (↑(mrow x.2.2.2.2.1 x.1).length : Int) x_1.1) r1 (↑(mrow x.2.2.2.2.1 x.1).length : Int) (Pl.inv (Pl.qA (D.iface t1 d1)) (rd i64 (mrow x_1.2.1 (rd (Ty.ref (0 : Nat)) (mrow (Pl.swO (Pl.swO x_1.2.2.1 r1 (↑(mrow x.2.2.2.2.1 x.1).length : Int) x_1.1) r2 (↑(mrow x.2.2.2.2.1 x.1).length : Int) x_1.1) r1) (↑(mrow x.2.2.2.2.1 x.1).length : Int))) x.2.1))) (Pl.swO (Pl.swO x_1.2.2.1 r1 (↑(mrow x.2.2.2.2.1 x.1).length : Int) x_1.1) r2 (↑(mrow x.2.2.2.2.1 x.1).length : Int) x_1.1) r2 (↑(mrow x.2.2.2.2.1 x.1).length : Int) (Pl.inv (Pl.qA (D.iface t1 d1)) (rd i64 (mrow x_1.2.1 (rd (Ty.ref (0 : Nat)) (mrow (Pl.swO (Pl.swO x_1.2.2.1 r1 (↑(mrow x.2.2.2.2.1 x.1).length : Int) x_1.1) r2 (↑(mrow x.2.2.2.2.1 x.1).length : Int) x_1.1) r1) (↑(mrow x.2.2.2.2.1 x.1).length : Int))) x.2.1))) ∧ mal (Pl.swO (Pl.swO x_1.2.2.1 r1 (↑(mrow x.2.2.2.2.1 x.1).length : Int) x_1.1) r2 (↑(mrow x.2.2.2.2.1 x.1).length : Int) x_1.1) r1 ∧ ∃ (n : Nat), itl (fun (G_2 : Int × List (Option (List Int)) × List (Option (List Nat)) × List (Option (List Int)) × PUnit → Prop) (x_2 : Int × List (Option (List Int)) × List (Option (List Nat)) × List (Option (List Int)) × PUnit) => Br (decide (x_2.1 < (↑(mrow (Pl.swO (Pl.swO x_1.2.2.1 r1 (↑(mrow x.2.2.2.2.1 x.1).length : Int) x_1.1) r2 (↑(mrow x.2.2.2.2.1 x.1).length : Int) x_1.1) r1).length : Int))) (Br (x_2.1 != (↑(mrow x.2.2.2.2.1 x.1).length : Int)) (mal x_2.2.2.1 r1 ∧ (0 : Int) ≤ x_2.1 ∧ x_2.1 < (↑(mrow x_2.2.2.1 r1).length : Int) ∧ mal x_2.2.2.1 r1 ∧ (0 : Int) ≤ x_2.1 ∧ x_2.1 < (↑(mrow x_2.2.2.1 r1).length : Int) ∧ mal x_2.2.1 (rd (Ty.ref (0 : Nat)) (mrow x_2.2.2.1 r1) x_2.1) ∧ (0 : Int) ≤ x.2.1 ∧ x.2.1 < (↑(mrow x_2.2.1 (rd (Ty.ref (0 : Nat)) (mrow x_2.2.2.1 r1) x_2.1)).length : Int) ∧ mal x_2.2.1 (rd (Ty.ref (0 : Nat)) (mrow x_2.2.2.1 r1) x_2.1) ∧ (0 : Int) ≤ x.2.1 ∧ x.2.1 < (↑(mrow x_2.2.1 (rd (Ty.ref (0 : Nat)) (mrow x_2.2.2.1 r1) x_2.1)).length : Int) ∧ Br (rd i64 (mrow x_2.2.1 (rd (Ty.ref (0 : Nat)) (mrow x_2.2.2.1 r1) x_2.1)) x.2.1 != (0 : Int)) (mal x_2.2.2.1 r1 ∧ (0 : Int) ≤ x_2.1 ∧ x_2.1 < (↑(mrow x_2.2.2.1 r1).length : Int) ∧ mal x_2.2.2.1 r1 ∧ (0 : Int) ≤ x_2.1 ∧ x_2.1 < (↑(mrow x_2.2.2.1 r1).length : Int) ∧ mal x_2.2.1 (rd (Ty.ref (0 : Nat)) (mrow x_2.2.2.1 r1) x_2.1) ∧ (0 : Int) ≤ x.2.1 ∧ x.2.1 < (↑(mrow x_2.2.1 (rd (Ty.ref (0 : Nat)) (mrow x_2.2.2.1 r1) x_2.1)).length : Int) ∧ mal x_2.2.1 (rd (Ty.ref (0 : Nat)) (mrow x_2.2.2.1 r1) x_2.1) ∧ (0 : Int) ≤ x.2.1 ∧ x.2.1 < (↑(mrow x_2.2.1 (rd (Ty.ref (0 : Nat)) (mrow x_2.2.2.1 r1) x_2.1)).length : Int) ∧ (Pl.preT (D.iface t1 d1) x_2.2.1 x_2.2.2.1 r1 x_2.1 (↑(mrow x.2.2.2.2.1 x.1).length : Int) (rd i64 (mrow x_2.2.1 (rd (Ty.ref (0 : Nat)) (mrow x_2.2.2.1 r1) x_2.1)) x.2.1) ∧ Pl.preT (D.iface t2 d2) (Pl.tkX (Pl.qA (D.iface t1 d1)) x_2.2.1 x_2.2.2.1 r1 x_2.1 (↑(mrow x.2.2.2.2.1 x.1).length : Int) (rd i64 (mrow x_2.2.1 (rd (Ty.ref (0 : Nat)) (mrow x_2.2.2.1 r1) x_2.1)) x.2.1)) x_2.2.2.1 r2 x_2.1 (↑(mrow x.2.2.2.2.1 x.1).length : Int) (rd i64 (mrow x_2.2.1 (rd (Ty.ref (0 : Nat)) (mrow x_2.2.2.1 r1) x_2.1)) x.2.1)) ∧ G_2 (IntKind.i64.wrap (x_2.1 + (1 : Int)), mset (Pl.tkX (Pl.qA (D.iface t1 d1)) x_2.2.1 x_2.2.2.1 r1 x_2.1 (↑(mrow x.2.2.2.2.1 x.1).length : Int) (rd i64 (mrow x_2.2.1 (rd (Ty.ref (0 : Nat)) (mrow x_2.2.2.1 r1) x_2.1)) x.2.1)) (Pl.ri x_2.2.2.1 r2 x_2.1) (Pl.tkl (Pl.qA (D.iface t2 d2)) (rd i64 (mrow x_2.2.1 (rd (Ty.ref (0 : Nat)) (mrow x_2.2.2.1 r1) x_2.1)) x.2.1) (mrow (Pl.tkX (Pl.qA (D.iface t1 d1)) x_2.2.1 x_2.2.2.1 r1 x_2.1 (↑(mrow x.2.2.2.2.1 x.1).length : Int) (rd i64 (mrow x_2.2.1 (rd (Ty.ref (0 : Nat)) (mrow x_2.2.2.1 r1) x_2.1)) x.2.1)) (Pl.ri x_2.2.2.1 r2 x_2.1)) (mrow (Pl.tkX (Pl.qA (D.iface t1 d1)) x_2.2.1 x_2.2.2.1 r1 x_2.1 (↑(mrow x.2.2.2.2.1 x.1).length : Int) (rd i64 (mrow x_2.2.1 (rd (Ty.ref (0 : Nat)) (mrow x_2.2.2.1 r1) x_2.1)) x.2.1)) (Pl.ri x_2.2.2.1 r2 (↑(mrow x.2.2.2.2.1 x.1).length : Int)))), x_2.2.2)) (G_2 (IntKind.i64.wrap (x_2.1 + (1 : Int)), x_2.2))) (G_2 (IntKind.i64.wrap (x_2.1 + (1 : Int)), x_2.2))) (mal x_2.2.2.2.1 x.1 ∧ ((↑(mrow x_2.2.2.2.1 x.1).length : Int) + (↑[x.2.1].length : Int)) * (8 : Int) ≤ (140737488355328 : Int) ∧ G (List.length x_2.2.2.2.1 + (1 : Nat), IntKind.i64.wrap (x.2.1 + (1 : Int)), x_2.2.1, x_2.2.2.1, mnew (mkill x_2.2.2.2.1 x.1) (mrow x_2.2.2.2.1 x.1 ++ [x.2.1]), ()))) n ((0 : Int), mset (Pl.scX (Pl.qA (D.iface t1 d1)) x_1.2.1 (Pl.swO (Pl.swO x_1.2.2.1 r1 (↑(mrow x.2.2.2.2.1 x.1).length : Int) x_1.1) r2 (↑(mrow x.2.2.2.2.1 x.1).length : Int) x_1.1) r1 (↑(mrow x.2.2.2.2.1 x.1).length : Int) (Pl.inv (Pl.qA (D.iface t1 d1)) (rd i64 (mrow x_1.2.1 (rd (Ty.ref (0 : Nat)) (mrow (Pl.swO (Pl.swO x_1.2.2.1 r1 (↑(mrow x.2.2.2.2.1 x.1).length : Int) x_1.1) r2 (↑(mrow x.2.2.2.2.1 x.1).length : Int) x_1.1) r1) (↑(mrow x.2.2.2.2.1 x.1).length : Int))) x.2.1))) (Pl.ri (Pl.swO (Pl.swO x_1.2.2.1 r1 (↑(mrow x.2.2.2.2.1 x.1).length : Int) x_1.1) r2 (↑(mrow x.2.2.2.2.1 x.1).length : Int) x_1.1) r2 (↑(mrow x.2.2.2.2.1 x.1).length : Int)) (Pl.scl (Pl.qA (D.iface t2 d2)) (Pl.inv (Pl.qA (D.iface t1 d1)) (rd i64 (mrow x_1.2.1 (rd (Ty.ref (0 : Nat)) (mrow (Pl.swO (Pl.swO x_1.2.2.1 r1 (↑(mrow x.2.2.2.2.1 x.1).length : Int) x_1.1) r2 (↑(mrow x.2.2.2.2.1 x.1).length : Int) x_1.1) r1) (↑(mrow x.2.2.2.2.1 x.1).length : Int))) x.2.1)) (mrow (Pl.scX (Pl.qA (D.iface t1 d1)) x_1.2.1 (Pl.swO (Pl.swO x_1.2.2.1 r1 (↑(mrow x.2.2.2.2.1 x.1).length : Int) x_1.1) r2 (↑(mrow x.2.2.2.2.1 x.1).length : Int) x_1.1) r1 (↑(mrow x.2.2.2.2.1 x.1).length : Int) (Pl.inv (Pl.qA (D.iface t1 d1)) (rd i64 (mrow x_1.2.1 (rd (Ty.ref (0 : Nat)) (mrow (Pl.swO (Pl.swO x_1.2.2.1 r1 (↑(mrow x.2.2.2.2.1 x.1).length : Int) x_1.1) r2 (↑(mrow x.2.2.2.2.1 x.1).length : Int) x_1.1) r1) (↑(mrow x.2.2.2.2.1 x.1).length : Int))) x.2.1))) (Pl.ri (Pl.swO (Pl.swO x_1.2.2.1 r1 (↑(mrow x.2.2.2.2.1 x.1).length : Int) x_1.1) r2 (↑(mrow x.2.2.2.2.1 x.1).length : Int) x_1.1) r2 (↑(mrow x.2.2.2.2.1 x.1).length : Int)))), mset (Pl.swO x_1.2.2.1 r1 (↑(mrow x.2.2.2.2.1 x.1).length : Int) x_1.1) r2 (Pl.swp (mrow (Pl.swO x_1.2.2.1 r1 (↑(mrow x.2.2.2.2.1 x.1).length : Int) x_1.1) r2) (↑(mrow x.2.2.2.2.1 x.1).length : Int) x_1.1), x_1.2.2.2)))) n ((↑(mrow x.2.2.2.2.1 x.1).length : Int), x.2.2)) (x.1 = n ∧ x.2.2.1 = xs' ∧ x.2.2.2.1 = os' ∧ x.2.2.2.2.1 = cs' ∧ True)) n_1 ((0 : Nat), (0 : Int), xs, os, [], ()))) (by kernel_rfl) ?_
 rw [e2]
 have hq := okA_q hA
 generalize hv : D.iface t1 d1 = v at *
 obtain ⟨q, hqv⟩ : ∃ q, Pl.qA v = q := ⟨_, rfl⟩
 rw [hqv] at hE h0 hq ⊢
 refine ⟨hm, Br_of (fun hz => ?_) (fun hz => ?_)⟩
 ·have hz : Pl.len os r1 = 0 := by have := eq_of_beq hz; unfold Pl.len; omega
  unfold Pl.ech at hE
  rw [decide_eq_true hz, cond_true] at hE
  obtain ⟨hE1, rfl⟩ := Prod.mk.inj hE
  obtain ⟨rfl, rfl⟩ := Prod.mk.inj hE1
  subst hn hcs
  exact ⟨rfl, rfl, rfl, rfl, trivial⟩
 ·have hz : Pl.len os r1 ≠ 0 := fun e => by unfold Pl.len at e; rw [e] at hz; cases hz
  rcases h0 with h0 | ⟨N, w, hN, R⟩
  ·exact absurd h0 hz
  unfold Pl.ech at hE
  rw [decide_eq_false hz, cond_false] at hE
  have hl1 := R.l1
  have hri := ri_mem (os := os) (r := r1) (i := 0) (by omega) (by omega)
  obtain ⟨a1, a2, a3, a4⟩ := R.g1 _ hri
  rw [a3] at hE
  rw [rd_ri, a3]
  refine ⟨hm, by omega, by omega, hm, by omega, by omega, a1, itl_rule (fun s => ∃ (j : Nat) (xs0 : XS) (os0 : OS) (cl : List Int), j ≤ w ∧ Pl.cols q r1 r2 (xs, os) j = ((xs0, os0), cl) ∧ s = (cl.length, (j : Int), xs0, os0, Pl.cst cl, ()) ∧ Pl.Rec q r1 r2 N w xs0 os0 ∧ cl.length ≤ N) (fun s => w - s.2.1.toNat)
   ⟨0, xs, os, [], Nat.zero_le _, rfl, rfl, R, Nat.zero_le _⟩ ?_⟩
  rintro x G ⟨j, xs0, os0, cl, hj, hS, rfl, R0, hcl⟩ hG
  obtain ⟨k1, k2⟩ := cst_row cl
  simp only
  rw [k2]
  have hNN := R.nn
  have hww := R.ww
  refine Br_of (fun hlt => ?_) (fun hge => ?_)
  ·have hlt : j < w := by have := of_decide_eq_true hlt; omega
   refine ⟨k1, itl_rule (fun s => ∃ k : Int, s = (k, xs0, os0, Pl.cst cl, ()) ∧ (cl.length : Int) ≤ k ∧ k ≤ N ∧ ∃ f : Nat, (N : Int) + 1 ≤ f + k ∧ Pl.kf xs0 os0 r1 j f k = Pl.colK r1 (xs0, os0) cl.length j) (fun s => ((N : Int) - s.1).toNat)
    ⟨_, rfl, Int.le_refl _, by omega, N + 1, by omega, by unfold Pl.colK Pl.len; rw [R0.l1]⟩ ?_⟩
   rintro x1 G1 ⟨k, rfl, ka, kN, f, hf, hk⟩ hG1
   simp only
   rw [R0.l1]
   have hlen : Pl.len os0 r1 = N := R0.l1
   refine ⟨R0.m1, Br_of (fun hk1 => ?_) (fun hk1 => ?_)⟩
   ·have hk1 : k < N := of_decide_eq_true hk1
    obtain ⟨b1, b2, b3⟩ := Rec_ent R0 (i := k) (col := j) (by omega) hk1 (by omega) (by omega)
    rw [rd_ri, b2, rd_ent]
    refine ⟨R0.m1, by omega, hk1, R0.m1, by omega, hk1, b1, by omega, by omega, b1, by omega, by omega, Br_of (fun hz1 => ?_) (fun hz1 => ?_)⟩
    ·have hz1 := eq_of_beq hz1
     rw [wrap_i64 (by omega) (by omega)]
     exact hG1 _ ⟨k + 1, rfl, by omega, by omega, f - 1, by omega, by rw [← hk, kf_go (by omega) (by rw [hlen]; exact hk1) hz1]⟩ (by simp only; omega)
    ·have hz1 : Pl.ent xs0 os0 r1 k j ≠ 0 := fun e => by rw [e] at hz1; cases hz1
     have hK : Pl.colK r1 (xs0, os0) cl.length j = k := by rw [← hk]; exact kf_stop (by omega) (fun hh => hz1 hh.2)
     refine ⟨R0.m1, Br_of (fun hkN => absurd (eq_of_beq hkN) (by omega)) (fun _ => ?_)⟩
     obtain ⟨⟨P1, P2⟩, R1⟩ := Rec_sw R0 (i := cl.length) (k := k) (by omega) (by omega) (by omega) hk1
     have hent := ent_sw R0 (i := cl.length) (k := k) (by omega) (by omega) (by omega) hk1 j
     have hos : Pl.swO (Pl.swO os0 r1 cl.length k) r2 cl.length k = Pl.colO r1 r2 os0 cl.length k := rfl
     have hcol := col_yes (q := q) (r2 := r2) hK hlen (by omega)
     unfold Pl.colX at hcol
     rw [hos]
     rw [show mset (Pl.swO os0 r1 cl.length k) r2 (Pl.swp (mrow (Pl.swO os0 r1 cl.length k) r2) cl.length k) = Pl.colO r1 r2 os0 cl.length k from rfl]
     generalize Pl.colO r1 r2 os0 cl.length k = os1 at *
     obtain ⟨c1, c2, c3⟩ := Rec_ent R1 (i := cl.length) (col := j) (by omega) (by omega) (by omega) (by omega)
     rw [rd_ri, R1.l1, c2, rd_ent]
     have hne : Pl.ent xs0 os1 r1 cl.length j ≠ 0 := by rw [hent]; exact hz1
     generalize Pl.ent xs0 os1 r1 cl.length j = en at *
     obtain ⟨⟨L1, L2⟩, R2⟩ := Rec_sc hq hA hqv R1 (i := cl.length) (c := Pl.inv q en) (by omega) (by omega) (inv_inQ hq en)
     rw [show mset (Pl.scX q xs0 os1 r1 cl.length (Pl.inv q en)) (Pl.ri os1 r2 cl.length) (Pl.scl q (Pl.inv q en) (mrow (Pl.scX q xs0 os1 r1 cl.length (Pl.inv q en)) (Pl.ri os1 r2 cl.length))) = Pl.scX q (Pl.scX q xs0 os1 r1 cl.length (Pl.inv q en)) os1 r2 cl.length (Pl.inv q en) from rfl]
     generalize Pl.scX q (Pl.scX q xs0 os1 r1 cl.length (Pl.inv q en)) os1 r2 cl.length (Pl.inv q en) = X0 at *
     refine ⟨⟨P1, P2⟩, R1.m1, by omega, by omega, R1.m1, by omega, by omega, c1, by omega, by omega, c1, by omega, by omega, ⟨hA, c3, hne⟩, ⟨L1, L2⟩, R1.m1,
      itl_rule (fun s => ∃ (i : Nat) (X : XS), i ≤ N ∧ s = ((i : Int), X, os1, Pl.cst cl, ()) ∧ X = Pl.elim q r1 r2 os1 cl.length j i X0 ∧ Pl.Rec q r1 r2 N w X os1) (fun s => ((N : Int) - s.1).toNat) ⟨0, X0, Nat.zero_le _, rfl, rfl, R2⟩ ?_⟩
     rintro x2 G2 ⟨i, X, hi, rfl, hX, R3⟩ hG2
     simp only
     refine Br_of (fun hiN => ?_) (fun hiN => ?_)
     ·have hiN : i < N := by have := of_decide_eq_true hiN; omega
      rw [wrap_i64 (by omega) (by omega)]
      have hstep : ∀ X', X' = Pl.elim1 q r1 r2 os1 cl.length j i X → Pl.Rec q r1 r2 N w X' os1 → G2 ((i : Int) + 1, X', os1, Pl.cst cl, ()) := fun X' hX' hR => hG2 _ ⟨i + 1, X', hiN, rfl, by rw [hX', hX]; rfl, hR⟩ (by simp only; omega)
      obtain ⟨d1, d2, d3⟩ := Rec_ent R3 (i := i) (col := j) (by omega) (by omega) (by omega) (by omega)
      refine Br_of (fun hia => ?_) (fun hia => ?_)
      ·have hia : (i : Int) ≠ cl.length := by simpa using hia
       rw [rd_ri, R3.l1, d2, rd_ent]
       refine ⟨R3.m1, by omega, by omega, R3.m1, by omega, by omega, d1, by omega, by omega, d1, by omega, by omega, Br_of (fun hnz => ?_) (fun hnz => ?_)⟩
       ·have hnz : Pl.ent X os1 r1 i j ≠ 0 := by simpa using hnz
        obtain ⟨T1, R4⟩ := Rec_tk hq hA hqv R3 (i := i) (k := cl.length) (c := Pl.ent X os1 r1 i j) (by omega) (by omega) (by omega) (by omega) hia d3
        exact ⟨R3.m1, by omega, by omega, R3.m1, by omega, by omega, d1, by omega, by omega, d1, by omega, by omega, T1, hstep _ (elim_yes hia hnz).symm R4⟩
       ·have hnz : Pl.ent X os1 r1 i j = 0 := by simpa using hnz
        exact hstep _ (elim_no (.inr hnz)).symm R3
      ·have hia : (i : Int) = cl.length := by simpa using hia
       exact hstep _ (elim_no (.inl hia)).symm R3
     ·have hiN : i = N := by have := of_decide_eq_false hiN; omega
      subst hiN
      rw [k2, cst_len, cst_snoc, wrap_i64 (by omega) (by omega)]
      refine ⟨k1, by simp only [List.length_singleton]; omega, hG _ ⟨j + 1, X, os1, cl ++ [(j : Int)], hlt, ?_, ?_, R3, by simp; omega⟩ (by simp only; omega)⟩
      ·rw [Pl.cols, hS]
       show Pl.col q r1 r2 (xs0, os0) cl j = _
       rw [hcol, hX]
      ·rw [List.length_append]; rfl
   ·have hk1 : k = N := by have := of_decide_eq_false hk1; omega
    subst hk1
    refine ⟨R0.m1, Br_of (fun _ => ?_) (fun hkN => absurd hkN (by simp))⟩
    rw [wrap_i64 (by omega) (by omega)]
    refine hG _ ⟨j + 1, xs0, os0, cl, hlt, ?_, rfl, R0, hcl⟩ (by simp only; omega)
    rw [Pl.cols, hS]
    refine col_no ?_
    rw [← hk]
    show _ = (Pl.len os0 r1 : Int)
    rw [hlen]
    exact kf_stop (by omega) (fun hh => by have := hh.1; rw [hlen] at this; omega)
  ·have hge : j = w := by have := of_decide_eq_false hge; omega
   subst hge
   rw [hS] at hE
   obtain ⟨hE1, rfl⟩ := Prod.mk.inj hE
   obtain ⟨rfl, rfl⟩ := Prod.mk.inj hE1
   subst hn hcs
   exact ⟨rfl, rfl, rfl, rfl, trivial⟩
theorem snd91 : SoundPT Try.prog 91 pt91 := pt_sound (T := T91) (fn := Try.f91) (tokg (T := T91) trivial ⟨snd136, snd137, snd138, trivial⟩ trivial invsV noCv) Try.func91 (by kernel_rfl) H91 (fun avs h p v h' hf hp => by
 obtain ⟨s, cs, l, s', hs, h4, hf, rfl, rfl⟩ := ech91_some hf
 have e2 : upd (s.put h) 4 (some (.aren 3 i64 cs)) = h := by
  rw [put_get hs]
  funext id
  rw [upd_eq]
  by_cases e : id = 4
  ·subst e; rw [if_pos rfl, h4]
  ·rw [if_neg e]
 rw [← e2]
 obtain ⟨xs, os, t1, d1, l1, r1, t2, d2, l2, r2⟩ := s
 unfold echF at hf
 split at hf
 ·rename_i r
  split at hf
  ·have e := Option.some.inj hf
   obtain ⟨e1, e3⟩ := Prod.mk.inj e
   obtain ⟨e3, e4⟩ := Prod.mk.inj e3
   subst e1 e3 e4
   obtain ⟨hp1, rfl⟩ := hp
   exact vc91 xs os t1 d1 l1 r1 t2 d2 l2 r2 h _ _ _ _ _ hp1 rfl rfl rfl
  ·cases hf
 ·cases hf) (by kernel_rfl)
end Fd
end
section
set_option linter.unusedVariables false
set_option linter.unusedSimpArgs false
set_option maxRecDepth 100000
namespace Fd
open Go Fw Go.Proofs

def Pl.unitR (n i : Nat) : List Int := (List.replicate n 0).set i 1
def Pl.recX (m : List (List Int)) : Nat → XS
 | 0 => []
 | i + 1 => Pl.recX m i ++ [some (Pl.unitR m.length i), some (m.getD i [])]
def Pl.recR : Nat → List Nat
 | 0 => []
 | i + 1 => Pl.recR i ++ [2 * i + 2]
def Pl.recW : Nat → List Nat
 | 0 => []
 | i + 1 => Pl.recW i ++ [2 * i + 1]
def Pl.recO : Nat → OS
 | 0 => []
 | i + 1 => List.replicate (2 * i) none ++ [some (Pl.recR (i + 1)), some (Pl.recW (i + 1))]
def Pl.okMx (m : List (List Int)) : Prop := m.length ≤ 1000000 ∧ ∀ r ∈ m, r.length ≤ 1000000000
def base3 (h : Hp) : Hp := upd (upd (upd h 0 (some (.aren 3 i64 []))) 1 (some (.abox 107 []))) 2 (some (.aren 30 (.ref 0) []))
def new90 (avs : List AV) (h : Hp) : Option (Prop × AV × Hp) := match avs with
 | [.d (.rptr (.iface t d :: ls)), .d (.slc b (.slc (.int .i64)) m)] => (match h 0, h 1, h 2 with
  | some (.aren 3 (.int .i64) []), some (.abox 107 []), some (.aren 30 (.ref 0) []) => some (Pl.okMx m, .d (.ref 1 1), (MS.mk (Pl.recX m m.length) (Pl.recO m.length) t d ls (2 * m.length - 1) t d ls (2 * m.length)).put h)
  | _, _, _ => none)
 | _ => none
theorem new90_some {avs : List AV} {h h' : Hp} {p : Prop} {v : AV} (e : new90 avs h = some (p, v, h')) : ∃ t d ls b m, avs = [.d (.rptr (.iface t d :: ls)), .d (.slc b (.slc (.int .i64)) m)] ∧ h 0 = some (.aren 3 i64 []) ∧ h 1 = some (.abox 107 []) ∧ h 2 = some (.aren 30 (.ref 0) []) ∧
  p = Pl.okMx m ∧ v = .d (.ref 1 1) ∧ h' = (MS.mk (Pl.recX m m.length) (Pl.recO m.length) t d ls (2 * m.length - 1) t d ls (2 * m.length)).put h := by
 unfold new90 at e
 split at e
 ·rename_i t d ls b m
  split at e
  ·rename_i h0 h1 h2
   have e := Option.some.inj e
   obtain ⟨e1, e3⟩ := Prod.mk.inj e
   obtain ⟨e3, e4⟩ := Prod.mk.inj e3
   exact ⟨t, d, ls, b, m, rfl, h0, h1, h2, e1.symm, e3.symm, e4.symm⟩
  ·cases e
 ·cases e
def pt90 : PT where
 base := 4000000
 mods := [0, 1, 2]
 fn := new90
 ok := by
  intro avs h p v h' e
  obtain ⟨t, d, ls, b, m, _, e0, e1, e2, _, rfl, rfl⟩ := new90_some e
  refine ⟨fun id => ?_, fun id hid => ?_, rfl, fun id hid => ?_, fun K hK => ?_⟩
  ·rw [put_eq]
   by_cases h2 : id = 2
   ·subst h2; simp [e2]
   ·rw [if_neg h2]
    by_cases h1 : id = 1
    ·subst h1; simp [e1]
    ·rw [if_neg h1]
     by_cases h0 : id = 0
     ·subst h0; simp [e0]
     ·rw [if_neg h0]
  ·simp only [List.mem_cons, List.not_mem_nil, or_false, not_or] at hid
   rw [put_eq, if_neg hid.2.2, if_neg hid.2.1, if_neg hid.1]
  ·simp only [List.mem_cons, List.not_mem_nil, or_false] at hid
   rcases hid with rfl | rfl | rfl
   ·simp [e0]
   ·simp [e1]
   ·simp [e2]
  ·obtain ⟨o, ho, ha⟩ := hK
   rw [put_eq] at ho
   by_cases h2 : K = 2
   ·subst h2; exact ⟨_, e2, rfl⟩
   ·rw [if_neg h2] at ho
    by_cases h1 : K = 1
    ·subst h1; exact ⟨_, e1, rfl⟩
    ·rw [if_neg h1] at ho
     by_cases h0 : K = 0
     ·subst h0; exact ⟨_, e0, rfl⟩
     ·rw [if_neg h0] at ho; exact ⟨o, ho, ha⟩
abbrev R2 : Ar := .ty (.ref 2)
def T90 : Ctx := ⟨tt, [(123, C123)], [], none, [], 4000000, [0, 1, 2], [], 0, [(14, 1), (24, 0), (35, 0), (37, 2), (49, 2)], [], [(30, 0)], [(107, [.raw, R2, .raw, R2])]⟩
def H90 : Hints := ⟨[14, 24, 35], [], [(0, ⟨[1, 5, 15, 16], [(17, si), (0, s0), (1, .ab 107 [.raw, R2, .raw, R2]), (2, sO)]⟩)], [], []⟩

end Fd
end
section
set_option linter.unusedVariables false
set_option linter.unusedSimpArgs false
set_option maxRecDepth 100000
namespace Fd
open Go Fw Go.Proofs

theorem row_at {α : Type} {ms : List (Option (List α))} {j : Nat} {xs : List α} (h : ms[j]? = some (some xs)) : mal ms (j + 1) ∧ mrow ms (j + 1) = xs :=
 ⟨⟨xs, h⟩, by show (ms.getD j none).getD [] = xs; rw [List.getD_eq_getElem?_getD, h]; rfl⟩
theorem recX_len (m : List (List Int)) : ∀ i, (Pl.recX m i).length = 2 * i
 | 0 => rfl
 | i + 1 => by rw [Pl.recX, List.length_append, recX_len m i]; simp; omega
theorem recR_len : ∀ i, (Pl.recR i).length = i
 | 0 => rfl
 | i + 1 => by rw [Pl.recR, List.length_append, recR_len i]; simp
theorem recW_len : ∀ i, (Pl.recW i).length = i
 | 0 => rfl
 | i + 1 => by rw [Pl.recW, List.length_append, recW_len i]; simp
theorem recO_len : ∀ i, (Pl.recO i).length = 2 * i
 | 0 => rfl
 | i + 1 => by rw [Pl.recO, List.length_append, List.length_replicate]; simp; omega
theorem recO_1 (i : Nat) : mal (Pl.recO i) (2 * i - 1) ∧ mrow (Pl.recO i) (2 * i - 1) = Pl.recR i := by
 cases i with
 | zero => exact ⟨trivial, rfl⟩
 | succ k =>
  rw [show 2 * (k + 1) - 1 = 2 * k + 1 by omega, Pl.recO]
  exact row_at (by rw [List.getElem?_append_right (by simp)]; simp)
theorem recO_2 (i : Nat) (R : List Nat) : mal (mkill (Pl.recO i) (2 * i - 1) ++ [some R]) (2 * i) ∧ mrow (mkill (Pl.recO i) (2 * i - 1) ++ [some R]) (2 * i) = Pl.recW i ∧ (mkill (Pl.recO i) (2 * i - 1) ++ [some R]).length = 2 * i + 1 ∧
  ∀ W, mkill (mkill (Pl.recO i) (2 * i - 1) ++ [some R]) (2 * i) ++ [some W] = List.replicate (2 * i) none ++ [some R, some W] := by
 cases i with
 | zero => exact ⟨trivial, rfl, rfl, fun W => rfl⟩
 | succ k =>
  have e : mkill (Pl.recO (k + 1)) (2 * (k + 1) - 1) ++ [some R] = List.replicate (2 * k) none ++ [none, some (Pl.recW (k + 1)), some R] := by
   rw [show 2 * (k + 1) - 1 = 2 * k + 1 by omega, Pl.recO]
   show (List.replicate (2 * k) none ++ [some (Pl.recR (k + 1)), some (Pl.recW (k + 1))]).set (2 * k) none ++ [some R] = _
   rw [List.set_append_right _ _ (by simp), List.length_replicate, Nat.sub_self]
   simp
  rw [e, show 2 * (k + 1) = (2 * k + 1) + 1 by omega]
  obtain ⟨a1, a2⟩ := row_at (ms := List.replicate (2 * k) none ++ [none, some (Pl.recW (k + 1)), some R]) (j := 2 * k + 1) (xs := Pl.recW (k + 1)) (by rw [List.getElem?_append_right (by simp)]; simp)
  refine ⟨a1, a2, by simp, fun W => ?_⟩
  show (List.replicate (2 * k) none ++ [none, some (Pl.recW (k + 1)), some R]).set (2 * k + 1) none ++ [some W] = _
  rw [List.set_append_right _ _ (by simp), List.length_replicate, show 2 * k + 1 - 2 * k = 1 by omega, show 2 * k + 1 + 1 = 2 * k + 2 from rfl, show List.replicate (2 * k + 2) (none : Option (List Nat)) = List.replicate (2 * k) none ++ [none, none] by rw [show 2 * k + 2 = (2 * k + 1) + 1 from rfl, List.replicate_succ', List.replicate_succ', List.append_assoc]; rfl]
  simp
theorem vc90 : ∀ (t : Nat) (d : D) (ls : List D) (b : Bool) (m : List (List Int)) (h : Hp) (xs' : XS) (os' : OS) (r1 r2 : Nat), Pl.okMx m → xs' = Pl.recX m m.length → os' = Pl.recO m.length → r1 = 2 * m.length - 1 → r2 = 2 * m.length →
  VCP T90 H90 Try.f90 pt90 [.d (.rptr (.iface t d :: ls)), .d (.slc b (.slc i64) m)] (base3 h) (.d (.ref 1 1)) ((MS.mk xs' os' t d ls r1 t d ls r2).put (base3 h)) := by
 rintro t d ls b m h xs' os' r1 r2 ⟨hm1, hm2⟩ hx' ho' hr1 hr2
 refine cast (α := [D.rptr (D.iface t d :: ls), D.ref (2 : Nat) (0 : Nat), D.rptr (D.iface t d :: ls), D.ref (2 : Nat) (0 : Nat)] = [D.rptr (D.iface t d :: ls), D.ref (2 : Nat) (0 : Nat), D.rptr (D.iface t d :: ls), D.ref (2 : Nat) (0 : Nat)] ∧ ∃ (n : Nat), itl (fun (G : Int × List (Option (List Int)) × (D × Nat × D × Nat × PUnit) × List (Option (List Nat)) × PUnit → Prop) (x : Int × List (Option (List Int)) × (D × Nat × D × Nat × PUnit) × List (Option (List Nat)) × PUnit) => Br (decide (x.1 < (↑m.length : Int))) ((0 : Int) ≤ x.1 ∧ x.1 < (↑m.length : Int) ∧ (0 : Int) ≤ (↑m.length : Int) ∧ (↑m.length : Int) = (↑m.length : Int) ∧ (↑m.length : Int) * (8 : Int) ≤ (140737488355328 : Int) ∧ mal (mnew x.2.1 (List.replicate (↑m.length : Int).toNat (0 : Int))) (List.length x.2.1 + (1 : Nat)) ∧ (0 : Int) ≤ x.1 ∧ x.1 < (↑(mrow (mnew x.2.1 (List.replicate (↑m.length : Int).toNat (0 : Int))) (List.length x.2.1 + (1 : Nat))).length : Int) ∧ mal (mnew x.2.1 (List.replicate (↑m.length : Int).toNat (0 : Int))) (List.length x.2.1 + (1 : Nat)) ∧ (0 : Int) ≤ x.1 ∧ x.1 < (↑(mrow (mnew x.2.1 (List.replicate (↑m.length : Int).toNat (0 : Int))) (List.length x.2.1 + (1 : Nat))).length : Int) ∧ List.length (rd i64.slc m x.1) ≤ (1000000000 : Nat) ∧ mal x.2.2.2.1 x.2.2.1.2.1 ∧ ((↑(mrow x.2.2.2.1 x.2.2.1.2.1).length : Int) + (↑[((mnew x.2.1 (List.replicate (↑m.length : Int).toNat (0 : Int))).set (List.length x.2.1) (some ((mrow (mnew x.2.1 (List.replicate (↑m.length : Int).toNat (0 : Int))) (List.length x.2.1 + (1 : Nat))).set (Int.toNat x.1) (1 : Int)))).length + (1 : Nat)].length : Int)) * (24 : Int) ≤ (140737488355328 : Int) ∧ mal ((mkill x.2.2.2.1 x.2.2.1.2.1).append [some (mrow x.2.2.2.1 x.2.2.1.2.1 ++ [((mnew x.2.1 (List.replicate (↑m.length : Int).toNat (0 : Int))).set (List.length x.2.1) (some ((mrow (mnew x.2.1 (List.replicate (↑m.length : Int).toNat (0 : Int))) (List.length x.2.1 + (1 : Nat))).set (Int.toNat x.1) (1 : Int)))).length + (1 : Nat)])]) x.2.2.1.2.2.2.1 ∧ ((↑(mrow ((mkill x.2.2.2.1 x.2.2.1.2.1).append [some (mrow x.2.2.2.1 x.2.2.1.2.1 ++ [((mnew x.2.1 (List.replicate (↑m.length : Int).toNat (0 : Int))).set (List.length x.2.1) (some ((mrow (mnew x.2.1 (List.replicate (↑m.length : Int).toNat (0 : Int))) (List.length x.2.1 + (1 : Nat))).set (Int.toNat x.1) (1 : Int)))).length + (1 : Nat)])]) x.2.2.1.2.2.2.1).length : Int) + (↑[List.length x.2.1 + (1 : Nat)].length : Int)) * (24 : Int) ≤ (140737488355328 : Int) ∧ [Ar.raw.enc (Ar.raw.enc x.2.2.1.1), D.ref (2 : Nat) (List.length x.2.2.2.1 + (1 : Nat)), Ar.raw.enc (Ar.raw.enc x.2.2.1.2.2.1), D.ref (2 : Nat) (((mkill x.2.2.2.1 x.2.2.1.2.1).append [some (mrow x.2.2.2.1 x.2.2.1.2.1 ++ [((mnew x.2.1 (List.replicate (↑m.length : Int).toNat (0 : Int))).set (List.length x.2.1) (some ((mrow (mnew x.2.1 (List.replicate (↑m.length : Int).toNat (0 : Int))) (List.length x.2.1 + (1 : Nat))).set (Int.toNat x.1) (1 : Int)))).length + (1 : Nat)])]).length + (1 : Nat))] = [Ar.raw.enc x.2.2.1.1, D.ref (2 : Nat) (List.length x.2.2.2.1 + (1 : Nat)), Ar.raw.enc x.2.2.1.2.2.1, D.ref (2 : Nat) (((mkill x.2.2.2.1 x.2.2.1.2.1).append [some (mrow x.2.2.2.1 x.2.2.1.2.1 ++ [((mnew x.2.1 (List.replicate (↑m.length : Int).toNat (0 : Int))).set (List.length x.2.1) (some ((mrow (mnew x.2.1 (List.replicate (↑m.length : Int).toNat (0 : Int))) (List.length x.2.1 + (1 : Nat))).set (Int.toNat x.1) (1 : Int)))).length + (1 : Nat)])]).length + (1 : Nat))] ∧ G (IntKind.i64.wrap (x.1 + (1 : Int)), ((mnew x.2.1 (List.replicate (↑m.length : Int).toNat (0 : Int))).set (List.length x.2.1) (some ((mrow (mnew x.2.1 (List.replicate (↑m.length : Int).toNat (0 : Int))) (List.length x.2.1 + (1 : Nat))).set (Int.toNat x.1) (1 : Int)))).append [some (rd i64.slc m x.1)], (Ar.raw.enc x.2.2.1.1, List.length x.2.2.2.1 + (1 : Nat), Ar.raw.enc x.2.2.1.2.2.1, ((mkill x.2.2.2.1 x.2.2.1.2.1).append [some (mrow x.2.2.2.1 x.2.2.1.2.1 ++ [((mnew x.2.1 (List.replicate (↑m.length : Int).toNat (0 : Int))).set (List.length x.2.1) (some ((mrow (mnew x.2.1 (List.replicate (↑m.length : Int).toNat (0 : Int))) (List.length x.2.1 + (1 : Nat))).set (Int.toNat x.1) (1 : Int)))).length + (1 : Nat)])]).length + (1 : Nat), ()), (mkill ((mkill x.2.2.2.1 x.2.2.1.2.1).append [some (mrow x.2.2.2.1 x.2.2.1.2.1 ++ [((mnew x.2.1 (List.replicate (↑m.length : Int).toNat (0 : Int))).set (List.length x.2.1) (some ((mrow (mnew x.2.1 (List.replicate (↑m.length : Int).toNat (0 : Int))) (List.length x.2.1 + (1 : Nat))).set (Int.toNat x.1) (1 : Int)))).length + (1 : Nat)])]) x.2.2.1.2.2.2.1).append [some (mrow ((mkill x.2.2.2.1 x.2.2.1.2.1).append [some (mrow x.2.2.2.1 x.2.2.1.2.1 ++ [((mnew x.2.1 (List.replicate (↑m.length : Int).toNat (0 : Int))).set (List.length x.2.1) (some ((mrow (mnew x.2.1 (List.replicate (↑m.length : Int).toNat (0 : Int))) (List.length x.2.1 + (1 : Nat))).set (Int.toNat x.1) (1 : Int)))).length + (1 : Nat)])]) x.2.2.1.2.2.2.1 ++ [List.length x.2.1 + (1 : Nat)])], ())) (([] : List Int).length + (1 : Nat) = (1 : Nat) ∧ x.2.1 = xs' ∧ [some [Ar.raw.enc x.2.2.1.1, D.ref (2 : Nat) x.2.2.1.2.1, Ar.raw.enc x.2.2.1.2.2.1, D.ref (2 : Nat) x.2.2.1.2.2.2.1]] = [some ((fun (s : MS) => [D.rptr (D.iface s.t1 s.d1 :: s.l1), D.ref (2 : Nat) s.r1, D.rptr (D.iface s.t2 s.d2 :: s.l2), D.ref (2 : Nat) s.r2]) { xs := xs', os := os', t1 := t, d1 := d, l1 := ls, r1 := r1, t2 := t, d2 := d, l2 := ls, r2 := r2 })] ∧ x.2.2.2.1 = os' ∧ True)) n ((0 : Int), [], (D.rptr (D.iface t d :: ls), (0 : Nat), D.rptr (D.iface t d :: ls), (0 : Nat), ()), [], ())) (by kernel_rfl) ?_
 refine ⟨rfl, itl_rule (fun s => ∃ i : Nat, i ≤ m.length ∧ s = ((i : Int), Pl.recX m i, (D.rptr (.iface t d :: ls), 2 * i - 1, D.rptr (.iface t d :: ls), 2 * i, ()), Pl.recO i, ())) (fun s => m.length - s.1.toNat) ⟨0, Nat.zero_le _, rfl⟩ ?_⟩
 rintro x G ⟨i, hi, rfl⟩ hG
 simp only
 refine Br_of (fun hlt => ?_) (fun hge => ?_)
 ·have hlt : i < m.length := by have := of_decide_eq_true hlt; omega
  have hXl := recX_len m i
  have hOl := recO_len i
  obtain ⟨o1, o2⟩ := recO_1 i
  rw [o2]
  have hZ : mnew (Pl.recX m i) (List.replicate (m.length : Int).toNat (0 : Int)) = Pl.recX m i ++ [some (List.replicate m.length 0)] := by rw [Int.toNat_natCast]; rfl
  rw [hZ]
  obtain ⟨z1, z2⟩ := row_at (ms := Pl.recX m i ++ [some (List.replicate m.length (0 : Int))]) (j := (Pl.recX m i).length) (xs := List.replicate m.length 0) (by rw [List.getElem?_append_right (Nat.le_refl _)]; simp)
  rw [z2]
  have hset : (Pl.recX m i ++ [some (List.replicate m.length (0 : Int))]).set (Pl.recX m i).length (some ((List.replicate m.length (0 : Int)).set (Int.toNat (i : Int)) (1 : Int))) = Pl.recX m i ++ [some (Pl.unitR m.length i)] := by
   rw [List.set_append_right _ _ (Nat.le_refl _), Nat.sub_self, Int.toNat_natCast]; rfl
  rw [hset]
  have hl1 : (Pl.recX m i ++ [some (Pl.unitR m.length i)]).length + 1 = 2 * i + 2 := by rw [List.length_append, hXl]; rfl
  rw [hl1, hXl, hOl]
  obtain ⟨p1, p2, p3, p4⟩ := recO_2 i (Pl.recR i ++ [2 * i + 2])
  have p1 : mal ((mkill (Pl.recO i) (2 * i - 1)).append [some (Pl.recR i ++ [2 * i + 2])]) (2 * i) := p1
  have p2 : mrow ((mkill (Pl.recO i) (2 * i - 1)).append [some (Pl.recR i ++ [2 * i + 2])]) (2 * i) = Pl.recW i := p2
  have p3 : ((mkill (Pl.recO i) (2 * i - 1)).append [some (Pl.recR i ++ [2 * i + 2])]).length = 2 * i + 1 := p3
  have p4 : (mkill ((mkill (Pl.recO i) (2 * i - 1)).append [some (Pl.recR i ++ [2 * i + 2])]) (2 * i)).append [some (Pl.recW i ++ [2 * i + 1])] = Pl.recO (i + 1) := p4 _
  rw [p2, p3, p4, wrap_i64 (by omega) (by omega)]
  have hrl : rd i64.slc m (i : Int) = m.getD i [] := rfl
  rw [hrl, recR_len, recW_len, List.length_replicate]
  rw [hXl] at z1
  refine ⟨by omega, by omega, by omega, trivial, by omega, z1, by omega, by omega, z1, by omega, by omega, hm2 _ (by rw [List.getD_eq_getElem?_getD, List.getElem?_eq_getElem hlt]; exact List.getElem_mem hlt), o1, by simp only [List.length_singleton]; omega, p1, by simp only [List.length_singleton]; omega, rfl, hG _ ⟨i + 1, hlt, ?_⟩ (by simp only; omega)⟩
  have e1 : (Pl.recX m i ++ [some (Pl.unitR m.length i)]).append [some (m.getD i [])] = Pl.recX m (i + 1) := by
   show (Pl.recX m i ++ [some (Pl.unitR m.length i)]) ++ [some (m.getD i [])] = _
   rw [List.append_assoc]; rfl
  rw [e1]
  rfl
 ·have hge : i = m.length := by have := of_decide_eq_false hge; omega
  subst hge hx' ho' hr1 hr2
  exact ⟨rfl, rfl, rfl, rfl, trivial⟩
theorem snd90 : SoundPT Try.prog 90 pt90 := pt_sound (T := T90) (fn := Try.f90) (tokg (T := T90) ⟨snd123, trivial⟩ trivial trivial noInv noCv) Try.func90 (by kernel_rfl) H90 (fun avs h p v h' hf hp => by
 obtain ⟨t, d, ls, b, m, rfl, e0, e1, e2, rfl, rfl, rfl⟩ := new90_some hf
 have e : base3 h = h := by
  unfold base3
  funext id
  rw [upd_eq, upd_eq, upd_eq]
  by_cases h2 : id = 2
  ·subst h2; rw [if_pos rfl, e2]
  ·rw [if_neg h2]
   by_cases h1 : id = 1
   ·subst h1; rw [if_pos rfl, e1]
   ·rw [if_neg h1]
    by_cases h0 : id = 0
    ·subst h0; rw [if_pos rfl, e0]
    ·rw [if_neg h0]
 rw [← e]
 exact vc90 t d ls b m h _ _ _ _ hp rfl rfl rfl rfl) (by kernel_rfl)
end Fd
end
section
set_option linter.unusedVariables false
set_option linter.unusedSimpArgs false
set_option maxRecDepth 100000
namespace Fd
open Go Fw Go.Proofs

def C95 : Con := ⟨[.raw, I], [I], fun (x : D × Int × Unit) => Pl.okF x.1, fun (x : D × Int × Unit) => (x.2.1 % Pl.qF x.1, ()), none⟩
def Cf2 (f : Int → Int → Int → Int) : Con := ⟨[.raw, I, I], [I], fun (x : D × Int × Int × Unit) => Pl.okF x.1, fun (x : D × Int × Int × Unit) => (f (Pl.qF x.1) (x.2.1 % Pl.qF x.1) (x.2.2.1 % Pl.qF x.1), ()), none⟩
def C34 : Con := Cf2 Pl.mul
def TF (fs : List (Nat × Con)) : Ctx := TV fs VV
def T30 : Ctx := TF [(95, C95)]
def C42 : Con := ⟨[.raw], [I], fun (x : D × Unit) => Pl.okF x.1, fun (x : D × Unit) => (Pl.gen (Pl.qF x.1), ()), none⟩
def C80 : Con := ⟨[.raw], [L], fun (x : D × Unit) => Pl.okF x.1, fun (x : D × Unit) => (Pl.md (Pl.qF x.1), ()), none⟩
def Pl.conj (q : Int) : Nat → Int → List Int
 | 0, _ => []
 | n + 1, a => a :: Pl.conj q n (Pl.pow q a (Pl.lpf q))
def Pl.cjs (q a : Int) : List Int := Pl.conj q (Pl.K q).toNat a
def C104 : Con := ⟨[.raw, I], [L], fun (x : D × Int × Unit) => Pl.okF x.1 ∧ Pl.inQ (Pl.qF x.1) x.2.1, fun (x : D × Int × Unit) => (Pl.cjs (Pl.qF x.1) x.2.1, ()), none⟩
def H104 : Hints := lo [(0, ⟨[0, 9], [(1, si), (5, so), (10, si)]⟩)]
def T104 : Ctx := TT [(100, C100)]
def Pl.trace (q a : Int) : Int := (Pl.cjs q a).foldl (Pl.add q) 0
def C55 : Con := ⟨[.raw, I], [I], fun (x : D × Int × Unit) => Pl.okF x.1, fun (x : D × Int × Unit) => (Pl.trace (Pl.qF x.1) (x.2.1 % Pl.qF x.1), ()), none⟩
def H55 : Hints := lo [(0, ⟨[0, 14, 15], [(5, si), (16, si)]⟩)]
def T55 : Ctx := TF [(95, C95), (104, C104)]
def Pl.dotL (q : Int) : Int → List Int → List Int → Int
 | s, a :: l, b :: m => Pl.dotL q (Pl.add q s (Pl.mul q a b)) l m
 | s, _, _ => s
def Pl.dot (q : Int) (a b : List Int) : Int := Pl.dotL q 0 a b
def C94 : Con := ⟨[.raw, L, L], [I], fun (x : D × List Int × List Int × Unit) => Pl.okF x.1 ∧ Pl.inAll (Pl.qF x.1) x.2.1 ∧ Pl.inAll (Pl.qF x.1) x.2.2.1 ∧ x.2.1.length ≤ x.2.2.1.length, fun (x : D × List Int × List Int × Unit) => (Pl.dot (Pl.qF x.1) x.2.1 x.2.2.1, ()), none⟩
def H94 : Hints := lo [(0, ⟨[0, 2, 10, 11], [(7, si), (12, si)]⟩)]
def Pl.els (q : Int) (l : List Int) : Bool := l.all fun a => decide (0 ≤ a) && decide (a < q)
def C93 : Con := ⟨[.raw, L], [B], fun (x : D × List Int × Unit) => Pl.okF x.1 ∧ x.2.1.length ≤ 1000000000, fun (x : D × List Int × Unit) => (Pl.els (Pl.qF x.1) x.2.1, ()), none⟩
def Hz2 : Hints := ⟨[], [(1, [2])], [], [], []⟩
def T93 : Ctx := TT [(139, C139)]
def C135 : Con := ⟨[L, .raw], [B], fun (x : List Int × D × Unit) => (∃ f, Pl.okF f ∧ x.2.1 = .rptr [f]) ∧ x.1.length ≤ 1000000000, fun (x : List Int × D × Unit) => (!Pl.els (Pl.qF (match x.2.1 with | .rptr [f] => f | _ => .rptr [])) x.1, ()), none⟩
def badC (f : D) : D := .clo 135 [.rptr [f]]
def Pl.bad (v : D) (l : List Int) : Bool := match v with
 | .clo 135 [.rptr [f]] => !Pl.els (Pl.qF f) l
 | _ => false
def Vbad : Con := ⟨[.raw, L], [B], fun (x : D × List Int × Unit) => (∃ f, Pl.okF f ∧ x.1 = badC f) ∧ x.2.1.length ≤ 1000000000, fun (x : D × List Int × Unit) => (Pl.bad x.1 x.2.1, ()), none⟩
def Pl.idxR (p : List Int → Bool) : List (List Int) → Int → Int
 | [], _ => -1
 | x :: l, i => bif p x then i else Pl.idxR p l (i + 1)
def Pl.okBd (m : List (List Int)) (v : D) : Prop := (∃ f, Pl.okF f ∧ v = badC f) ∧ m.length ≤ 1000000000 ∧ ∀ r ∈ m, r.length ≤ 1000000000
def C160 : Con := ⟨[LL, .raw], [I], fun (x : List (List Int) × D × Unit) => Pl.okBd x.1 x.2.1, fun (x : List (List Int) × D × Unit) => (Pl.idxR (Pl.bad x.2.1) x.1 0, ()), none⟩
def H160 : Hints := lo [(0, ⟨[0, 1, 7], [(8, si)]⟩)]
def T160 : Ctx := TC [] Vbad
def C134 : Con := ⟨[LL, .raw], [B], fun (x : List (List Int) × D × Unit) => Pl.okBd x.1 x.2.1, fun (x : List (List Int) × D × Unit) => (x.1.any (Pl.bad x.2.1), ()), none⟩
def T134 : Ctx := TT [(160, C160)]
def T135 : Ctx := TT [(93, C93)]
def Pl.wide (m : List (List Int)) : Nat := (m.getD 0 []).length
def Pl.shape (q : Int) (m : List (List Int)) : Int :=
 bif decide (m.length > 64) || (decide (m.length > 0) && decide (Pl.wide m > 64)) then 2 else
 bif m.any (fun r => decide (r.length ≠ Pl.wide m)) then 7 else bif m.any (fun r => !Pl.els q r) then 1 else 0
def Pl.okMM (m : List (List Int)) : Prop := m.length ≤ 1000000000 ∧ ∀ r ∈ m, r.length ≤ 1000000000
def C89 : Con := ⟨[.raw, LL], [I], fun (x : D × List (List Int) × Unit) => Pl.okF x.1 ∧ Pl.okMM x.2.1, fun (x : D × List (List Int) × Unit) => (Pl.shape (Pl.qF x.1) x.2.1, ()), none⟩
def H89 : Hints := ⟨[], [(1, [2])], [(0, ⟨[1, 2, 24, 25], [(26, si)]⟩)], [], []⟩
def T89 : Ctx := TT [(134, C134)]
def Pl.sys (q : Int) (m : List (List Int)) (b : List Int) : Int :=
 bif decide (Pl.shape q m ≠ 0) then Pl.shape q m else bif decide (b.length ≠ m.length) then 7 else bif Pl.els q b then 0 else 1
def C92 : Con := ⟨[.raw, LL, L], [I], fun (x : D × List (List Int) × List Int × Unit) => Pl.okF x.1 ∧ Pl.okMM x.2.1 ∧ x.2.2.1.length ≤ 1000000000, fun (x : D × List (List Int) × List Int × Unit) => (Pl.sys (Pl.qF x.1) x.2.1 x.2.2.1, ()), none⟩
def T92 : Ctx := TT [(89, C89), (93, C93)]

end Fd
end
section
set_option linter.unusedVariables false
set_option linter.unusedSimpArgs false
set_option maxRecDepth 100000
namespace Fd
open Go Fw Go.Proofs

theorem drop_cons {α : Type} {l : List α} {i : Nat} (d : α) (h : i < l.length) : l.drop i = l.getD i d :: l.drop (i + 1) := by
 rw [List.drop_eq_getElem_cons h, List.getD_eq_getElem?_getD, List.getElem?_eq_getElem h]; rfl
theorem qF_f (q : Int) : Pl.qF (D.rptr (fieldC q)) = q := rfl
theorem qF_d (q : Int) : Pl.qF (fieldD q) = q := rfl
theorem okF_f {q : Int} (hq : isQ q) : Pl.okF (D.rptr (fieldC q)) := ⟨q, hq, rfl⟩
theorem okF_d {q : Int} (hq : isQ q) : Pl.okF (fieldD q) := ⟨q, hq, rfl⟩
theorem okA_ar {q : Int} (hq : isQ q) : Pl.okA (arD q) := ⟨q, hq, rfl⟩
theorem okM_ar {q : Int} (hq : isQ q) : Pl.okM (arD q) := ⟨q, hq, .inl rfl⟩
theorem okM_f {q : Int} (hq : isQ q) : Pl.okM (D.iface 23 (D.rptr (fieldC q))) := ⟨q, hq, .inr (.inr (.inr rfl))⟩
theorem qA_f (q : Int) : Pl.qA (D.iface 23 (D.rptr (fieldC q))) = q := rfl
theorem okF_nr {v : D} (h : Pl.okF v) : v.nr := by
 obtain ⟨q, hq, rfl⟩ := h
 exact nr_field hq
theorem wrap_mod {q a : Int} (q2 : 2 ≤ q) (q6 : q ≤ 65536) : (IntKind.i64.wrap (a.tmod q + q)).tmod q = a % q := by
 have h1 := Int.tmod_lt_of_pos a (show 0 < q by omega)
 have h2 := Int.lt_tmod_of_pos a (show 0 < q by omega)
 rw [wrap_i64 (by omega) (by omega), tmod_pos (by omega), Int.add_emod_right]
 rcases ilt a 0 with h | h
 ·have h3 := Int.emod_add_mul_ediv a q
  have h4 := Int.tmod_add_mul_tdiv a q
  have e : a.tmod q = a - q * a.tdiv q := by omega
  rw [e, Int.sub_mul_emod_self_left]
 ·rw [Int.tmod_eq_emod_of_nonneg h, Int.emod_emod]
theorem vc95 : ∀ x, C95.pre x → VC (TT []) H0 Try.f95 C95 x := by
 rintro ⟨v, (a : Int), ⟨⟩⟩ ⟨q, hq, (rfl : v = _)⟩
 show q ≠ (0 : Int) ∧ q ≠ (0 : Int) ∧ ((IntKind.i64.wrap (a.tmod q + q)).tmod q, ()) = C95.post (fieldD q, a, ())
 have q2 := hq.1
 have q6 := hq.2.1
 refine ⟨by omega, by omega, ?_⟩
 rw [wrap_mod q2 q6]; rfl
theorem vc34 : ∀ x, C34.pre x → VC T30 H0 Try.f34 C34 x := by
 rintro ⟨v, (a : Int), (b : Int), ⟨⟩⟩ ⟨q, hq, (rfl : v = _)⟩
 show Pl.okF (D.rptr (fieldC q)) ∧ Pl.okF (D.rptr (fieldC q)) ∧ (Pl.okM (arD q) ∧ Pl.inQ (Pl.qA (arD q)) (a % Pl.qF (D.rptr (fieldC q))) ∧ Pl.inQ (Pl.qA (arD q)) (b % Pl.qF (D.rptr (fieldC q)))) ∧ (Pl.mul (Pl.qA (arD q)) (a % Pl.qF (D.rptr (fieldC q))) (b % Pl.qF (D.rptr (fieldC q))), ()) = C34.post (fieldD q, a, b, ())
 rw [qF_f, qA_ar hq]
 exact ⟨okF_f hq, okF_f hq, ⟨okM_ar hq, emod_inQ hq a, emod_inQ hq b⟩, rfl⟩
theorem vc42 : ∀ x, C42.pre x → VC (TT []) H0 Try.f42 C42 x := by
 rintro ⟨v, ⟨⟩⟩ ⟨q, hq, (rfl : v = _)⟩
 show (Pl.gen q, ()) = C42.post (fieldD q, ())
 rfl
theorem vc80 : ∀ x, C80.pre x → VC (TT [(123, C123)]) H0 Try.f80 C80 x := by
 rintro ⟨v, ⟨⟩⟩ ⟨q, hq, (rfl : v = _)⟩
 show (Pl.md q).length ≤ (1000000000 : Nat) ∧ (Pl.md q, ()) = C80.post (fieldD q, ())
 refine ⟨?_, rfl⟩
 have := (md_spec hq).1
 have := isQ.K64 hq
 omega
theorem conj_len (q : Int) : ∀ (n : Nat) (a : Int), (Pl.conj q n a).length = n
 | 0, _ => rfl
 | n + 1, a => by rw [Pl.conj, List.length_cons, conj_len]
theorem conj_in {q : Int} (hq : isQ q) : ∀ (n : Nat) (a : Int), Pl.inQ q a → ∀ x ∈ Pl.conj q n a, Pl.inQ q x
 | 0, _, _, x, hx => by cases hx
 | n + 1, a, ha, x, hx => by
  rw [Pl.conj] at hx
  rcases List.mem_cons.1 hx with rfl | hx
  ·exact ha
  ·exact conj_in hq n _ (pow_inQ hq _ _) x hx
theorem vc104 : ∀ x, C104.pre x → VC T104 H104 Try.f104 C104 x := by
 rintro ⟨v, (a : Int), ⟨⟩⟩ ⟨⟨q, hq, (rfl : v = _)⟩, (ha : Pl.inQ (Pl.qF (fieldD q)) a)⟩
 rw [qF_d] at ha
 show ∃ (n : Nat), itl (fun (G : Int × List Int × Int × PUnit → Prop) (x : Int × List Int × Int × PUnit) => Br (decide (x.snd.snd.fst < Pl.K q)) (((↑(List.length x.snd.fst) : Int) + (↑[x.fst].length : Int)) * (8 : Int) ≤ (140737488355328 : Int) ∧ (Pl.okM (D.iface (23 : Nat) (D.rptr (fieldC q))) ∧ Pl.inQ (Pl.qA (D.iface (23 : Nat) (D.rptr (fieldC q)))) x.fst ∧ (0 : Int) ≤ Pl.lpf q ∧ Pl.lpf q ≤ (4611686018427387904 : Int)) ∧ G (Pl.pow (Pl.qA (D.iface (23 : Nat) (D.rptr (fieldC q)))) x.fst (Pl.lpf q), List.append x.snd.fst [x.fst], IntKind.i64.wrap (x.snd.snd.fst + (1 : Int)), ())) ((x.snd.1, ()) = C104.post (fieldD q, a, ()))) n (a, [], (0 : Int), ())
 rw [qA_f]
 have hp : C104.post (fieldD q, a, ()) = (Pl.cjs q a, ()) := rfl
 rw [hp]
 have hK := isQ.K64 hq
 have hK1 := hq.2.2
 have hl2 := hq.prime.1
 have hl6 := (lpf_spec hq.1 hq.2.1).2.1
 have hq6 := hq.2.1
 refine itl_rule (fun s => ∃ i : Nat, s.2.2.1 = (i : Int) ∧ i ≤ (Pl.K q).toNat ∧ Pl.inQ q s.1 ∧ s.2.1.length = i ∧ s.2.1 ++ Pl.conj q ((Pl.K q).toNat - i) s.1 = Pl.cjs q a) (fun s => (Pl.K q - s.2.2.1).toNat) ⟨0, rfl, Nat.zero_le _, ha, rfl, rfl⟩ ?_
 rintro ⟨z, out, i0, ⟨⟩⟩ G ⟨i, e, hi, hz, ho, hc⟩ hG
 simp only at e hz ho hc hG ⊢
 subst e
 refine Br_of (fun h => ?_) (fun h => ?_)
 ·have h : (i : Int) < Pl.K q := of_decide_eq_true h
  rw [wrap_i64 (by omega) (by omega)]
  refine ⟨by simp only [List.length_singleton]; omega, ⟨okM_f hq, hz, by omega, by omega⟩, hG _ ⟨i + 1, rfl, by omega, pow_inQ hq _ _, ?_, ?_⟩ (by simp only; omega)⟩
  ·show (out ++ [z]).length = i + 1
   rw [List.length_append, ho]; rfl
  ·show (out ++ [z]) ++ Pl.conj q ((Pl.K q).toNat - (i + 1)) (Pl.pow q z (Pl.lpf q)) = _
   rw [← hc, List.append_assoc, show (Pl.K q).toNat - i = ((Pl.K q).toNat - (i + 1)) + 1 by omega]; rfl
 ·have h : ¬ (i : Int) < Pl.K q := of_decide_eq_false h
  rw [show (Pl.K q).toNat - i = 0 by omega] at hc
  rw [← hc]
  show (out, ()) = (out ++ [], ())
  rw [List.append_nil]
theorem cjs_len {q : Int} (hq : isQ q) (a : Int) : (Pl.cjs q a).length < 17 := by
 unfold Pl.cjs; rw [conj_len]; exact isQ.K64 hq
theorem cjs_in {q : Int} (hq : isQ q) {a : Int} (ha : Pl.inQ q a) : ∀ x ∈ Pl.cjs q a, Pl.inQ q x := conj_in hq _ a ha
theorem rd_i (l : List Int) (i : Nat) : rd i64 l (i : Int) = l.getD i 0 := rfl
theorem vc55 : ∀ x, C55.pre x → VC T55 H55 Try.f55 C55 x := by
 rintro ⟨v, (a : Int), ⟨⟩⟩ ⟨q, hq, (rfl : v = _)⟩
 show Pl.okF (D.rptr (fieldC q)) ∧ (Pl.okF (D.rptr (fieldC q)) ∧ Pl.inQ (Pl.qF (D.rptr (fieldC q))) (a % Pl.qF (D.rptr (fieldC q)))) ∧ ∃ (n : Nat), itl (fun (G : Int × Int × PUnit → Prop) (x : Int × Int × PUnit) => Br (decide (x.snd.fst < (↑(Pl.cjs (Pl.qF (D.rptr (fieldC q))) (a % Pl.qF (D.rptr (fieldC q)))).length : Int))) ((0 : Int) ≤ x.snd.fst ∧ x.snd.fst < (↑(Pl.cjs (Pl.qF (D.rptr (fieldC q))) (a % Pl.qF (D.rptr (fieldC q)))).length : Int) ∧ (Pl.okA (arD q) ∧ Pl.inQ (Pl.qA (arD q)) x.fst ∧ Pl.inQ (Pl.qA (arD q)) (rd i64 (Pl.cjs (Pl.qF (D.rptr (fieldC q))) (a % Pl.qF (D.rptr (fieldC q)))) x.snd.fst)) ∧ G (Pl.add (Pl.qA (arD q)) x.fst (rd i64 (Pl.cjs (Pl.qF (D.rptr (fieldC q))) (a % Pl.qF (D.rptr (fieldC q)))) x.snd.fst), IntKind.i64.wrap (x.snd.fst + (1 : Int)), ())) ((x.fst, ()) = C55.post (fieldD q, a, ()))) n ((0 : Int), (0 : Int), ())
 rw [qF_f, qA_ar hq]
 have hp : C55.post (fieldD q, a, ()) = ((Pl.cjs q (a % q)).foldl (Pl.add q) 0, ()) := rfl
 rw [hp]
 have hl := cjs_len hq (a % q)
 have hin := cjs_in hq (emod_inQ hq a)
 generalize Pl.cjs q (a % q) = l at *
 refine ⟨okF_f hq, ⟨okF_f hq, emod_inQ hq a⟩, itl_rule (fun s => ∃ i : Nat, s.2.1 = (i : Int) ∧ i ≤ l.length ∧ Pl.inQ q s.1 ∧ (l.drop i).foldl (Pl.add q) s.1 = l.foldl (Pl.add q) 0) (fun s => ((l.length : Int) - s.2.1).toNat) ⟨0, rfl, Nat.zero_le _, zero_inQ hq, rfl⟩ ?_⟩
 rintro ⟨s, i0, ⟨⟩⟩ G ⟨i, e, hi, hs, hf⟩ hG
 simp only at e hs hf hG ⊢
 subst e
 refine Br_of (fun h => ?_) (fun h => ?_)
 ·have h : i < l.length := by have := of_decide_eq_true h; omega
  rw [rd_i, wrap_i64 (by omega) (by omega)]
  rw [drop_cons 0 h, List.foldl_cons] at hf
  exact ⟨by omega, by omega, ⟨okA_ar hq, hs, getD_inQ hin h⟩, hG _ ⟨i + 1, rfl, by omega, add_inQ hq _ _, hf⟩ (by simp only; omega)⟩
 ·have h : i = l.length := by have := of_decide_eq_false h; omega
  subst h
  rw [List.drop_length] at hf
  rw [← hf]; rfl
theorem vc94 : ∀ x, C94.pre x → VC (TF []) H94 Try.f94 C94 x := by
 rintro ⟨v, (a : List Int), (b : List Int), ⟨⟩⟩ ⟨⟨q, hq, (rfl : v = _)⟩, (ha : Pl.inAll (Pl.qF (fieldD q)) a), (hb : Pl.inAll (Pl.qF (fieldD q)) b), (hl : a.length ≤ b.length)⟩
 rw [qF_d] at ha hb
 show ∃ (n : Nat), itl (fun (G : Int × Int × PUnit → Prop) (x : Int × Int × PUnit) => Br (decide (x.snd.fst < (↑a.length : Int))) ((0 : Int) ≤ x.snd.fst ∧ x.snd.fst < (↑a.length : Int) ∧ (0 : Int) ≤ x.snd.fst ∧ x.snd.fst < (↑b.length : Int) ∧ (Pl.okM (arD q) ∧ Pl.inQ (Pl.qA (arD q)) (rd i64 a x.snd.fst) ∧ Pl.inQ (Pl.qA (arD q)) (rd i64 b x.snd.fst)) ∧ (Pl.okA (arD q) ∧ Pl.inQ (Pl.qA (arD q)) x.fst ∧ Pl.inQ (Pl.qA (arD q)) (Pl.mul (Pl.qA (arD q)) (rd i64 a x.snd.fst) (rd i64 b x.snd.fst))) ∧ G (Pl.add (Pl.qA (arD q)) x.fst (Pl.mul (Pl.qA (arD q)) (rd i64 a x.snd.fst) (rd i64 b x.snd.fst)), IntKind.i64.wrap (x.snd.fst + (1 : Int)), ())) ((x.fst, ()) = C94.post (fieldD q, a, b, ()))) n ((0 : Int), (0 : Int), ())
 rw [qA_ar hq]
 have hp : C94.post (fieldD q, a, b, ()) = (Pl.dotL q 0 a b, ()) := rfl
 rw [hp]
 obtain ⟨ha, hal⟩ := ha
 obtain ⟨hb, hbl⟩ := hb
 refine itl_rule (fun s => ∃ i : Nat, s.2.1 = (i : Int) ∧ i ≤ a.length ∧ Pl.inQ q s.1 ∧ Pl.dotL q s.1 (a.drop i) (b.drop i) = Pl.dotL q 0 a b) (fun s => ((a.length : Int) - s.2.1).toNat) ⟨0, rfl, Nat.zero_le _, zero_inQ hq, rfl⟩ ?_
 rintro ⟨s, i0, ⟨⟩⟩ G ⟨i, e, hi, hs, hf⟩ hG
 simp only at e hs hf hG ⊢
 subst e
 refine Br_of (fun h => ?_) (fun h => ?_)
 ·have h : i < a.length := by have := of_decide_eq_true h; omega
  rw [rd_i, rd_i, wrap_i64 (by omega) (by omega)]
  rw [drop_cons 0 h, drop_cons 0 (show i < b.length by omega), Pl.dotL] at hf
  exact ⟨by omega, by omega, by omega, by omega, ⟨okM_ar hq, getD_inQ ha h, getD_inQ hb (by omega)⟩, ⟨okA_ar hq, hs, mul_inQ hq _ _⟩, hG _ ⟨i + 1, rfl, by omega, add_inQ hq _ _, hf⟩ (by simp only; omega)⟩
 ·have h : i = a.length := by have := of_decide_eq_false h; omega
  subst h
  rw [List.drop_length] at hf
  rw [← hf]; rfl
theorem nr_out {q : Int} (hq : isQ q) : (D.clo 140 [D.rptr [D.rptr (fieldC q)]]).nr := ⟨⟨nr_field hq, trivial⟩, trivial⟩
theorem vc93 : ∀ x, C93.pre x → VC T93 Hz2 Try.f93 C93 x := by
 rintro ⟨v, (l : List Int), ⟨⟩⟩ ⟨⟨q, hq, (rfl : v = _)⟩, (hl : l.length ≤ 1000000000)⟩
 show Pl.okTl l (D.clo (140 : Nat) [D.rptr [D.rptr (fieldC q)]]) ∧
   (!l.any (Pl.tells (D.clo (140 : Nat) [D.rptr [D.rptr (fieldC q)]])), ()) = C93.post (fieldD q, l, ())
 refine ⟨⟨hl, nr_out hq, .inr (.inr ⟨fieldC q, rfl, q, _, _, rfl, nr_ar hq, trivial, trivial, rfl, trivial, trivial⟩)⟩, ?_⟩
 show _ = (Pl.els q l, ())
 congr 1
 unfold Pl.els
 rw [List.not_any_eq_all_not]
 congr 1
 funext a
 show (!(decide (a < 0) || decide (a ≥ q))) = _
 by_cases h1 : 0 ≤ a <;> by_cases h2 : a < q
 ·rw [decide_eq_false (show ¬ a < 0 by omega), decide_eq_false (show ¬ a ≥ q by omega), decide_eq_true h1, decide_eq_true h2]; rfl
 ·rw [decide_eq_true (show a ≥ q by omega), decide_eq_false h2]; simp
 ·rw [decide_eq_true (show a < 0 by omega), decide_eq_false h1]; rfl
 ·rw [decide_eq_true (show a < 0 by omega), decide_eq_false h1]; rfl
theorem vc135 : ∀ x, C135.pre x → VC T135 H0 Try.f135 C135 x := by
 rintro ⟨(l : List Int), v, ⟨⟩⟩ ⟨⟨f, ⟨q, hq, (rfl : f = _)⟩, (rfl : v = _)⟩, (hl : l.length ≤ 1000000000)⟩
 show (Pl.okF (fieldD q) ∧ l.length ≤ (1000000000 : Nat)) ∧
   (!Pl.els (Pl.qF (fieldD q)) l, ()) = C135.post (l, D.rptr [fieldD q], ())
 exact ⟨⟨okF_d hq, hl⟩, rfl⟩
theorem rd_r (m : List (List Int)) (i : Nat) : rd i64.slc m (i : Int) = m.getD i [] := rfl
theorem rd_r0 (m : List (List Int)) : rd i64.slc m (0 : Int) = m.getD 0 [] := rfl
theorem rowD_mem {m : List (List Int)} {i : Nat} (h : i < m.length) : m.getD i [] ∈ m := by
 rw [List.getD_eq_getElem?_getD, List.getElem?_eq_getElem h]; exact List.getElem_mem h
theorem idxR_le (p : List Int → Bool) : ∀ (m : List (List Int)) (k : Int), 0 ≤ k → (Pl.idxR p m k = -1 ∧ m.any p = false) ∨ (0 ≤ Pl.idxR p m k ∧ m.any p = true)
 | [], k, hk => .inl ⟨rfl, rfl⟩
 | x :: m, k, hk => by
  rw [Pl.idxR, List.any_cons]
  cases hp : p x with
  | true => exact .inr ⟨hk, rfl⟩
  | false => exact idxR_le p m (k + 1) (by omega)
theorem vc160 : ∀ x, C160.pre x → VC T160 H160 Try.f160 C160 x := by
 rintro ⟨(m : List (List Int)), v, ⟨⟩⟩ ⟨⟨f, ⟨q, hq, (rfl : f = _)⟩, (rfl : v = _)⟩, (hl : m.length ≤ 1000000000), (hr : ∀ r ∈ m, r.length ≤ 1000000000)⟩
 show ∃ (n : Nat), itl (fun (G : Int × PUnit → Prop) (x : Int × PUnit) => Br (decide (x.fst < (↑m.length : Int))) ((0 : Int) ≤ x.fst ∧ x.fst < (↑m.length : Int) ∧ ((∃ (f : D), Pl.okF f ∧ D.clo (135 : FuncId) [D.rptr [fieldD q]] = badC f) ∧ List.length (rd i64.slc m x.fst) ≤ (1000000000 : Nat)) ∧ Br (Pl.bad (D.clo (135 : FuncId) [D.rptr [fieldD q]]) (rd i64.slc m x.fst)) (x = C160.post (m, badC (fieldD q), ())) (G (IntKind.i64.wrap (x.fst + (1 : Int)), ()))) (((-1 : Int), ()) = C160.post (m, badC (fieldD q), ()))) n ((0 : Int), ())
 have hp : C160.post (m, badC (fieldD q), ()) = (Pl.idxR (Pl.bad (badC (fieldD q))) m 0, ()) := rfl
 rw [hp]
 have hb : D.clo (135 : FuncId) [D.rptr [fieldD q]] = badC (fieldD q) := rfl
 rw [hb]
 refine itl_rule (fun s => ∃ i : Nat, s.1 = (i : Int) ∧ i ≤ m.length ∧ Pl.idxR (Pl.bad (badC (fieldD q))) (m.drop i) (i : Int) = Pl.idxR (Pl.bad (badC (fieldD q))) m 0) (fun s => ((m.length : Int) - s.1).toNat) ⟨0, rfl, Nat.zero_le _, rfl⟩ ?_
 rintro ⟨i0, ⟨⟩⟩ G ⟨i, e, hi, hf⟩ hG
 simp only at e hf hG ⊢
 subst e
 refine Br_of (fun h => ?_) (fun h => ?_)
 ·have h : i < m.length := by have := of_decide_eq_true h; omega
  rw [rd_r, wrap_i64 (by omega) (by omega)]
  rw [drop_cons [] h, Pl.idxR] at hf
  refine ⟨by omega, by omega, ⟨⟨_, okF_d hq, rfl⟩, hr _ (rowD_mem h)⟩, Br_of (fun h1 => ?_) (fun h1 => ?_)⟩
  ·rw [h1, cond_true] at hf
   rw [← hf]
  ·rw [h1, cond_false] at hf
   exact hG _ ⟨i + 1, rfl, by omega, hf⟩ (by simp only; omega)
 ·have h : i = m.length := by have := of_decide_eq_false h; omega
  subst h
  rw [List.drop_length] at hf
  rw [← hf]; rfl
theorem vc134 : ∀ x, C134.pre x → VC T134 H0 Try.f134 C134 x := by
 rintro ⟨(m : List (List Int)), v, ⟨⟩⟩ (h0 : Pl.okBd m v)
 have h1 := h0
 obtain ⟨⟨f, ⟨q, hq, (rfl : f = _)⟩, (rfl : v = _)⟩, _, _⟩ := h1
 show Pl.okBd m (D.clo (135 : FuncId) [D.rptr [fieldD q]]) ∧
   (decide (Pl.idxR (Pl.bad (D.clo (135 : FuncId) [D.rptr [fieldD q]])) m (0 : Int) ≥ (0 : Int)), ()) =
    C134.post (m, badC (fieldD q), ())
 refine ⟨h0, ?_⟩
 show _ = (m.any (Pl.bad (badC (fieldD q))), ())
 have hb : D.clo (135 : FuncId) [D.rptr [fieldD q]] = badC (fieldD q) := rfl
 rw [hb]
 rcases idxR_le (Pl.bad (badC (fieldD q))) m 0 (Int.le_refl _) with ⟨h1, h2⟩ | ⟨h1, h2⟩
 ·rw [h1, h2]; rfl
 ·rw [h2, decide_eq_true h1]
theorem vc89 : ∀ x, C89.pre x → VC T89 H89 Try.f89 C89 x := by
 rintro ⟨v, (m : List (List Int)), ⟨⟩⟩ ⟨⟨q, hq, (rfl : v = _)⟩, (hl : m.length ≤ 1000000000), (hr : ∀ r ∈ m, r.length ≤ 1000000000)⟩
 show Br (decide ((↑m.length : Int) > (64 : Int))) (((2 : Int), ()) = C89.post (fieldD q, m, ())) (Br (decide ((↑m.length : Int) > (0 : Int))) ((0 : Int) ≤ (0 : Int) ∧ (0 : Int) < (↑m.length : Int) ∧ Br (decide ((↑(List.length (rd i64.slc m (0 : Int))) : Int) > (64 : Int))) (((2 : Int), ()) = C89.post (fieldD q, m, ())) (∃ (n : Nat), itl (fun (G : Int × PUnit → Prop) (x : Int × PUnit) => Br (decide (x.fst < (↑m.length : Int))) ((0 : Int) ≤ x.fst ∧ x.fst < (↑m.length : Int) ∧ (0 : Int) ≤ (0 : Int) ∧ (0 : Int) < (↑m.length : Int) ∧ Br ((↑(List.length (rd i64.slc m x.fst)) : Int) != (↑(List.length (rd i64.slc m (0 : Int))) : Int)) (((7 : Int), ()) = C89.post (fieldD q, m, ())) (G (IntKind.i64.wrap (x.fst + (1 : Int)), ()))) (Pl.okBd m (D.clo (135 : Nat) [D.rptr [D.rptr (fieldC q)]]) ∧ Br (m.any (Pl.bad (D.clo (135 : Nat) [D.rptr [D.rptr (fieldC q)]]))) (((1 : Int), ()) = C89.post (fieldD q, m, ())) (((0 : Int), ()) = C89.post (fieldD q, m, ())))) n ((0 : Int), ()))) (∃ (n : Nat), itl (fun (G : Int × PUnit → Prop) (x : Int × PUnit) => Br (decide (x.fst < (↑m.length : Int))) ((0 : Int) ≤ x.fst ∧ x.fst < (↑m.length : Int) ∧ (0 : Int) ≤ (0 : Int) ∧ (0 : Int) < (↑m.length : Int) ∧ Br ((↑(List.length (rd i64.slc m x.fst)) : Int) != (↑(List.length (rd i64.slc m (0 : Int))) : Int)) (((7 : Int), ()) = C89.post (fieldD q, m, ())) (G (IntKind.i64.wrap (x.fst + (1 : Int)), ()))) (Pl.okBd m (D.clo (135 : Nat) [D.rptr [D.rptr (fieldC q)]]) ∧ Br (m.any (Pl.bad (D.clo (135 : Nat) [D.rptr [D.rptr (fieldC q)]]))) (((1 : Int), ()) = C89.post (fieldD q, m, ())) (((0 : Int), ()) = C89.post (fieldD q, m, ())))) n ((0 : Int), ())))
 have hp : C89.post (fieldD q, m, ()) = (Pl.shape q m, ()) := rfl
 rw [hp, rd_r0]
 have hb : D.clo (135 : Nat) [D.rptr [D.rptr (fieldC q)]] = badC (fieldD q) := rfl
 rw [hb]
 have hbad : Pl.bad (badC (fieldD q)) = fun r => !Pl.els q r := rfl
 rw [hbad]
 refine Br_of (fun h => ?_) (fun h => ?_)
 ·unfold Pl.shape
  have h : m.length > 64 := by have := of_decide_eq_true h; omega
  rw [decide_eq_true h]; rfl
 have h : ¬ m.length > 64 := by have := of_decide_eq_false h; omega
 have rest : ¬ (m.length > 0 ∧ Pl.wide m > 64) → ∃ n, itl (fun (G : Int × Unit → Prop) (x : Int × Unit) => Br (decide (x.1 < (m.length : Int))) ((0 : Int) ≤ x.1 ∧ x.1 < (m.length : Int) ∧ (0 : Int) ≤ (0 : Int) ∧ (0 : Int) < (m.length : Int) ∧ Br (((rd i64.slc m x.1).length : Int) != ((m.getD 0 []).length : Int)) (((7 : Int), ()) = (Pl.shape q m, ())) (G (IntKind.i64.wrap (x.1 + (1 : Int)), ())))
   (Pl.okBd m (badC (fieldD q)) ∧ Br (m.any fun r => !Pl.els q r) (((1 : Int), ()) = (Pl.shape q m, ())) (((0 : Int), ()) = (Pl.shape q m, ())))) n ((0 : Int), ()) := fun hw => by
  refine itl_rule (fun s => ∃ i : Nat, s.1 = (i : Int) ∧ i ≤ m.length ∧ (m.drop i).any (fun r => decide (r.length ≠ Pl.wide m)) = m.any (fun r => decide (r.length ≠ Pl.wide m))) (fun s => ((m.length : Int) - s.1).toNat) ⟨0, rfl, Nat.zero_le _, rfl⟩ ?_
  have hs : Pl.shape q m = bif m.any (fun r => decide (r.length ≠ Pl.wide m)) then 7 else bif m.any (fun r => !Pl.els q r) then 1 else 0 := by
   unfold Pl.shape
   have e : (decide (m.length > 64) || (decide (m.length > 0) && decide (Pl.wide m > 64))) = false := by
    rw [decide_eq_false h]
    by_cases c1 : m.length > 0
    ·rw [decide_eq_false (fun c2 => hw ⟨c1, c2⟩)]; simp
    ·rw [decide_eq_false c1]; rfl
   rw [e]; rfl
  rintro ⟨i0, ⟨⟩⟩ G ⟨i, e, hi, hf⟩ hG
  simp only at e hf hG ⊢
  subst e
  refine Br_of (fun h => ?_) (fun h => ?_)
  ·have h : i < m.length := by have := of_decide_eq_true h; omega
   rw [rd_r, wrap_i64 (by omega) (by omega)]
   rw [drop_cons [] h, List.any_cons] at hf
   refine ⟨by omega, by omega, by omega, by omega, Br_of (fun h1 => ?_) (fun h1 => ?_)⟩
   ·have h1 : (m.getD i []).length ≠ Pl.wide m := by
     have : ((m.getD i []).length : Int) ≠ ((m.getD 0 []).length : Int) := by simpa using h1
     unfold Pl.wide; omega
    rw [decide_eq_true h1, Bool.true_or] at hf
    rw [hs, ← hf]; rfl
   ·have h1 : (m.getD i []).length = Pl.wide m := by
     have : ((m.getD i []).length : Int) = ((m.getD 0 []).length : Int) := by simpa using h1
     unfold Pl.wide; omega
    rw [decide_eq_false (not_not_intro h1), Bool.false_or] at hf
    exact hG _ ⟨i + 1, rfl, by omega, hf⟩ (by simp only; omega)
  ·have h : i = m.length := by have := of_decide_eq_false h; omega
   subst h
   rw [List.drop_length] at hf
   rw [hs, ← hf]
   exact ⟨⟨⟨_, okF_d hq, rfl⟩, hl, hr⟩, Br_of (fun h => by rw [h]; rfl) (fun h => by rw [h]; rfl)⟩
 refine Br_of (fun h2 => ?_) (fun h2 => ?_)
 ·have h2 : m.length > 0 := by have := of_decide_eq_true h2; omega
  refine ⟨by omega, by omega, Br_of (fun h3 => ?_) (fun h3 => ?_)⟩
  ·have h3 : Pl.wide m > 64 := by have := of_decide_eq_true h3; unfold Pl.wide; omega
   unfold Pl.shape
   rw [decide_eq_true h2, decide_eq_true h3, decide_eq_false h]; rfl
  ·have h3 : ¬ Pl.wide m > 64 := by have := of_decide_eq_false h3; unfold Pl.wide; omega
   exact rest (fun hh => h3 hh.2)
 ·have h2 : ¬ m.length > 0 := by have := of_decide_eq_false h2; omega
  exact rest (fun hh => h2 hh.1)
theorem vc92 : ∀ x, C92.pre x → VC T92 H0 Try.f92 C92 x := by
  rintro ⟨v, (m : List (List Int)), (b : List Int), ⟨⟩⟩ ⟨⟨q, hq, (rfl : v = _)⟩, (hm : Pl.okMM m), (hb : b.length ≤ 1000000000)⟩
  show (Pl.okF (D.rptr (fieldC q)) ∧ Pl.okMM m) ∧ Br (Pl.shape (Pl.qF (D.rptr (fieldC q))) m != (0 : Int)) ((Pl.shape (Pl.qF (D.rptr (fieldC q))) m, ()) = C92.post (fieldD q, m, b, ())) (Br ((↑b.length : Int) != (↑m.length : Int)) (((7 : Int), ()) = C92.post (fieldD q, m, b, ())) ((Pl.okF (D.rptr (fieldC q)) ∧ b.length ≤ (1000000000 : Nat)) ∧ Br (!Pl.els (Pl.qF (D.rptr (fieldC q))) b) (((1 : Int), ()) = C92.post (fieldD q, m, b, ())) (((0 : Int), ()) = C92.post (fieldD q, m, b, ()))))
  have hp : C92.post (fieldD q, m, b, ()) = (Pl.sys q m b, ()) := rfl
  rw [hp, qF_f]
  unfold Pl.sys
  refine ⟨⟨okF_f hq, hm⟩, Br_of (fun h => ?_) (fun h => ?_)⟩
  · have h : Pl.shape q m ≠ 0 := by simpa using h
    rw [decide_eq_true h]; rfl
  · have h : Pl.shape q m = 0 := by simpa using h
    rw [decide_eq_false (not_not_intro h), cond_false]
    refine Br_of (fun h1 => ?_) (fun h1 => ?_)
    · have h1 : b.length ≠ m.length := by have : (b.length : Int) ≠ m.length := by simpa using h1
                                          omega
      rw [decide_eq_true h1]; rfl
    · have h1 : b.length = m.length := by have : (b.length : Int) = m.length := by simpa using h1
                                          omega
      rw [decide_eq_false (not_not_intro h1), cond_false]
      refine ⟨⟨okF_f hq, hb⟩, Br_of (fun h2 => ?_) (fun h2 => ?_)⟩
      · have h2 : Pl.els q b = false := by simpa using h2
        rw [h2]; rfl
      · have h2 : Pl.els q b = true := by simpa using h2
        rw [h2]; rfl

theorem nrc95 : NRC C95 := ⟨fun x hx => ⟨okF_nr hx, trivial, trivial⟩, fun x hx => ⟨trivial, trivial⟩⟩
theorem nrcF {f : Int → Int → Int → Int} : NRC (Cf2 f) := ⟨fun x hx => ⟨okF_nr hx, trivial, trivial, trivial⟩, fun x hx => ⟨trivial, trivial⟩⟩
theorem nrc42 : NRC C42 := ⟨fun x hx => ⟨okF_nr hx, trivial⟩, fun x hx => ⟨trivial, trivial⟩⟩
theorem nrc80 : NRC C80 := ⟨fun x hx => ⟨okF_nr hx, trivial⟩, fun x hx => ⟨rfl, trivial⟩⟩
theorem nrc104 : NRC C104 := ⟨fun x hx => ⟨okF_nr hx.1, trivial, trivial⟩, fun x hx => ⟨rfl, trivial⟩⟩
theorem nrc55 : NRC C55 := ⟨fun x hx => ⟨okF_nr hx, trivial, trivial⟩, fun x hx => ⟨trivial, trivial⟩⟩
theorem nrc94 : NRC C94 := ⟨fun x hx => ⟨okF_nr hx.1, rfl, rfl, trivial⟩, fun x hx => ⟨trivial, trivial⟩⟩
theorem nrc93 : NRC C93 := ⟨fun x hx => ⟨okF_nr hx.1, rfl, trivial⟩, fun x hx => ⟨trivial, trivial⟩⟩
theorem nrc135 : NRC C135 := by
 refine ⟨?_, fun x hx => ⟨trivial, trivial⟩⟩
 rintro ⟨l, v, ⟨⟩⟩ ⟨⟨f, hf, (rfl : v = _)⟩, _⟩
 exact ⟨rfl, ⟨okF_nr hf, trivial⟩, trivial⟩
theorem nr_bad {f : D} (hf : Pl.okF f) : (badC f).nr := ⟨⟨okF_nr hf, trivial⟩, trivial⟩
theorem nrc160 : NRC C160 := by
 refine ⟨?_, fun x hx => ⟨trivial, trivial⟩⟩
 rintro ⟨l, v, ⟨⟩⟩ ⟨⟨f, hf, (rfl : v = _)⟩, _⟩
 exact ⟨rfl, nr_bad hf, trivial⟩
theorem nrc134 : NRC C134 := by
 refine ⟨?_, fun x hx => ⟨trivial, trivial⟩⟩
 rintro ⟨l, v, ⟨⟩⟩ ⟨⟨f, hf, (rfl : v = _)⟩, _⟩
 exact ⟨rfl, nr_bad hf, trivial⟩
theorem nrc89 : NRC C89 := ⟨fun x hx => ⟨okF_nr hx.1, rfl, trivial⟩, fun x hx => ⟨trivial, trivial⟩⟩
theorem nrc92 : NRC C92 := ⟨fun x hx => ⟨okF_nr hx.1, rfl, rfl, trivial⟩, fun x hx => ⟨trivial, trivial⟩⟩
theorem tokF {fs : List (Nat × Con)} (h : AllS Try.prog fs) : Tok Try.prog (TF fs) := tokg (T := TF fs) h trivial trivial invsV noCv
theorem snd95 : Sound Try.prog 95 C95 := fn_sound (T := TT []) (fn := Try.f95) (tok0 trivial) Try.func95 (by kernel_rfl) H0 vc95 (by kernel_rfl) (hC := nrc95)
theorem snd34 : Sound Try.prog 34 C34 := fn_sound (T := T30) (fn := Try.f34) (tokF ⟨snd95, trivial⟩) Try.func34 (by kernel_rfl) H0 vc34 (by kernel_rfl) (hC := nrcF)
theorem snd42 : Sound Try.prog 42 C42 := fn_sound (T := TT []) (fn := Try.f42) (tok0 trivial) Try.func42 (by kernel_rfl) H0 vc42 (by kernel_rfl) (hC := nrc42)
theorem snd80 : Sound Try.prog 80 C80 := fn_sound (T := TT [(123, C123)]) (fn := Try.f80) (tok0 ⟨snd123, trivial⟩) Try.func80 (by kernel_rfl) H0 vc80 (by kernel_rfl) (hC := nrc80)
theorem snd104 : Sound Try.prog 104 C104 := fn_sound (T := T104) (fn := Try.f104) (tok0 ⟨snd100, trivial⟩) Try.func104 (by kernel_rfl) H104 vc104 (by kernel_rfl) (hC := nrc104)
theorem snd55 : Sound Try.prog 55 C55 := fn_sound (T := T55) (fn := Try.f55) (tokF ⟨snd95, snd104, trivial⟩) Try.func55 (by kernel_rfl) H55 vc55 (by kernel_rfl) (hC := nrc55)
theorem snd94 : Sound Try.prog 94 C94 := fn_sound (T := TF []) (fn := Try.f94) (tokF trivial) Try.func94 (by kernel_rfl) H94 vc94 (by kernel_rfl) (hC := nrc94)
theorem snd93 : Sound Try.prog 93 C93 := fn_sound (T := T93) (fn := Try.f93) (tok0 ⟨snd139, trivial⟩) Try.func93 (by kernel_rfl) Hz2 vc93 (by kernel_rfl) (hC := nrc93)
theorem snd135 : Sound Try.prog 135 C135 := fn_sound (T := T135) (fn := Try.f135) (tok0 ⟨snd93, trivial⟩) Try.func135 (by kernel_rfl) H0 vc135 (by kernel_rfl) (hC := nrc135)
theorem sndVbad : SoundCv Try.prog Vbad := cv_of fun x hx => by
 obtain ⟨v, (l : List Int), ⟨⟩⟩ := x
 obtain ⟨⟨f, hf, (hv : v = badC f)⟩, hl⟩ := hx
 subst hv
 exact ⟨135, [.rptr [f]], [.slc false i64 l], C135, (l, .rptr [f], ()), snd135, .inl ⟨rfl, rfl⟩, ⟨⟨f, hf, rfl⟩, hl⟩, rfl, rfl⟩
theorem snd160 : Sound Try.prog 160 C160 := fn_sound (T := T160) (fn := Try.f160) (tokg (T := T160) trivial trivial trivial noInv (fun C h => by injection h with h; subst h; exact sndVbad)) Try.func160 (by kernel_rfl) H160 vc160 (by kernel_rfl) (hC := nrc160)
theorem snd134 : Sound Try.prog 134 C134 := fn_sound (T := T134) (fn := Try.f134) (tok0 ⟨snd160, trivial⟩) Try.func134 (by kernel_rfl) H0 vc134 (by kernel_rfl) (hC := nrc134)
theorem snd89 : Sound Try.prog 89 C89 := fn_sound (T := T89) (fn := Try.f89) (tok0 ⟨snd134, trivial⟩) Try.func89 (by kernel_rfl) H89 vc89 (by kernel_rfl) (hC := nrc89)
theorem snd92 : Sound Try.prog 92 C92 := fn_sound (T := T92) (fn := Try.f92) (tok0 ⟨snd89, snd93, trivial⟩) Try.func92 (by kernel_rfl) H0 vc92 (by kernel_rfl) (hC := nrc92)
end Fd
end
section
set_option linter.unusedVariables false
set_option linter.unusedSimpArgs false
set_option maxRecDepth 100000
namespace Fd
open Go Fw Go.Proofs

def Pl.recS (q : Int) (m : List (List Int)) : XO × List Int := Pl.ech q (2 * m.length - 1) (2 * m.length) (Pl.recX m m.length, Pl.recO m.length)
def Pl.rowsO (xo : XO) (r : Nat) : List (List Int) := (mrow xo.2 r).map (mrow xo.1)
def Pl.echR (q : Int) (m : List (List Int)) : List (List Int) := Pl.rowsO (Pl.recS q m).1 (2 * m.length - 1)
def Pl.echD (q : Int) (m : List (List Int)) : List (List Int) := Pl.rowsO (Pl.recS q m).1 (2 * m.length)
def Pl.echC (q : Int) (m : List (List Int)) : List Int := (Pl.recS q m).2
def ars4 : List (Nat × Fw.Obj) := [(0, .aren 3 i64 []), (1, .abox 107 []), (2, .aren 30 (.ref 0) []), (4, .aren 3 i64 [])]
def Pl.denL (q : Int) (b : List Int) : List (List Int) → Option (List Int)
 | [] => none
 | w :: l => bif decide (Pl.dot q w b ≠ 0) then some w else Pl.denL q b l
def Pl.den (q : Int) (m : List (List Int)) (b : List Int) : Option (List Int) := Pl.denL q b ((Pl.echD q m).drop (Pl.echC q m).length)
def Pl.solL (q : Int) (b : List Int) : List Int → List (List Int) → List Int → List Int
 | c :: cs, r :: rs, x => Pl.solL q b cs rs (x.set c.toNat (Pl.dot q r b))
 | _, _, x => x
def Pl.sol (q : Int) (m : List (List Int)) (b : List Int) : List Int := Pl.solL q b (Pl.echC q m) (Pl.echD q m) (List.replicate (Pl.wide m) 0)
def Pl.okSy (x : D × List (List Int) × List Int × Unit) : Prop := Pl.okF x.1 ∧ Pl.okMM x.2.1 ∧ x.2.2.1.length ≤ 1000000000
def C101s : Con := ⟨[.raw, LL, L], [L, .raw], fun (x : D × List (List Int) × List Int × Unit) => Pl.okSy x ∧ Pl.sys (Pl.qF x.1) x.2.1 x.2.2.1 = 0 ∧ Pl.den (Pl.qF x.1) x.2.1 x.2.2.1 = none, fun (x : D × List (List Int) × List Int × Unit) => (Pl.sol (Pl.qF x.1) x.2.1 x.2.2.1, .val (.slice none 0 0), ()), none⟩
def Pl.denW (q : Int) (m : List (List Int)) (b : List Int) : List Int := (Pl.den q m b).getD []
def C101d : Con := ⟨[.raw, LL, L], [L, L], fun (x : D × List (List Int) × List Int × Unit) => Pl.okSy x ∧ Pl.sys (Pl.qF x.1) x.2.1 x.2.2.1 = 0 ∧ Pl.den (Pl.qF x.1) x.2.1 x.2.2.1 ≠ none, fun (x : D × List (List Int) × List Int × Unit) => ([], Pl.denW (Pl.qF x.1) x.2.1 x.2.2.1, ()), none⟩
def T101 : Ctx := ⟨tt, [(94, C94)], [], none, [(90, pt90), (91, pt91)], 100, [0, 1, 2, 4], [], 0, [], ars4, [], []⟩
def H101 : Hints := ⟨[], [], [(0, ⟨[0, 1, 2, 8, 9, 26, 27], [(6, so), (28, si), (0, s0), (1, .ad 107), (2, sO), (4, s0)]⟩), (2, ⟨[0, 2, 8, 47, 48], [(6, so), (49, si), (0, s0), (1, .ad 107), (2, sO), (4, s0)]⟩)], [90, 91], [(3, ([8, 9], [0, 1, 2, 4]))]⟩
def T46 (C : Con) : Ctx := TT [(92, C92), (101, C)]
def Pl.deny (q : Int) (m : List (List Int)) (b : List Int) : List Int × Bool := bif decide (Pl.sys q m b ≠ 0) then ([], false) else (match Pl.den q m b with
 | some w => (w, true)
 | none => ([], false))
def Cdeny (p : D × List (List Int) × List Int × Unit → Prop) : Con := ⟨[.raw, LL, L], [L, B], fun (x : D × List (List Int) × List Int × Unit) => Pl.okSy x ∧ p x, fun (x : D × List (List Int) × List Int × Unit) => ((Pl.deny (Pl.qF x.1) x.2.1 x.2.2.1).1, (Pl.deny (Pl.qF x.1) x.2.1 x.2.2.1).2, ()), none⟩
def Pl.isS (x : D × List (List Int) × List Int × Unit) : Prop := Pl.sys (Pl.qF x.1) x.2.1 x.2.2.1 = 0 → Pl.den (Pl.qF x.1) x.2.1 x.2.2.1 = none
def Pl.isD (x : D × List (List Int) × List Int × Unit) : Prop := Pl.sys (Pl.qF x.1) x.2.1 x.2.2.1 = 0 ∧ Pl.den (Pl.qF x.1) x.2.1 x.2.2.1 ≠ none
def C46s : Con := Cdeny Pl.isS
def C46d : Con := Cdeny Pl.isD
def C46 : Con := Cdeny fun _ => True
end Fd
end
section
set_option linter.unusedVariables false
set_option linter.unusedSimpArgs false
set_option linter.unusedSectionVars false
set_option maxRecDepth 100000
namespace Fd
open Go Fw Go.Proofs

section
variable {q : Int} {r1 r2 n w : Nat} {xs : XS} {os : OS}
theorem kf_bound {col : Int} {N : Nat} (hl : Pl.len os r1 = N) : ∀ (f : Nat) (k : Int), k ≤ N → k ≤ Pl.kf xs os r1 col f k ∧ Pl.kf xs os r1 col f k ≤ N
 | 0, k, h => ⟨Int.le_refl _, h⟩
 | f + 1, k, h => by
  rw [Pl.kf]
  cases hb : (decide (k < (Pl.len os r1 : Int)) && decide (Pl.ent xs os r1 k col = 0)) with
  | false => exact ⟨Int.le_refl _, h⟩
  | true =>
   have h1 : k < (Pl.len os r1 : Int) := by simp at hb; exact hb.1
   rw [hl] at h1
   have := kf_bound (col := col) hl f (k + 1) (by omega)
   rw [cond_true]
   exact ⟨by omega, this.2⟩
theorem Rec_okv (hq : isQ q) : Pl.okA (arD q) ∧ Pl.qA (arD q) = q := ⟨okA_ar hq, qA_ar hq⟩
theorem Rec_elim1 (hq : isQ q) (h : Pl.Rec q r1 r2 n w xs os) {at_ col i : Int} (a0 : 0 ≤ at_) (a1 : at_ < n) (c0 : 0 ≤ col) (c1 : col < w) (i0 : 0 ≤ i) (i1 : i < n) : Pl.Rec q r1 r2 n w (Pl.elim1 q r1 r2 os at_ col i xs) os := by
 by_cases h1 : i = at_
 ·rw [elim_no (.inl h1)]; exact h
 ·by_cases h2 : Pl.ent xs os r1 i col = 0
  ·rw [elim_no (.inr h2)]; exact h
  ·rw [elim_yes h1 h2]
   obtain ⟨v1, v2⟩ := Rec_okv hq
   exact (Rec_tk hq v1 v2 h i0 i1 a0 a1 h1 (Rec_ent h i0 i1 c0 c1).2.2).2
theorem Rec_elim (hq : isQ q) {at_ col : Int} (a0 : 0 ≤ at_) (a1 : at_ < n) (c0 : 0 ≤ col) (c1 : col < w) : ∀ (m : Nat) {xs : XS}, m ≤ n → Pl.Rec q r1 r2 n w xs os → Pl.Rec q r1 r2 n w (Pl.elim q r1 r2 os at_ col m xs) os
 | 0, xs, _, h => h
 | m + 1, xs, hm, h => Rec_elim1 hq (Rec_elim hq a0 a1 c0 c1 m (by omega) h) a0 a1 c0 c1 (by omega) (by omega)
theorem Rec_col (hq : isQ q) (h : Pl.Rec q r1 r2 n w xs os) {cs : List Int} {col : Int} (hcs : cs.length ≤ n) (c0 : 0 ≤ col) (c1 : col < w) :
  Pl.Rec q r1 r2 n w (Pl.col q r1 r2 (xs, os) cs col).1.1 (Pl.col q r1 r2 (xs, os) cs col).1.2 ∧ (Pl.col q r1 r2 (xs, os) cs col).2.length ≤ n ∧ ((Pl.col q r1 r2 (xs, os) cs col).2 = cs ∨ (Pl.col q r1 r2 (xs, os) cs col).2 = cs ++ [col]) := by
 have hl : Pl.len os r1 = n := h.l1
 have hk := kf_bound (xs := xs) (col := col) hl (Pl.len os r1 + 1) cs.length (by omega)
 by_cases e : Pl.colK r1 (xs, os) cs.length col = (Pl.len os r1 : Int)
 ·rw [col_no e]; exact ⟨h, hcs, .inl rfl⟩
 ·obtain ⟨k, hkk⟩ : ∃ k, Pl.colK r1 (xs, os) cs.length col = k := ⟨_, rfl⟩
  rw [col_yes (n := n) hkk hl (by rw [← hkk, ← hl]; exact e)]
  rw [hl] at e
  have e1 : Pl.colK r1 (xs, os) cs.length col = Pl.kf xs os r1 col (Pl.len os r1 + 1) cs.length := rfl
  have h2 := (Rec_sw h (i := cs.length) (k := k) (by omega) (by omega) (by omega) (by omega)).2
  obtain ⟨v1, v2⟩ := Rec_okv hq
  have h3 := (Rec_sc hq v1 v2 h2 (i := cs.length) (c := Pl.inv q (Pl.ent xs (Pl.colO r1 r2 os cs.length k) r1 cs.length col)) (by omega) (by omega) (inv_inQ hq _)).2
  exact ⟨Rec_elim hq (by omega) (by omega) c0 c1 n (Nat.le_refl _) h3, by rw [List.length_append]; simp; omega, .inr rfl⟩
theorem Rec_cols (hq : isQ q) (h : Pl.Rec q r1 r2 n w xs os) : ∀ (j : Nat), j ≤ w → Pl.Rec q r1 r2 n w (Pl.cols q r1 r2 (xs, os) j).1.1 (Pl.cols q r1 r2 (xs, os) j).1.2 ∧ (Pl.cols q r1 r2 (xs, os) j).2.length ≤ n ∧ ∀ c ∈ (Pl.cols q r1 r2 (xs, os) j).2, 0 ≤ c ∧ c < w
 | 0, _ => ⟨h, Nat.zero_le _, fun c hc => by cases hc⟩
 | j + 1, hj => by
  obtain ⟨h1, h2, h3⟩ := Rec_cols hq h j (by omega)
  rw [Pl.cols]
  obtain ⟨k1, k2, k3⟩ := Rec_col hq h1 (cs := (Pl.cols q r1 r2 (xs, os) j).2) (col := (j : Int)) h2 (by omega) (by omega)
  refine ⟨k1, k2, fun c hc => ?_⟩
  rcases k3 with k3 | k3
  ·have hc' : c ∈ (Pl.col q r1 r2 (Pl.cols q r1 r2 (xs, os) j).1 (Pl.cols q r1 r2 (xs, os) j).2 (j : Int)).2 := hc
   rw [show Pl.col q r1 r2 (Pl.cols q r1 r2 (xs, os) j).1 = Pl.col q r1 r2 ((Pl.cols q r1 r2 (xs, os) j).1.1, (Pl.cols q r1 r2 (xs, os) j).1.2) from rfl, k3] at hc'
   exact h3 c hc'
  ·have hc' : c ∈ (Pl.col q r1 r2 (Pl.cols q r1 r2 (xs, os) j).1 (Pl.cols q r1 r2 (xs, os) j).2 (j : Int)).2 := hc
   rw [show Pl.col q r1 r2 (Pl.cols q r1 r2 (xs, os) j).1 = Pl.col q r1 r2 ((Pl.cols q r1 r2 (xs, os) j).1.1, (Pl.cols q r1 r2 (xs, os) j).1.2) from rfl, k3] at hc'
   rcases List.mem_append.1 hc' with hc' | hc'
   ·exact h3 c hc'
   ·have : c = (j : Int) := by simpa using hc'
    subst this
    omega
end
theorem recX_get (m : List (List Int)) : ∀ (n i : Nat), i < n → (Pl.recX m n)[2 * i]? = some (some (Pl.unitR m.length i)) ∧ (Pl.recX m n)[2 * i + 1]? = some (some (m.getD i []))
 | 0, i, h => by omega
 | n + 1, i, h => by
  have hl := recX_len m n
  rw [Pl.recX]
  by_cases e : i = n
  ·subst e
   rw [List.getElem?_append_right (by omega), List.getElem?_append_right (by omega), hl, Nat.sub_self, show 2 * i + 1 - 2 * i = 1 by omega]
   exact ⟨rfl, rfl⟩
  ·rw [List.getElem?_append_left (by omega), List.getElem?_append_left (by omega)]
   exact recX_get m n i (by omega)
theorem recR_mem : ∀ {n r : Nat}, r ∈ Pl.recR n ↔ ∃ i, i < n ∧ r = 2 * i + 2
 | 0, r => by simp [Pl.recR]
 | n + 1, r => by
  rw [Pl.recR, List.mem_append, recR_mem (n := n), List.mem_singleton]
  constructor
  ·rintro (⟨i, h, rfl⟩ | rfl)
   ·exact ⟨i, by omega, rfl⟩
   ·exact ⟨n, by omega, rfl⟩
  ·rintro ⟨i, h, rfl⟩
   by_cases e : i = n
   ·subst e; exact .inr rfl
   ·exact .inl ⟨i, by omega, rfl⟩
theorem recW_mem : ∀ {n r : Nat}, r ∈ Pl.recW n ↔ ∃ i, i < n ∧ r = 2 * i + 1
 | 0, r => by simp [Pl.recW]
 | n + 1, r => by
  rw [Pl.recW, List.mem_append, recW_mem (n := n), List.mem_singleton]
  constructor
  ·rintro (⟨i, h, rfl⟩ | rfl)
   ·exact ⟨i, by omega, rfl⟩
   ·exact ⟨n, by omega, rfl⟩
  ·rintro ⟨i, h, rfl⟩
   by_cases e : i = n
   ·subst e; exact .inr rfl
   ·exact .inl ⟨i, by omega, rfl⟩
theorem recR_nd : ∀ n, (Pl.recR n).Nodup
 | 0 => List.nodup_nil
 | n + 1 => by
  rw [Pl.recR, List.nodup_append]
  refine ⟨recR_nd n, by simp, fun a ha b hb => ?_⟩
  obtain ⟨i, hi, rfl⟩ := recR_mem.1 ha
  have := List.mem_singleton.1 hb
  omega
theorem recW_nd : ∀ n, (Pl.recW n).Nodup
 | 0 => List.nodup_nil
 | n + 1 => by
  rw [Pl.recW, List.nodup_append]
  refine ⟨recW_nd n, by simp, fun a ha b hb => ?_⟩
  obtain ⟨i, hi, rfl⟩ := recW_mem.1 ha
  have := List.mem_singleton.1 hb
  omega
theorem recO_rows {n : Nat} (h : 0 < n) : (mal (Pl.recO n) (2 * n - 1) ∧ mrow (Pl.recO n) (2 * n - 1) = Pl.recR n) ∧ mal (Pl.recO n) (2 * n) ∧ mrow (Pl.recO n) (2 * n) = Pl.recW n := by
 obtain ⟨k, rfl⟩ : ∃ k, n = k + 1 := ⟨n - 1, by omega⟩
 refine ⟨recO_1 _, ?_⟩
 rw [show 2 * (k + 1) = (2 * k + 1) + 1 by omega, Pl.recO]
 exact row_at (by rw [List.getElem?_append_right (by simp)]; simp)
theorem Rec_new {q : Int} (hq : isQ q) {m : List (List Int)} {w : Nat} (h0 : 0 < m.length) (hn : m.length ≤ 1000000) (hw : w ≤ 1000000000) (hr : ∀ r ∈ m, r.length = w ∧ ∀ x ∈ r, Pl.inQ q x) : Pl.Rec q (2 * m.length - 1) (2 * m.length) m.length w (Pl.recX m m.length) (Pl.recO m.length) := by
 obtain ⟨⟨a1, a2⟩, b1, b2⟩ := recO_rows h0
 refine ⟨a1, b1, by omega, by omega, by omega, by rw [a2, recR_len], by rw [b2, recW_len], ?_, ?_, ?_, by omega, hw⟩
 ·rw [a2, b2, List.nodup_append]
  refine ⟨recR_nd _, recW_nd _, fun a ha b hb => ?_⟩
  obtain ⟨i, _, rfl⟩ := recR_mem.1 ha
  obtain ⟨j, _, rfl⟩ := recW_mem.1 hb
  omega
 ·rw [a2]
  intro r hr'
  obtain ⟨i, hi, rfl⟩ := recR_mem.1 hr'
  obtain ⟨c1, c2⟩ := row_at (recX_get m m.length i hi).2
  obtain ⟨d1, d2⟩ := hr _ (rowD_mem hi)
  exact ⟨c1, by omega, by rw [c2]; exact d1, by rw [c2]; exact d2⟩
 ·rw [b2]
  intro r hr'
  obtain ⟨i, hi, rfl⟩ := recW_mem.1 hr'
  obtain ⟨c1, c2⟩ := row_at (recX_get m m.length i hi).1
  refine ⟨c1, by omega, by rw [c2]; unfold Pl.unitR; rw [List.length_set, List.length_replicate], ?_⟩
  rw [c2]
  unfold Pl.unitR
  intro x hx
  rcases List.mem_or_eq_of_mem_set hx with h | rfl
  ·rw [List.eq_of_mem_replicate h]; exact zero_inQ hq
  ·exact one_inQ hq
theorem els_in {q : Int} {l : List Int} (h : Pl.els q l = true) : ∀ x ∈ l, Pl.inQ q x := by
 intro x hx
 unfold Pl.els at h
 have := List.all_eq_true.1 h x hx
 simp at this
 exact this
theorem shape_0 {q : Int} {m : List (List Int)} (h : Pl.shape q m = 0) : m.length ≤ 64 ∧ Pl.wide m ≤ 64 ∧ ∀ r ∈ m, r.length = Pl.wide m ∧ ∀ x ∈ r, Pl.inQ q x := by
 unfold Pl.shape at h
 by_cases h1 : m.length > 64
 ·rw [decide_eq_true h1] at h; simp at h
 rw [decide_eq_false h1, Bool.false_or] at h
 have h2 : ¬ (m.length > 0 ∧ Pl.wide m > 64) := fun hh => by rw [decide_eq_true hh.1, decide_eq_true hh.2] at h; simp at h
 have e : (decide (m.length > 0) && decide (Pl.wide m > 64)) = false := by
  by_cases c1 : m.length > 0
  ·rw [decide_eq_false (fun c2 => h2 ⟨c1, c2⟩)]; simp
  ·rw [decide_eq_false c1]; rfl
 rw [e, cond_false] at h
 cases h3 : m.any fun r => decide (r.length ≠ Pl.wide m) with
 | true => rw [h3] at h; simp at h
 | false =>
  rw [h3, cond_false] at h
  cases h4 : m.any fun r => !Pl.els q r with
  | true => rw [h4] at h; simp at h
  | false =>
   refine ⟨by omega, ?_, fun r hr => ⟨?_, ?_⟩⟩
   ·by_cases c1 : m.length > 0
    ·omega
    ·have : m = [] := List.length_eq_zero_iff.1 (by omega)
     subst this; exact Nat.zero_le _
   ·have := List.any_eq_false.1 h3 r hr
    simpa using this
   ·have := List.any_eq_false.1 h4 r hr
    exact els_in (by simpa using this)
structure Pl.Fin (q : Int) (m : List (List Int)) : Prop where
 m1 : mal (Pl.recS q m).1.2 (2 * m.length - 1)
 m2 : mal (Pl.recS q m).1.2 (2 * m.length)
 a1 : ∀ i ∈ mrow (Pl.recS q m).1.2 (2 * m.length - 1), mal (Pl.recS q m).1.1 i
 a2 : ∀ i ∈ mrow (Pl.recS q m).1.2 (2 * m.length), mal (Pl.recS q m).1.1 i
 lR : (Pl.echR q m).length = m.length
 lD : (Pl.echD q m).length = m.length
 rR : ∀ r ∈ Pl.echR q m, r.length = Pl.wide m ∧ ∀ x ∈ r, Pl.inQ q x
 rD : ∀ r ∈ Pl.echD q m, r.length = m.length ∧ ∀ x ∈ r, Pl.inQ q x
 lC : (Pl.echC q m).length ≤ m.length
 cC : ∀ c ∈ Pl.echC q m, 0 ≤ c ∧ c < Pl.wide m
theorem rows_good {q : Int} {xs : XS} {w : Nat} {l : List Nat} (h : Pl.good q xs w l) : ∀ r ∈ l.map (mrow xs), r.length = w ∧ ∀ x ∈ r, Pl.inQ q x := by
 intro r hr
 obtain ⟨i, hi, rfl⟩ := List.mem_map.1 hr
 exact (h i hi).2.2
theorem pre_new {q : Int} (hq : isQ q) {m : List (List Int)} (hs : Pl.shape q m = 0) : Pl.okMx m ∧ Pl.preE (Pl.tyA q) (Pl.tyA q) (Pl.datA q) (Pl.datA q) (2 * m.length - 1) (2 * m.length) (Pl.recX m m.length) (Pl.recO m.length) ∧ Pl.Fin q m := by
 obtain ⟨h1, h2, h3⟩ := shape_0 hs
 have hM : Pl.okMx m := ⟨by omega, fun r hr => by rw [(h3 r hr).1]; omega⟩
 refine ⟨hM, ?_⟩
 by_cases h0 : 0 < m.length
 ·have hR := Rec_new hq h0 (by omega) (show Pl.wide m ≤ 1000000000 by omega) h3
  have hqA : Pl.qA (.iface (Pl.tyA q) (Pl.datA q)) = q := qA_ar hq
  refine ⟨⟨okA_ar hq, rfl, hR.m1, .inr ⟨_, _, h0, by rw [hqA]; exact hR⟩⟩, ?_⟩
  have hl : Pl.len (Pl.recO m.length) (2 * m.length - 1) ≠ 0 := by show (mrow _ _).length ≠ 0; rw [hR.l1]; omega
  have hw0 : (mrow (Pl.recX m m.length) (Pl.ri (Pl.recO m.length) (2 * m.length - 1) 0)).length = Pl.wide m := (hR.g1 _ (ri_mem (by omega) (by rw [hR.l1]; omega))).2.2.1
  have hE : Pl.recS q m = Pl.cols q (2 * m.length - 1) (2 * m.length) (Pl.recX m m.length, Pl.recO m.length) (Pl.wide m) := by
   unfold Pl.recS Pl.ech
   rw [decide_eq_false hl, cond_false, hw0]
  obtain ⟨k1, k2, k3⟩ := Rec_cols hq hR (Pl.wide m) (Nat.le_refl _)
  rw [← hE] at k1 k2 k3
  exact ⟨k1.m1, k1.m2, fun i hi => (k1.g1 i hi).1, fun i hi => (k1.g2 i hi).1, by unfold Pl.echR Pl.rowsO; rw [List.length_map, k1.l1], by unfold Pl.echD Pl.rowsO; rw [List.length_map, k1.l2], rows_good k1.g1, rows_good k1.g2, k2, k3⟩
 ·have e : m = [] := List.length_eq_zero_iff.1 (by omega)
  subst e
  refine ⟨⟨okA_ar hq, rfl, trivial, .inl rfl⟩, ?_⟩
  have hE : Pl.recS q [] = (([], []), []) := rfl
  exact ⟨by rw [hE]; exact trivial, by rw [hE]; exact trivial, (fun i hi => by (rw [hE] at hi; cases hi)), (fun i hi => by (rw [hE] at hi; cases hi)), (by unfold Pl.echR Pl.rowsO; rw [hE]; rfl), (by unfold Pl.echD Pl.rowsO; rw [hE]; rfl),
   (fun r hr => by (unfold Pl.echR Pl.rowsO at hr; rw [hE] at hr; cases hr)), (fun r hr => by (unfold Pl.echD Pl.rowsO at hr; rw [hE] at hr; cases hr)), (by unfold Pl.echC; rw [hE]; exact Nat.zero_le _), (fun c hc => by (unfold Pl.echC at hc; rw [hE] at hc; cases hc))⟩
end Fd
end
section
set_option linter.unusedVariables false
set_option linter.unusedSimpArgs false
set_option maxRecDepth 100000
namespace Fd
open Go Fw Go.Proofs

theorem recS_eq {q : Int} (hq : isQ q) (m : List (List Int)) : Pl.ech (Pl.qA (D.iface (Pl.tyA q) (Pl.datA q))) (2 * m.length - 1) (2 * m.length) (Pl.recX m m.length, Pl.recO m.length) = Pl.recS q m := by
 rw [show Pl.qA (D.iface (Pl.tyA q) (Pl.datA q)) = q from qA_ar hq]; rfl
theorem rowsD_eq (q : Int) (m : List (List Int)) : List.map (mrow (Pl.recS q m).1.1) (mrow (Pl.recS q m).1.2 (2 * m.length)) = Pl.echD q m := rfl
theorem den_sys {q : Int} {m : List (List Int)} {b : List Int} (h : Pl.sys q m b = 0) : Pl.shape q m = 0 ∧ b.length = m.length ∧ ∀ x ∈ b, Pl.inQ q x := by
 unfold Pl.sys at h
 by_cases h1 : Pl.shape q m = 0
 ·rw [decide_eq_false (not_not_intro h1), cond_false] at h
  by_cases h2 : b.length = m.length
  ·rw [decide_eq_false (not_not_intro h2), cond_false] at h
   cases h3 : Pl.els q b with
   | false => rw [h3] at h; simp at h
   | true => exact ⟨h1, h2, els_in h3⟩
  ·rw [decide_eq_true h2] at h; simp at h
 ·rw [decide_eq_true h1, cond_true] at h; exact absurd h h1
theorem sub_drop {α : Type} (l : List α) (k : Nat) : sub l (k : Int) (l.length : Int) = l.drop k := by
 unfold sub
 simp
theorem solL_nil (q : Int) (b : List Int) (rs : List (List Int)) (x : List Int) : Pl.solL q b [] rs x = x := by
 cases rs <;> rfl
theorem rd_rr (m : List (List Int)) (i : Nat) : rd i64.slc m (i : Int) = m.getD i [] := rfl
theorem vc101s : ∀ x, C101s.pre x → VC T101 H101 Try.f101 C101s x := by
 rintro ⟨v, (m : List (List Int)), (b : List Int), ⟨⟩⟩ ⟨⟨⟨q, hq, (rfl : v = _)⟩, (hm : Pl.okMM m), (hb : b.length ≤ 1000000000)⟩, (hs : Pl.sys (Pl.qF (fieldD q)) m b = 0), (hd : Pl.den (Pl.qF (fieldD q)) m b = none)⟩
 rw [qF_d] at hs hd
 obtain ⟨s1, s2, s3⟩ := den_sys hs
 obtain ⟨p1, p2, F⟩ := pre_new hq s1
 obtain ⟨c1, c2⟩ := cst_row (Pl.recS q m).2
 have hp : C101s.post (fieldD q, m, b, ()) = (Pl.sol q m b, .val (.slice none 0 0), ()) := rfl
 refine cast (α := Pl.okMx m ∧ (Pl.preE (Pl.tyA q) (Pl.tyA q) (Pl.datA q) (Pl.datA q) ((2 : Nat) * m.length - (1 : Nat)) ((2 : Nat) * m.length) (Pl.recX m m.length) (Pl.recO m.length) ∧ ([] : List (Option (List Int))) = []) ∧ mal (Pl.ech (Pl.qA (D.iface (Pl.tyA q) (Pl.datA q))) ((2 : Nat) * m.length - (1 : Nat)) ((2 : Nat) * m.length) (Pl.recX m m.length, Pl.recO m.length)).1.2 ((2 : Nat) * m.length - (1 : Nat)) ∧ (∀ (i : (Ty.ref (0 : Nat)).El), i ∈ mrow (Pl.ech (Pl.qA (D.iface (Pl.tyA q) (Pl.datA q))) ((2 : Nat) * m.length - (1 : Nat)) ((2 : Nat) * m.length) (Pl.recX m m.length, Pl.recO m.length)).1.2 ((2 : Nat) * m.length - (1 : Nat)) → mal (Pl.ech (Pl.qA (D.iface (Pl.tyA q) (Pl.datA q))) ((2 : Nat) * m.length - (1 : Nat)) ((2 : Nat) * m.length) (Pl.recX m m.length, Pl.recO m.length)).1.1 i) ∧ mal (Pl.ech (Pl.qA (D.iface (Pl.tyA q) (Pl.datA q))) ((2 : Nat) * m.length - (1 : Nat)) ((2 : Nat) * m.length) (Pl.recX m m.length, Pl.recO m.length)).1.2 ((2 : Nat) * m.length) ∧ (∀ (i : (Ty.ref (0 : Nat)).El), i ∈ mrow (Pl.ech (Pl.qA (D.iface (Pl.tyA q) (Pl.datA q))) ((2 : Nat) * m.length - (1 : Nat)) ((2 : Nat) * m.length) (Pl.recX m m.length, Pl.recO m.length)).1.2 ((2 : Nat) * m.length) → mal (Pl.ech (Pl.qA (D.iface (Pl.tyA q) (Pl.datA q))) ((2 : Nat) * m.length - (1 : Nat)) ((2 : Nat) * m.length) (Pl.recX m m.length, Pl.recO m.length)).1.1 i) ∧ mal (Pl.cst (Pl.ech (Pl.qA (D.iface (Pl.tyA q) (Pl.datA q))) ((2 : Nat) * m.length - (1 : Nat)) ((2 : Nat) * m.length) (Pl.recX m m.length, Pl.recO m.length)).2) (Pl.ech (Pl.qA (D.iface (Pl.tyA q) (Pl.datA q))) ((2 : Nat) * m.length - (1 : Nat)) ((2 : Nat) * m.length) (Pl.recX m m.length, Pl.recO m.length)).2.length ∧ (0 : Int) ≤ (↑(mrow (Pl.cst (Pl.ech (Pl.qA (D.iface (Pl.tyA q) (Pl.datA q))) ((2 : Nat) * m.length - (1 : Nat)) ((2 : Nat) * m.length) (Pl.recX m m.length, Pl.recO m.length)).2) (Pl.ech (Pl.qA (D.iface (Pl.tyA q) (Pl.datA q))) ((2 : Nat) * m.length - (1 : Nat)) ((2 : Nat) * m.length) (Pl.recX m m.length, Pl.recO m.length)).2.length).length : Int) ∧ (↑(mrow (Pl.cst (Pl.ech (Pl.qA (D.iface (Pl.tyA q) (Pl.datA q))) ((2 : Nat) * m.length - (1 : Nat)) ((2 : Nat) * m.length) (Pl.recX m m.length, Pl.recO m.length)).2) (Pl.ech (Pl.qA (D.iface (Pl.tyA q) (Pl.datA q))) ((2 : Nat) * m.length - (1 : Nat)) ((2 : Nat) * m.length) (Pl.recX m m.length, Pl.recO m.length)).2.length).length : Int) ≤ (↑(List.map (mrow (Pl.ech (Pl.qA (D.iface (Pl.tyA q) (Pl.datA q))) ((2 : Nat) * m.length - (1 : Nat)) ((2 : Nat) * m.length) (Pl.recX m m.length, Pl.recO m.length)).1.1) (mrow (Pl.ech (Pl.qA (D.iface (Pl.tyA q) (Pl.datA q))) ((2 : Nat) * m.length - (1 : Nat)) ((2 : Nat) * m.length) (Pl.recX m m.length, Pl.recO m.length)).1.2 ((2 : Nat) * m.length))).length : Int) ∧ ∃ (n : Nat), itl (fun (G : List Int × Int × List (Option (List Int)) × PUnit × List (Option (List Nat)) × List (Option (List Int)) × PUnit → Prop) (x : List Int × Int × List (Option (List Int)) × PUnit × List (Option (List Nat)) × List (Option (List Int)) × PUnit) => Br (decide (x.2.1 < (↑(sub (List.map (mrow (Pl.ech (Pl.qA (D.iface (Pl.tyA q) (Pl.datA q))) ((2 : Nat) * m.length - (1 : Nat)) ((2 : Nat) * m.length) (Pl.recX m m.length, Pl.recO m.length)).1.1) (mrow (Pl.ech (Pl.qA (D.iface (Pl.tyA q) (Pl.datA q))) ((2 : Nat) * m.length - (1 : Nat)) ((2 : Nat) * m.length) (Pl.recX m m.length, Pl.recO m.length)).1.2 ((2 : Nat) * m.length))) (↑(mrow (Pl.cst (Pl.ech (Pl.qA (D.iface (Pl.tyA q) (Pl.datA q))) ((2 : Nat) * m.length - (1 : Nat)) ((2 : Nat) * m.length) (Pl.recX m m.length, Pl.recO m.length)).2) (Pl.ech (Pl.qA (D.iface (Pl.tyA q) (Pl.datA q))) ((2 : Nat) * m.length - (1 : Nat)) ((2 : Nat) * m.length) (Pl.recX m m.length, Pl.recO m.length)).2.length).length : Int) (↑(List.map (mrow (Pl.ech (Pl.qA (D.iface (Pl.tyA q) (Pl.datA q))) ((2 : Nat) * m.length - (1 : Nat)) ((2 : Nat) * m.length) (Pl.recX m m.length, Pl.recO m.length)).1.1) (mrow (Pl.ech (Pl.qA (D.iface (Pl.tyA q) (Pl.datA q))) ((2 : Nat) * m.length - (1 : Nat)) ((2 : Nat) * m.length) (Pl.recX m m.length, Pl.recO m.length)).1.2 ((2 : Nat) * m.length))).length : Int)).length : Int))) ((0 : Int) ≤ x.2.1 ∧ x.2.1 < (↑(sub (List.map (mrow (Pl.ech (Pl.qA (D.iface (Pl.tyA q) (Pl.datA q))) ((2 : Nat) * m.length - (1 : Nat)) ((2 : Nat) * m.length) (Pl.recX m m.length, Pl.recO m.length)).1.1) (mrow (Pl.ech (Pl.qA (D.iface (Pl.tyA q) (Pl.datA q))) ((2 : Nat) * m.length - (1 : Nat)) ((2 : Nat) * m.length) (Pl.recX m m.length, Pl.recO m.length)).1.2 ((2 : Nat) * m.length))) (↑(mrow (Pl.cst (Pl.ech (Pl.qA (D.iface (Pl.tyA q) (Pl.datA q))) ((2 : Nat) * m.length - (1 : Nat)) ((2 : Nat) * m.length) (Pl.recX m m.length, Pl.recO m.length)).2) (Pl.ech (Pl.qA (D.iface (Pl.tyA q) (Pl.datA q))) ((2 : Nat) * m.length - (1 : Nat)) ((2 : Nat) * m.length) (Pl.recX m m.length, Pl.recO m.length)).2.length).length : Int) (↑(List.map (mrow (Pl.ech (Pl.qA (D.iface (Pl.tyA q) (Pl.datA q))) ((2 : Nat) * m.length - (1 : Nat)) ((2 : Nat) * m.length) (Pl.recX m m.length, Pl.recO m.length)).1.1) (mrow (Pl.ech (Pl.qA (D.iface (Pl.tyA q) (Pl.datA q))) ((2 : Nat) * m.length - (1 : Nat)) ((2 : Nat) * m.length) (Pl.recX m m.length, Pl.recO m.length)).1.2 ((2 : Nat) * m.length))).length : Int)).length : Int) ∧ (Pl.okF (D.rptr (fieldC q)) ∧ Pl.inAll (Pl.qF (D.rptr (fieldC q))) (rd i64.slc (sub (List.map (mrow (Pl.ech (Pl.qA (D.iface (Pl.tyA q) (Pl.datA q))) ((2 : Nat) * m.length - (1 : Nat)) ((2 : Nat) * m.length) (Pl.recX m m.length, Pl.recO m.length)).1.1) (mrow (Pl.ech (Pl.qA (D.iface (Pl.tyA q) (Pl.datA q))) ((2 : Nat) * m.length - (1 : Nat)) ((2 : Nat) * m.length) (Pl.recX m m.length, Pl.recO m.length)).1.2 ((2 : Nat) * m.length))) (↑(mrow (Pl.cst (Pl.ech (Pl.qA (D.iface (Pl.tyA q) (Pl.datA q))) ((2 : Nat) * m.length - (1 : Nat)) ((2 : Nat) * m.length) (Pl.recX m m.length, Pl.recO m.length)).2) (Pl.ech (Pl.qA (D.iface (Pl.tyA q) (Pl.datA q))) ((2 : Nat) * m.length - (1 : Nat)) ((2 : Nat) * m.length) (Pl.recX m m.length, Pl.recO m.length)).2.length).length : Int) (↑(List.map (mrow (Pl.ech (Pl.qA (D.iface (Pl.tyA q) (Pl.datA q))) ((2 : Nat) * m.length - (1 : Nat)) ((2 : Nat) * m.length) (Pl.recX m m.length, Pl.recO m.length)).1.1) (mrow (Pl.ech (Pl.qA (D.iface (Pl.tyA q) (Pl.datA q))) ((2 : Nat) * m.length - (1 : Nat)) ((2 : Nat) * m.length) (Pl.recX m m.length, Pl.recO m.length)).1.2 ((2 : Nat) * m.length))).length : Int)) x.2.1) ∧ Pl.inAll (Pl.qF (D.rptr (fieldC q))) b ∧ List.length (rd i64.slc (sub (List.map (mrow (Pl.ech (Pl.qA (D.iface (Pl.tyA q) (Pl.datA q))) ((2 : Nat) * m.length - (1 : Nat)) ((2 : Nat) * m.length) (Pl.recX m m.length, Pl.recO m.length)).1.1) (mrow (Pl.ech (Pl.qA (D.iface (Pl.tyA q) (Pl.datA q))) ((2 : Nat) * m.length - (1 : Nat)) ((2 : Nat) * m.length) (Pl.recX m m.length, Pl.recO m.length)).1.2 ((2 : Nat) * m.length))) (↑(mrow (Pl.cst (Pl.ech (Pl.qA (D.iface (Pl.tyA q) (Pl.datA q))) ((2 : Nat) * m.length - (1 : Nat)) ((2 : Nat) * m.length) (Pl.recX m m.length, Pl.recO m.length)).2) (Pl.ech (Pl.qA (D.iface (Pl.tyA q) (Pl.datA q))) ((2 : Nat) * m.length - (1 : Nat)) ((2 : Nat) * m.length) (Pl.recX m m.length, Pl.recO m.length)).2.length).length : Int) (↑(List.map (mrow (Pl.ech (Pl.qA (D.iface (Pl.tyA q) (Pl.datA q))) ((2 : Nat) * m.length - (1 : Nat)) ((2 : Nat) * m.length) (Pl.recX m m.length, Pl.recO m.length)).1.1) (mrow (Pl.ech (Pl.qA (D.iface (Pl.tyA q) (Pl.datA q))) ((2 : Nat) * m.length - (1 : Nat)) ((2 : Nat) * m.length) (Pl.recX m m.length, Pl.recO m.length)).1.2 ((2 : Nat) * m.length))).length : Int)) x.2.1) ≤ b.length) ∧ Br (Pl.dot (Pl.qF (D.rptr (fieldC q))) (rd i64.slc (sub (List.map (mrow (Pl.ech (Pl.qA (D.iface (Pl.tyA q) (Pl.datA q))) ((2 : Nat) * m.length - (1 : Nat)) ((2 : Nat) * m.length) (Pl.recX m m.length, Pl.recO m.length)).1.1) (mrow (Pl.ech (Pl.qA (D.iface (Pl.tyA q) (Pl.datA q))) ((2 : Nat) * m.length - (1 : Nat)) ((2 : Nat) * m.length) (Pl.recX m m.length, Pl.recO m.length)).1.2 ((2 : Nat) * m.length))) (↑(mrow (Pl.cst (Pl.ech (Pl.qA (D.iface (Pl.tyA q) (Pl.datA q))) ((2 : Nat) * m.length - (1 : Nat)) ((2 : Nat) * m.length) (Pl.recX m m.length, Pl.recO m.length)).2) (Pl.ech (Pl.qA (D.iface (Pl.tyA q) (Pl.datA q))) ((2 : Nat) * m.length - (1 : Nat)) ((2 : Nat) * m.length) (Pl.recX m m.length, Pl.recO m.length)).2.length).length : Int) (↑(List.map (mrow (Pl.ech (Pl.qA (D.iface (Pl.tyA q) (Pl.datA q))) ((2 : Nat) * m.length - (1 : Nat)) ((2 : Nat) * m.length) (Pl.recX m m.length, Pl.recO m.length)).1.1) (mrow (Pl.ech (Pl.qA (D.iface (Pl.tyA q) (Pl.datA q))) ((2 : Nat) * m.length - (1 : Nat)) ((2 : Nat) * m.length) (Pl.recX m m.length, Pl.recO m.length)).1.2 ((2 : Nat) * m.length))).length : Int)) x.2.1) b != (0 : Int)) (([], D.slc false i64 (rd i64.slc (sub (List.map (mrow (Pl.ech (Pl.qA (D.iface (Pl.tyA q) (Pl.datA q))) ((2 : Nat) * m.length - (1 : Nat)) ((2 : Nat) * m.length) (Pl.recX m m.length, Pl.recO m.length)).1.1) (mrow (Pl.ech (Pl.qA (D.iface (Pl.tyA q) (Pl.datA q))) ((2 : Nat) * m.length - (1 : Nat)) ((2 : Nat) * m.length) (Pl.recX m m.length, Pl.recO m.length)).1.2 ((2 : Nat) * m.length))) (↑(mrow (Pl.cst (Pl.ech (Pl.qA (D.iface (Pl.tyA q) (Pl.datA q))) ((2 : Nat) * m.length - (1 : Nat)) ((2 : Nat) * m.length) (Pl.recX m m.length, Pl.recO m.length)).2) (Pl.ech (Pl.qA (D.iface (Pl.tyA q) (Pl.datA q))) ((2 : Nat) * m.length - (1 : Nat)) ((2 : Nat) * m.length) (Pl.recX m m.length, Pl.recO m.length)).2.length).length : Int) (↑(List.map (mrow (Pl.ech (Pl.qA (D.iface (Pl.tyA q) (Pl.datA q))) ((2 : Nat) * m.length - (1 : Nat)) ((2 : Nat) * m.length) (Pl.recX m m.length, Pl.recO m.length)).1.1) (mrow (Pl.ech (Pl.qA (D.iface (Pl.tyA q) (Pl.datA q))) ((2 : Nat) * m.length - (1 : Nat)) ((2 : Nat) * m.length) (Pl.recX m m.length, Pl.recO m.length)).1.2 ((2 : Nat) * m.length))).length : Int)) x.2.1), ()) = C101s.post (fieldD q, m, b, ())) (G (x.1, IntKind.i64.wrap (x.2.1 + (1 : Int)), x.2.2.1, (), x.2.2.2.2))) (Br (decide ((↑m.length : Int) > (0 : Int))) ((0 : Int) ≤ (0 : Int) ∧ (0 : Int) < (↑m.length : Int) ∧ (0 : Int) ≤ (↑(List.length (rd i64.slc m (0 : Int))) : Int) ∧ (↑(List.length (rd i64.slc m (0 : Int))) : Int) = (↑(List.length (rd i64.slc m (0 : Int))) : Int) ∧ (↑(List.length (rd i64.slc m (0 : Int))) : Int) * (8 : Int) ≤ (140737488355328 : Int) ∧ ∃ (n : Nat), itl (fun (G : List Int × Int × List (Option (List Int)) × PUnit × List (Option (List Nat)) × List (Option (List Int)) × PUnit → Prop) (x : List Int × Int × List (Option (List Int)) × PUnit × List (Option (List Nat)) × List (Option (List Int)) × PUnit) => Br (decide (x.2.1 < (↑(mrow (Pl.cst (Pl.ech (Pl.qA (D.iface (Pl.tyA q) (Pl.datA q))) ((2 : Nat) * m.length - (1 : Nat)) ((2 : Nat) * m.length) (Pl.recX m m.length, Pl.recO m.length)).2) (Pl.ech (Pl.qA (D.iface (Pl.tyA q) (Pl.datA q))) ((2 : Nat) * m.length - (1 : Nat)) ((2 : Nat) * m.length) (Pl.recX m m.length, Pl.recO m.length)).2.length).length : Int))) ((0 : Int) ≤ x.2.1 ∧ x.2.1 < (↑(mrow (Pl.cst (Pl.ech (Pl.qA (D.iface (Pl.tyA q) (Pl.datA q))) ((2 : Nat) * m.length - (1 : Nat)) ((2 : Nat) * m.length) (Pl.recX m m.length, Pl.recO m.length)).2) (Pl.ech (Pl.qA (D.iface (Pl.tyA q) (Pl.datA q))) ((2 : Nat) * m.length - (1 : Nat)) ((2 : Nat) * m.length) (Pl.recX m m.length, Pl.recO m.length)).2.length).length : Int) ∧ (0 : Int) ≤ x.2.1 ∧ x.2.1 < (↑(List.map (mrow (Pl.ech (Pl.qA (D.iface (Pl.tyA q) (Pl.datA q))) ((2 : Nat) * m.length - (1 : Nat)) ((2 : Nat) * m.length) (Pl.recX m m.length, Pl.recO m.length)).1.1) (mrow (Pl.ech (Pl.qA (D.iface (Pl.tyA q) (Pl.datA q))) ((2 : Nat) * m.length - (1 : Nat)) ((2 : Nat) * m.length) (Pl.recX m m.length, Pl.recO m.length)).1.2 ((2 : Nat) * m.length))).length : Int) ∧ (Pl.okF (D.rptr (fieldC q)) ∧ Pl.inAll (Pl.qF (D.rptr (fieldC q))) (rd i64.slc (List.map (mrow (Pl.ech (Pl.qA (D.iface (Pl.tyA q) (Pl.datA q))) ((2 : Nat) * m.length - (1 : Nat)) ((2 : Nat) * m.length) (Pl.recX m m.length, Pl.recO m.length)).1.1) (mrow (Pl.ech (Pl.qA (D.iface (Pl.tyA q) (Pl.datA q))) ((2 : Nat) * m.length - (1 : Nat)) ((2 : Nat) * m.length) (Pl.recX m m.length, Pl.recO m.length)).1.2 ((2 : Nat) * m.length))) x.2.1) ∧ Pl.inAll (Pl.qF (D.rptr (fieldC q))) b ∧ List.length (rd i64.slc (List.map (mrow (Pl.ech (Pl.qA (D.iface (Pl.tyA q) (Pl.datA q))) ((2 : Nat) * m.length - (1 : Nat)) ((2 : Nat) * m.length) (Pl.recX m m.length, Pl.recO m.length)).1.1) (mrow (Pl.ech (Pl.qA (D.iface (Pl.tyA q) (Pl.datA q))) ((2 : Nat) * m.length - (1 : Nat)) ((2 : Nat) * m.length) (Pl.recX m m.length, Pl.recO m.length)).1.2 ((2 : Nat) * m.length))) x.2.1) ≤ b.length) ∧ (0 : Int) ≤ rd i64 (mrow (Pl.cst (Pl.ech (Pl.qA (D.iface (Pl.tyA q) (Pl.datA q))) ((2 : Nat) * m.length - (1 : Nat)) ((2 : Nat) * m.length) (Pl.recX m m.length, Pl.recO m.length)).2) (Pl.ech (Pl.qA (D.iface (Pl.tyA q) (Pl.datA q))) ((2 : Nat) * m.length - (1 : Nat)) ((2 : Nat) * m.length) (Pl.recX m m.length, Pl.recO m.length)).2.length) x.2.1 ∧ rd i64 (mrow (Pl.cst (Pl.ech (Pl.qA (D.iface (Pl.tyA q) (Pl.datA q))) ((2 : Nat) * m.length - (1 : Nat)) ((2 : Nat) * m.length) (Pl.recX m m.length, Pl.recO m.length)).2) (Pl.ech (Pl.qA (D.iface (Pl.tyA q) (Pl.datA q))) ((2 : Nat) * m.length - (1 : Nat)) ((2 : Nat) * m.length) (Pl.recX m m.length, Pl.recO m.length)).2.length) x.2.1 < (↑(List.length x.1) : Int) ∧ (0 : Int) ≤ rd i64 (mrow (Pl.cst (Pl.ech (Pl.qA (D.iface (Pl.tyA q) (Pl.datA q))) ((2 : Nat) * m.length - (1 : Nat)) ((2 : Nat) * m.length) (Pl.recX m m.length, Pl.recO m.length)).2) (Pl.ech (Pl.qA (D.iface (Pl.tyA q) (Pl.datA q))) ((2 : Nat) * m.length - (1 : Nat)) ((2 : Nat) * m.length) (Pl.recX m m.length, Pl.recO m.length)).2.length) x.2.1 ∧ rd i64 (mrow (Pl.cst (Pl.ech (Pl.qA (D.iface (Pl.tyA q) (Pl.datA q))) ((2 : Nat) * m.length - (1 : Nat)) ((2 : Nat) * m.length) (Pl.recX m m.length, Pl.recO m.length)).2) (Pl.ech (Pl.qA (D.iface (Pl.tyA q) (Pl.datA q))) ((2 : Nat) * m.length - (1 : Nat)) ((2 : Nat) * m.length) (Pl.recX m m.length, Pl.recO m.length)).2.length) x.2.1 < (↑(List.length x.1) : Int) ∧ G (List.set x.1 (Int.toNat (rd i64 (mrow (Pl.cst (Pl.ech (Pl.qA (D.iface (Pl.tyA q) (Pl.datA q))) ((2 : Nat) * m.length - (1 : Nat)) ((2 : Nat) * m.length) (Pl.recX m m.length, Pl.recO m.length)).2) (Pl.ech (Pl.qA (D.iface (Pl.tyA q) (Pl.datA q))) ((2 : Nat) * m.length - (1 : Nat)) ((2 : Nat) * m.length) (Pl.recX m m.length, Pl.recO m.length)).2.length) x.2.1)) (Pl.dot (Pl.qF (D.rptr (fieldC q))) (rd i64.slc (List.map (mrow (Pl.ech (Pl.qA (D.iface (Pl.tyA q) (Pl.datA q))) ((2 : Nat) * m.length - (1 : Nat)) ((2 : Nat) * m.length) (Pl.recX m m.length, Pl.recO m.length)).1.1) (mrow (Pl.ech (Pl.qA (D.iface (Pl.tyA q) (Pl.datA q))) ((2 : Nat) * m.length - (1 : Nat)) ((2 : Nat) * m.length) (Pl.recX m m.length, Pl.recO m.length)).1.2 ((2 : Nat) * m.length))) x.2.1) b), IntKind.i64.wrap (x.2.1 + (1 : Int)), x.2.2.1, (), x.2.2.2.2)) ((x.1, constD (Value.slice none (0 : Nat) (0 : Nat)), ()) = C101s.post (fieldD q, m, b, ()))) n (List.replicate (↑(List.length (rd i64.slc m (0 : Int))) : Int).toNat (0 : Int), (0 : Int), x.2.2.1, (), x.2.2.2.2)) (∃ (n : Nat), itl (fun (G : List Int × Int × List (Option (List Int)) × PUnit × List (Option (List Nat)) × List (Option (List Int)) × PUnit → Prop) (x : List Int × Int × List (Option (List Int)) × PUnit × List (Option (List Nat)) × List (Option (List Int)) × PUnit) => Br (decide (x.2.1 < (↑(mrow (Pl.cst (Pl.ech (Pl.qA (D.iface (Pl.tyA q) (Pl.datA q))) ((2 : Nat) * m.length - (1 : Nat)) ((2 : Nat) * m.length) (Pl.recX m m.length, Pl.recO m.length)).2) (Pl.ech (Pl.qA (D.iface (Pl.tyA q) (Pl.datA q))) ((2 : Nat) * m.length - (1 : Nat)) ((2 : Nat) * m.length) (Pl.recX m m.length, Pl.recO m.length)).2.length).length : Int))) ((0 : Int) ≤ x.2.1 ∧ x.2.1 < (↑(mrow (Pl.cst (Pl.ech (Pl.qA (D.iface (Pl.tyA q) (Pl.datA q))) ((2 : Nat) * m.length - (1 : Nat)) ((2 : Nat) * m.length) (Pl.recX m m.length, Pl.recO m.length)).2) (Pl.ech (Pl.qA (D.iface (Pl.tyA q) (Pl.datA q))) ((2 : Nat) * m.length - (1 : Nat)) ((2 : Nat) * m.length) (Pl.recX m m.length, Pl.recO m.length)).2.length).length : Int) ∧ (0 : Int) ≤ x.2.1 ∧ x.2.1 < (↑(List.map (mrow (Pl.ech (Pl.qA (D.iface (Pl.tyA q) (Pl.datA q))) ((2 : Nat) * m.length - (1 : Nat)) ((2 : Nat) * m.length) (Pl.recX m m.length, Pl.recO m.length)).1.1) (mrow (Pl.ech (Pl.qA (D.iface (Pl.tyA q) (Pl.datA q))) ((2 : Nat) * m.length - (1 : Nat)) ((2 : Nat) * m.length) (Pl.recX m m.length, Pl.recO m.length)).1.2 ((2 : Nat) * m.length))).length : Int) ∧ (Pl.okF (D.rptr (fieldC q)) ∧ Pl.inAll (Pl.qF (D.rptr (fieldC q))) (rd i64.slc (List.map (mrow (Pl.ech (Pl.qA (D.iface (Pl.tyA q) (Pl.datA q))) ((2 : Nat) * m.length - (1 : Nat)) ((2 : Nat) * m.length) (Pl.recX m m.length, Pl.recO m.length)).1.1) (mrow (Pl.ech (Pl.qA (D.iface (Pl.tyA q) (Pl.datA q))) ((2 : Nat) * m.length - (1 : Nat)) ((2 : Nat) * m.length) (Pl.recX m m.length, Pl.recO m.length)).1.2 ((2 : Nat) * m.length))) x.2.1) ∧ Pl.inAll (Pl.qF (D.rptr (fieldC q))) b ∧ List.length (rd i64.slc (List.map (mrow (Pl.ech (Pl.qA (D.iface (Pl.tyA q) (Pl.datA q))) ((2 : Nat) * m.length - (1 : Nat)) ((2 : Nat) * m.length) (Pl.recX m m.length, Pl.recO m.length)).1.1) (mrow (Pl.ech (Pl.qA (D.iface (Pl.tyA q) (Pl.datA q))) ((2 : Nat) * m.length - (1 : Nat)) ((2 : Nat) * m.length) (Pl.recX m m.length, Pl.recO m.length)).1.2 ((2 : Nat) * m.length))) x.2.1) ≤ b.length) ∧ (0 : Int) ≤ rd i64 (mrow (Pl.cst (Pl.ech (Pl.qA (D.iface (Pl.tyA q) (Pl.datA q))) ((2 : Nat) * m.length - (1 : Nat)) ((2 : Nat) * m.length) (Pl.recX m m.length, Pl.recO m.length)).2) (Pl.ech (Pl.qA (D.iface (Pl.tyA q) (Pl.datA q))) ((2 : Nat) * m.length - (1 : Nat)) ((2 : Nat) * m.length) (Pl.recX m m.length, Pl.recO m.length)).2.length) x.2.1 ∧ rd i64 (mrow (Pl.cst (Pl.ech (Pl.qA (D.iface (Pl.tyA q) (Pl.datA q))) ((2 : Nat) * m.length - (1 : Nat)) ((2 : Nat) * m.length) (Pl.recX m m.length, Pl.recO m.length)).2) (Pl.ech (Pl.qA (D.iface (Pl.tyA q) (Pl.datA q))) ((2 : Nat) * m.length - (1 : Nat)) ((2 : Nat) * m.length) (Pl.recX m m.length, Pl.recO m.length)).2.length) x.2.1 < (↑(List.length x.1) : Int) ∧ (0 : Int) ≤ rd i64 (mrow (Pl.cst (Pl.ech (Pl.qA (D.iface (Pl.tyA q) (Pl.datA q))) ((2 : Nat) * m.length - (1 : Nat)) ((2 : Nat) * m.length) (Pl.recX m m.length, Pl.recO m.length)).2) (Pl.ech (Pl.qA (D.iface (Pl.tyA q) (Pl.datA q))) ((2 : Nat) * m.length - (1 : Nat)) ((2 : Nat) * m.length) (Pl.recX m m.length, Pl.recO m.length)).2.length) x.2.1 ∧ rd i64 (mrow (Pl.cst (Pl.ech (Pl.qA (D.iface (Pl.tyA q) (Pl.datA q))) ((2 : Nat) * m.length - (1 : Nat)) ((2 : Nat) * m.length) (Pl.recX m m.length, Pl.recO m.length)).2) (Pl.ech (Pl.qA (D.iface (Pl.tyA q) (Pl.datA q))) ((2 : Nat) * m.length - (1 : Nat)) ((2 : Nat) * m.length) (Pl.recX m m.length, Pl.recO m.length)).2.length) x.2.1 < (↑(List.length x.1) : Int) ∧ G (List.set x.1 (Int.toNat (rd i64 (mrow (Pl.cst (Pl.ech (Pl.qA (D.iface (Pl.tyA q) (Pl.datA q))) ((2 : Nat) * m.length - (1 : Nat)) ((2 : Nat) * m.length) (Pl.recX m m.length, Pl.recO m.length)).2) (Pl.ech (Pl.qA (D.iface (Pl.tyA q) (Pl.datA q))) ((2 : Nat) * m.length - (1 : Nat)) ((2 : Nat) * m.length) (Pl.recX m m.length, Pl.recO m.length)).2.length) x.2.1)) (Pl.dot (Pl.qF (D.rptr (fieldC q))) (rd i64.slc (List.map (mrow (Pl.ech (Pl.qA (D.iface (Pl.tyA q) (Pl.datA q))) ((2 : Nat) * m.length - (1 : Nat)) ((2 : Nat) * m.length) (Pl.recX m m.length, Pl.recO m.length)).1.1) (mrow (Pl.ech (Pl.qA (D.iface (Pl.tyA q) (Pl.datA q))) ((2 : Nat) * m.length - (1 : Nat)) ((2 : Nat) * m.length) (Pl.recX m m.length, Pl.recO m.length)).1.2 ((2 : Nat) * m.length))) x.2.1) b), IntKind.i64.wrap (x.2.1 + (1 : Int)), x.2.2.1, (), x.2.2.2.2)) ((x.1, constD (Value.slice none (0 : Nat) (0 : Nat)), ()) = C101s.post (fieldD q, m, b, ()))) n (x.1, (0 : Int), x.2.2.1, (), x.2.2.2.2)))) n ([], (0 : Int), List.map (fun (x : Option (List i64.El)) => none) (Pl.ech (Pl.qA (D.iface (Pl.tyA q) (Pl.datA q))) ((2 : Nat) * m.length - (1 : Nat)) ((2 : Nat) * m.length) (Pl.recX m m.length, Pl.recO m.length)).1.1, (), List.map (fun (x : Option (List (Ty.ref (0 : Nat)).El)) => none) (Pl.ech (Pl.qA (D.iface (Pl.tyA q) (Pl.datA q))) ((2 : Nat) * m.length - (1 : Nat)) ((2 : Nat) * m.length) (Pl.recX m m.length, Pl.recO m.length)).1.2, List.map (fun (x : Option (List i64.El)) => none) (Pl.cst (Pl.ech (Pl.qA (D.iface (Pl.tyA q) (Pl.datA q))) ((2 : Nat) * m.length - (1 : Nat)) ((2 : Nat) * m.length) (Pl.recX m m.length, Pl.recO m.length)).2), ())) (by kernel_rfl) ?_
 rw [recS_eq hq, qF_f, c2, rowsD_eq, hp]
 have hlC := F.lC
 have hlD := F.lD
 have hrD := F.rD
 have hcC := F.cC
 obtain ⟨_, hwide, _⟩ := shape_0 s1
 unfold Pl.den at hd
 have hsol : Pl.sol q m b = Pl.solL q b (Pl.echC q m) (Pl.echD q m) (List.replicate (Pl.wide m) 0) := rfl
 rw [hsol]
 have hCe : (Pl.recS q m).2 = Pl.echC q m := rfl
 have hsub : sub (Pl.echD q m) ((Pl.recS q m).2.length : Int) ((Pl.echD q m).length : Int) = (Pl.echD q m).drop (Pl.echC q m).length := sub_drop _ _
 rw [hsub]
 rw [hCe] at c1 ⊢
 have hX : ∀ {x : XS} , True := fun {x} => trivial
 generalize hC : Pl.echC q m = C at *
 generalize hD : Pl.echD q m = DD at *
 have hpre : ∀ r ∈ DD, Pl.okF (D.rptr (fieldC q)) ∧ Pl.inAll q r ∧ Pl.inAll q b ∧ r.length ≤ b.length := fun r hr => ⟨okF_f hq, ⟨(hrD r hr).2, by rw [(hrD r hr).1]; omega⟩, ⟨s3, hb⟩, by rw [(hrD r hr).1]; omega⟩
 have last : ∀ (x0 : List Int) (A : XS) (O : OS) (K : XS), x0.length = Pl.wide m ∨ C = [] → x0 = (bif decide (0 < m.length) then List.replicate (Pl.wide m) 0 else []) → ∃ n, itl (fun (G : List Int × Int × XS × Unit × OS × XS × Unit → Prop) (x : List Int × Int × XS × Unit × OS × XS × Unit) =>
   Br (decide (x.2.1 < (C.length : Int))) ((0 : Int) ≤ x.2.1 ∧ x.2.1 < (C.length : Int) ∧ (0 : Int) ≤ x.2.1 ∧ x.2.1 < (DD.length : Int) ∧ (Pl.okF (D.rptr (fieldC q)) ∧ Pl.inAll q (rd i64.slc DD x.2.1) ∧ Pl.inAll q b ∧ (rd i64.slc DD x.2.1).length ≤ b.length) ∧ (0 : Int) ≤ rd i64 C x.2.1 ∧ rd i64 C x.2.1 < (x.1.length : Int) ∧ (0 : Int) ≤ rd i64 C x.2.1 ∧ rd i64 C x.2.1 < (x.1.length : Int) ∧
     G (x.1.set (Int.toNat (rd i64 C x.2.1)) (Pl.dot q (rd i64.slc DD x.2.1) b), IntKind.i64.wrap (x.2.1 + (1 : Int)), x.2.2.1, (), x.2.2.2.2)) ((x.1, constD (Value.slice none (0 : Nat) (0 : Nat)), ()) = (Pl.solL q b C DD (List.replicate (Pl.wide m) 0), D.val (Value.slice none 0 0), ()))) n (x0, (0 : Int), A, (), O, K, ()) := by
  intro x0 A O K hx0 hx1
  have hst : Pl.solL q b C DD x0 = Pl.solL q b C DD (List.replicate (Pl.wide m) 0) := by
   by_cases h0 : 0 < m.length
   ·rw [hx1, decide_eq_true h0]; rfl
   ·have : C = [] := List.length_eq_zero_iff.1 (by omega)
    have e : m = [] := List.length_eq_zero_iff.1 (by omega)
    rw [this, solL_nil, solL_nil, hx1, decide_eq_false h0, e]; rfl
  refine itl_rule (fun (s : List Int × Int × XS × Unit × OS × XS × Unit) => ∃ i : Nat, s.2.1 = (i : Int) ∧ i ≤ C.length ∧ (s.1.length = Pl.wide m ∨ C = []) ∧ Pl.solL q b (C.drop i) (DD.drop i) s.1 = Pl.solL q b C DD (List.replicate (Pl.wide m) 0)) (fun s => ((C.length : Int) - s.2.1).toNat) ⟨0, rfl, Nat.zero_le _, hx0, hst⟩ ?_
  rintro ⟨x, i0, A, ⟨⟩, O, K, ⟨⟩⟩ G ⟨i, e, hi, hxl, hf⟩ hG
  simp only at e hxl hf hG ⊢
  subst e
  refine Br_of (fun h => ?_) (fun h => ?_)
  ·have h : i < C.length := by have := of_decide_eq_true h; omega
   rw [rd_rr, rd_i, wrap_i64 (by omega) (by omega)]
   have hne : C ≠ [] := fun e => by rw [e] at h; exact absurd h (Nat.not_lt_zero _)
   have hxl : x.length = Pl.wide m := hxl.resolve_right hne
   obtain ⟨k0, k1⟩ := hcC _ (show C.getD i 0 ∈ C from getD_mem h)
   have hiD : i < DD.length := by omega
   have hkx : C.getD i 0 < ((List.length x : Nat) : Int) := by
    have e : ((List.length x : Nat) : Int) = (Pl.wide m : Int) := congrArg Nat.cast hxl
    rw [e]; exact k1
   rw [drop_cons 0 h, drop_cons [] hiD, Pl.solL] at hf
   refine ⟨by omega, by omega, by omega, by omega, hpre _ (rowD_mem hiD), k0, hkx, k0, hkx, hG _ ⟨i + 1, rfl, by omega, .inl (by simp only [List.length_set]; exact hxl), hf⟩ (by simp only; omega)⟩
  ·have h : i = C.length := by have := of_decide_eq_false h; omega
   subst h
   rw [List.drop_length, solL_nil] at hf
   rw [← hf]; rfl
 refine ⟨p1, ⟨p2, rfl⟩, F.m1, F.a1, F.m2, F.a2, c1, by omega, by omega, itl_rule (fun (s : List Int × Int × XS × Unit × OS × XS × Unit) => ∃ (i : Nat), s.1 = [] ∧ s.2.1 = (i : Int) ∧ i ≤ (DD.drop C.length).length ∧ Pl.denL q b ((DD.drop C.length).drop i) = none) (fun s => (((DD.drop C.length).length : Int) - s.2.1).toNat) ⟨0, rfl, rfl, Nat.zero_le _, hd⟩ ?_⟩
 have hrE : ∀ r ∈ DD.drop C.length, r ∈ DD := fun r hr => List.mem_of_mem_drop hr
 have hlE : (DD.drop C.length).length ≤ 1000000000 := by rw [List.length_drop]; omega
 generalize DD.drop C.length = EE at *
 rintro ⟨x, i0, A, ⟨⟩, O, K, ⟨⟩⟩ G ⟨i, ex, e, hi, hf⟩ hG
 simp only at ex e hf hG ⊢
 subst ex e
 refine Br_of (fun h => ?_) (fun h => ?_)
 ·have h : i < EE.length := by have := of_decide_eq_true h; omega
  rw [rd_rr, wrap_i64 (by omega) (by omega)]
  rw [drop_cons [] h, Pl.denL] at hf
  refine ⟨by omega, by omega, hpre _ (hrE _ (rowD_mem h)), Br_of (fun h1 => ?_) (fun h1 => ?_)⟩
  ·have h1 : Pl.dot q (EE.getD i []) b ≠ 0 := by simpa using h1
   rw [decide_eq_true h1, cond_true] at hf
   cases hf
  ·have h1 : Pl.dot q (EE.getD i []) b = 0 := by simpa using h1
   rw [decide_eq_false (not_not_intro h1), cond_false] at hf
   exact hG _ ⟨i + 1, rfl, rfl, by omega, hf⟩ (by simp only; omega)
 ·refine Br_of (fun h0 => ?_) (fun h0 => ?_)
  ·have h0 : 0 < m.length := by have := of_decide_eq_true h0; omega
   have hw : (rd i64.slc m (0 : Int)).length = Pl.wide m := rfl
   rw [hw]
   refine ⟨by omega, by omega, by omega, trivial, by omega, last _ _ _ _ (.inl (by simp)) ?_⟩
   rw [decide_eq_true h0]; simp
  ·have h0 : ¬ 0 < m.length := by have := of_decide_eq_false h0; omega
   exact last _ _ _ _ (.inr (List.length_eq_zero_iff.1 (by omega))) (by rw [decide_eq_false h0]; rfl)
theorem vc101d : ∀ x, C101d.pre x → VC T101 H101 Try.f101 C101d x := by
 rintro ⟨v, (m : List (List Int)), (b : List Int), ⟨⟩⟩ ⟨⟨⟨q, hq, (rfl : v = _)⟩, (hm : Pl.okMM m), (hb : b.length ≤ 1000000000)⟩, (hs : Pl.sys (Pl.qF (fieldD q)) m b = 0), (hd : Pl.den (Pl.qF (fieldD q)) m b ≠ none)⟩
 rw [qF_d] at hs hd
 obtain ⟨s1, s2, s3⟩ := den_sys hs
 obtain ⟨p1, p2, F⟩ := pre_new hq s1
 obtain ⟨c1, c2⟩ := cst_row (Pl.recS q m).2
 have hp : C101d.post (fieldD q, m, b, ()) = ([], Pl.denW q m b, ()) := rfl
 refine cast (α := Pl.okMx m ∧ (Pl.preE (Pl.tyA q) (Pl.tyA q) (Pl.datA q) (Pl.datA q) ((2 : Nat) * m.length - (1 : Nat)) ((2 : Nat) * m.length) (Pl.recX m m.length) (Pl.recO m.length) ∧ ([] : List (Option (List Int))) = []) ∧ mal (Pl.ech (Pl.qA (D.iface (Pl.tyA q) (Pl.datA q))) ((2 : Nat) * m.length - (1 : Nat)) ((2 : Nat) * m.length) (Pl.recX m m.length, Pl.recO m.length)).1.2 ((2 : Nat) * m.length - (1 : Nat)) ∧ (∀ (i : (Ty.ref (0 : Nat)).El), i ∈ mrow (Pl.ech (Pl.qA (D.iface (Pl.tyA q) (Pl.datA q))) ((2 : Nat) * m.length - (1 : Nat)) ((2 : Nat) * m.length) (Pl.recX m m.length, Pl.recO m.length)).1.2 ((2 : Nat) * m.length - (1 : Nat)) → mal (Pl.ech (Pl.qA (D.iface (Pl.tyA q) (Pl.datA q))) ((2 : Nat) * m.length - (1 : Nat)) ((2 : Nat) * m.length) (Pl.recX m m.length, Pl.recO m.length)).1.1 i) ∧ mal (Pl.ech (Pl.qA (D.iface (Pl.tyA q) (Pl.datA q))) ((2 : Nat) * m.length - (1 : Nat)) ((2 : Nat) * m.length) (Pl.recX m m.length, Pl.recO m.length)).1.2 ((2 : Nat) * m.length) ∧ (∀ (i : (Ty.ref (0 : Nat)).El), i ∈ mrow (Pl.ech (Pl.qA (D.iface (Pl.tyA q) (Pl.datA q))) ((2 : Nat) * m.length - (1 : Nat)) ((2 : Nat) * m.length) (Pl.recX m m.length, Pl.recO m.length)).1.2 ((2 : Nat) * m.length) → mal (Pl.ech (Pl.qA (D.iface (Pl.tyA q) (Pl.datA q))) ((2 : Nat) * m.length - (1 : Nat)) ((2 : Nat) * m.length) (Pl.recX m m.length, Pl.recO m.length)).1.1 i) ∧ mal (Pl.cst (Pl.ech (Pl.qA (D.iface (Pl.tyA q) (Pl.datA q))) ((2 : Nat) * m.length - (1 : Nat)) ((2 : Nat) * m.length) (Pl.recX m m.length, Pl.recO m.length)).2) (Pl.ech (Pl.qA (D.iface (Pl.tyA q) (Pl.datA q))) ((2 : Nat) * m.length - (1 : Nat)) ((2 : Nat) * m.length) (Pl.recX m m.length, Pl.recO m.length)).2.length ∧ (0 : Int) ≤ (↑(mrow (Pl.cst (Pl.ech (Pl.qA (D.iface (Pl.tyA q) (Pl.datA q))) ((2 : Nat) * m.length - (1 : Nat)) ((2 : Nat) * m.length) (Pl.recX m m.length, Pl.recO m.length)).2) (Pl.ech (Pl.qA (D.iface (Pl.tyA q) (Pl.datA q))) ((2 : Nat) * m.length - (1 : Nat)) ((2 : Nat) * m.length) (Pl.recX m m.length, Pl.recO m.length)).2.length).length : Int) ∧ (↑(mrow (Pl.cst (Pl.ech (Pl.qA (D.iface (Pl.tyA q) (Pl.datA q))) ((2 : Nat) * m.length - (1 : Nat)) ((2 : Nat) * m.length) (Pl.recX m m.length, Pl.recO m.length)).2) (Pl.ech (Pl.qA (D.iface (Pl.tyA q) (Pl.datA q))) ((2 : Nat) * m.length - (1 : Nat)) ((2 : Nat) * m.length) (Pl.recX m m.length, Pl.recO m.length)).2.length).length : Int) ≤ (↑(List.map (mrow (Pl.ech (Pl.qA (D.iface (Pl.tyA q) (Pl.datA q))) ((2 : Nat) * m.length - (1 : Nat)) ((2 : Nat) * m.length) (Pl.recX m m.length, Pl.recO m.length)).1.1) (mrow (Pl.ech (Pl.qA (D.iface (Pl.tyA q) (Pl.datA q))) ((2 : Nat) * m.length - (1 : Nat)) ((2 : Nat) * m.length) (Pl.recX m m.length, Pl.recO m.length)).1.2 ((2 : Nat) * m.length))).length : Int) ∧ ∃ (n : Nat), itl (fun (G : List Int × Int × List (Option (List Int)) × PUnit × List (Option (List Nat)) × List (Option (List Int)) × PUnit → Prop) (x : List Int × Int × List (Option (List Int)) × PUnit × List (Option (List Nat)) × List (Option (List Int)) × PUnit) => Br (decide (x.2.1 < (↑(sub (List.map (mrow (Pl.ech (Pl.qA (D.iface (Pl.tyA q) (Pl.datA q))) ((2 : Nat) * m.length - (1 : Nat)) ((2 : Nat) * m.length) (Pl.recX m m.length, Pl.recO m.length)).1.1) (mrow (Pl.ech (Pl.qA (D.iface (Pl.tyA q) (Pl.datA q))) ((2 : Nat) * m.length - (1 : Nat)) ((2 : Nat) * m.length) (Pl.recX m m.length, Pl.recO m.length)).1.2 ((2 : Nat) * m.length))) (↑(mrow (Pl.cst (Pl.ech (Pl.qA (D.iface (Pl.tyA q) (Pl.datA q))) ((2 : Nat) * m.length - (1 : Nat)) ((2 : Nat) * m.length) (Pl.recX m m.length, Pl.recO m.length)).2) (Pl.ech (Pl.qA (D.iface (Pl.tyA q) (Pl.datA q))) ((2 : Nat) * m.length - (1 : Nat)) ((2 : Nat) * m.length) (Pl.recX m m.length, Pl.recO m.length)).2.length).length : Int) (↑(List.map (mrow (Pl.ech (Pl.qA (D.iface (Pl.tyA q) (Pl.datA q))) ((2 : Nat) * m.length - (1 : Nat)) ((2 : Nat) * m.length) (Pl.recX m m.length, Pl.recO m.length)).1.1) (mrow (Pl.ech (Pl.qA (D.iface (Pl.tyA q) (Pl.datA q))) ((2 : Nat) * m.length - (1 : Nat)) ((2 : Nat) * m.length) (Pl.recX m m.length, Pl.recO m.length)).1.2 ((2 : Nat) * m.length))).length : Int)).length : Int))) ((0 : Int) ≤ x.2.1 ∧ x.2.1 < (↑(sub (List.map (mrow (Pl.ech (Pl.qA (D.iface (Pl.tyA q) (Pl.datA q))) ((2 : Nat) * m.length - (1 : Nat)) ((2 : Nat) * m.length) (Pl.recX m m.length, Pl.recO m.length)).1.1) (mrow (Pl.ech (Pl.qA (D.iface (Pl.tyA q) (Pl.datA q))) ((2 : Nat) * m.length - (1 : Nat)) ((2 : Nat) * m.length) (Pl.recX m m.length, Pl.recO m.length)).1.2 ((2 : Nat) * m.length))) (↑(mrow (Pl.cst (Pl.ech (Pl.qA (D.iface (Pl.tyA q) (Pl.datA q))) ((2 : Nat) * m.length - (1 : Nat)) ((2 : Nat) * m.length) (Pl.recX m m.length, Pl.recO m.length)).2) (Pl.ech (Pl.qA (D.iface (Pl.tyA q) (Pl.datA q))) ((2 : Nat) * m.length - (1 : Nat)) ((2 : Nat) * m.length) (Pl.recX m m.length, Pl.recO m.length)).2.length).length : Int) (↑(List.map (mrow (Pl.ech (Pl.qA (D.iface (Pl.tyA q) (Pl.datA q))) ((2 : Nat) * m.length - (1 : Nat)) ((2 : Nat) * m.length) (Pl.recX m m.length, Pl.recO m.length)).1.1) (mrow (Pl.ech (Pl.qA (D.iface (Pl.tyA q) (Pl.datA q))) ((2 : Nat) * m.length - (1 : Nat)) ((2 : Nat) * m.length) (Pl.recX m m.length, Pl.recO m.length)).1.2 ((2 : Nat) * m.length))).length : Int)).length : Int) ∧ (Pl.okF (D.rptr (fieldC q)) ∧ Pl.inAll (Pl.qF (D.rptr (fieldC q))) (rd i64.slc (sub (List.map (mrow (Pl.ech (Pl.qA (D.iface (Pl.tyA q) (Pl.datA q))) ((2 : Nat) * m.length - (1 : Nat)) ((2 : Nat) * m.length) (Pl.recX m m.length, Pl.recO m.length)).1.1) (mrow (Pl.ech (Pl.qA (D.iface (Pl.tyA q) (Pl.datA q))) ((2 : Nat) * m.length - (1 : Nat)) ((2 : Nat) * m.length) (Pl.recX m m.length, Pl.recO m.length)).1.2 ((2 : Nat) * m.length))) (↑(mrow (Pl.cst (Pl.ech (Pl.qA (D.iface (Pl.tyA q) (Pl.datA q))) ((2 : Nat) * m.length - (1 : Nat)) ((2 : Nat) * m.length) (Pl.recX m m.length, Pl.recO m.length)).2) (Pl.ech (Pl.qA (D.iface (Pl.tyA q) (Pl.datA q))) ((2 : Nat) * m.length - (1 : Nat)) ((2 : Nat) * m.length) (Pl.recX m m.length, Pl.recO m.length)).2.length).length : Int) (↑(List.map (mrow (Pl.ech (Pl.qA (D.iface (Pl.tyA q) (Pl.datA q))) ((2 : Nat) * m.length - (1 : Nat)) ((2 : Nat) * m.length) (Pl.recX m m.length, Pl.recO m.length)).1.1) (mrow (Pl.ech (Pl.qA (D.iface (Pl.tyA q) (Pl.datA q))) ((2 : Nat) * m.length - (1 : Nat)) ((2 : Nat) * m.length) (Pl.recX m m.length, Pl.recO m.length)).1.2 ((2 : Nat) * m.length))).length : Int)) x.2.1) ∧ Pl.inAll (Pl.qF (D.rptr (fieldC q))) b ∧ List.length (rd i64.slc (sub (List.map (mrow (Pl.ech (Pl.qA (D.iface (Pl.tyA q) (Pl.datA q))) ((2 : Nat) * m.length - (1 : Nat)) ((2 : Nat) * m.length) (Pl.recX m m.length, Pl.recO m.length)).1.1) (mrow (Pl.ech (Pl.qA (D.iface (Pl.tyA q) (Pl.datA q))) ((2 : Nat) * m.length - (1 : Nat)) ((2 : Nat) * m.length) (Pl.recX m m.length, Pl.recO m.length)).1.2 ((2 : Nat) * m.length))) (↑(mrow (Pl.cst (Pl.ech (Pl.qA (D.iface (Pl.tyA q) (Pl.datA q))) ((2 : Nat) * m.length - (1 : Nat)) ((2 : Nat) * m.length) (Pl.recX m m.length, Pl.recO m.length)).2) (Pl.ech (Pl.qA (D.iface (Pl.tyA q) (Pl.datA q))) ((2 : Nat) * m.length - (1 : Nat)) ((2 : Nat) * m.length) (Pl.recX m m.length, Pl.recO m.length)).2.length).length : Int) (↑(List.map (mrow (Pl.ech (Pl.qA (D.iface (Pl.tyA q) (Pl.datA q))) ((2 : Nat) * m.length - (1 : Nat)) ((2 : Nat) * m.length) (Pl.recX m m.length, Pl.recO m.length)).1.1) (mrow (Pl.ech (Pl.qA (D.iface (Pl.tyA q) (Pl.datA q))) ((2 : Nat) * m.length - (1 : Nat)) ((2 : Nat) * m.length) (Pl.recX m m.length, Pl.recO m.length)).1.2 ((2 : Nat) * m.length))).length : Int)) x.2.1) ≤ b.length) ∧ Br (Pl.dot (Pl.qF (D.rptr (fieldC q))) (rd i64.slc (sub (List.map (mrow (Pl.ech (Pl.qA (D.iface (Pl.tyA q) (Pl.datA q))) ((2 : Nat) * m.length - (1 : Nat)) ((2 : Nat) * m.length) (Pl.recX m m.length, Pl.recO m.length)).1.1) (mrow (Pl.ech (Pl.qA (D.iface (Pl.tyA q) (Pl.datA q))) ((2 : Nat) * m.length - (1 : Nat)) ((2 : Nat) * m.length) (Pl.recX m m.length, Pl.recO m.length)).1.2 ((2 : Nat) * m.length))) (↑(mrow (Pl.cst (Pl.ech (Pl.qA (D.iface (Pl.tyA q) (Pl.datA q))) ((2 : Nat) * m.length - (1 : Nat)) ((2 : Nat) * m.length) (Pl.recX m m.length, Pl.recO m.length)).2) (Pl.ech (Pl.qA (D.iface (Pl.tyA q) (Pl.datA q))) ((2 : Nat) * m.length - (1 : Nat)) ((2 : Nat) * m.length) (Pl.recX m m.length, Pl.recO m.length)).2.length).length : Int) (↑(List.map (mrow (Pl.ech (Pl.qA (D.iface (Pl.tyA q) (Pl.datA q))) ((2 : Nat) * m.length - (1 : Nat)) ((2 : Nat) * m.length) (Pl.recX m m.length, Pl.recO m.length)).1.1) (mrow (Pl.ech (Pl.qA (D.iface (Pl.tyA q) (Pl.datA q))) ((2 : Nat) * m.length - (1 : Nat)) ((2 : Nat) * m.length) (Pl.recX m m.length, Pl.recO m.length)).1.2 ((2 : Nat) * m.length))).length : Int)) x.2.1) b != (0 : Int)) (([], rd i64.slc (sub (List.map (mrow (Pl.ech (Pl.qA (D.iface (Pl.tyA q) (Pl.datA q))) ((2 : Nat) * m.length - (1 : Nat)) ((2 : Nat) * m.length) (Pl.recX m m.length, Pl.recO m.length)).1.1) (mrow (Pl.ech (Pl.qA (D.iface (Pl.tyA q) (Pl.datA q))) ((2 : Nat) * m.length - (1 : Nat)) ((2 : Nat) * m.length) (Pl.recX m m.length, Pl.recO m.length)).1.2 ((2 : Nat) * m.length))) (↑(mrow (Pl.cst (Pl.ech (Pl.qA (D.iface (Pl.tyA q) (Pl.datA q))) ((2 : Nat) * m.length - (1 : Nat)) ((2 : Nat) * m.length) (Pl.recX m m.length, Pl.recO m.length)).2) (Pl.ech (Pl.qA (D.iface (Pl.tyA q) (Pl.datA q))) ((2 : Nat) * m.length - (1 : Nat)) ((2 : Nat) * m.length) (Pl.recX m m.length, Pl.recO m.length)).2.length).length : Int) (↑(List.map (mrow (Pl.ech (Pl.qA (D.iface (Pl.tyA q) (Pl.datA q))) ((2 : Nat) * m.length - (1 : Nat)) ((2 : Nat) * m.length) (Pl.recX m m.length, Pl.recO m.length)).1.1) (mrow (Pl.ech (Pl.qA (D.iface (Pl.tyA q) (Pl.datA q))) ((2 : Nat) * m.length - (1 : Nat)) ((2 : Nat) * m.length) (Pl.recX m m.length, Pl.recO m.length)).1.2 ((2 : Nat) * m.length))).length : Int)) x.2.1, ()) = C101d.post (fieldD q, m, b, ())) (G (x.1, IntKind.i64.wrap (x.2.1 + (1 : Int)), x.2.2.1, (), x.2.2.2.2))) (Br (decide ((↑m.length : Int) > (0 : Int))) ((0 : Int) ≤ (0 : Int) ∧ (0 : Int) < (↑m.length : Int) ∧ (0 : Int) ≤ (↑(List.length (rd i64.slc m (0 : Int))) : Int) ∧ (↑(List.length (rd i64.slc m (0 : Int))) : Int) = (↑(List.length (rd i64.slc m (0 : Int))) : Int) ∧ (↑(List.length (rd i64.slc m (0 : Int))) : Int) * (8 : Int) ≤ (140737488355328 : Int) ∧ ∃ (n : Nat), itl (fun (G : List Int × Int × List (Option (List Int)) × PUnit × List (Option (List Nat)) × List (Option (List Int)) × PUnit → Prop) (x : List Int × Int × List (Option (List Int)) × PUnit × List (Option (List Nat)) × List (Option (List Int)) × PUnit) => Br (decide (x.2.1 < (↑(mrow (Pl.cst (Pl.ech (Pl.qA (D.iface (Pl.tyA q) (Pl.datA q))) ((2 : Nat) * m.length - (1 : Nat)) ((2 : Nat) * m.length) (Pl.recX m m.length, Pl.recO m.length)).2) (Pl.ech (Pl.qA (D.iface (Pl.tyA q) (Pl.datA q))) ((2 : Nat) * m.length - (1 : Nat)) ((2 : Nat) * m.length) (Pl.recX m m.length, Pl.recO m.length)).2.length).length : Int))) ((0 : Int) ≤ x.2.1 ∧ x.2.1 < (↑(mrow (Pl.cst (Pl.ech (Pl.qA (D.iface (Pl.tyA q) (Pl.datA q))) ((2 : Nat) * m.length - (1 : Nat)) ((2 : Nat) * m.length) (Pl.recX m m.length, Pl.recO m.length)).2) (Pl.ech (Pl.qA (D.iface (Pl.tyA q) (Pl.datA q))) ((2 : Nat) * m.length - (1 : Nat)) ((2 : Nat) * m.length) (Pl.recX m m.length, Pl.recO m.length)).2.length).length : Int) ∧ (0 : Int) ≤ x.2.1 ∧ x.2.1 < (↑(List.map (mrow (Pl.ech (Pl.qA (D.iface (Pl.tyA q) (Pl.datA q))) ((2 : Nat) * m.length - (1 : Nat)) ((2 : Nat) * m.length) (Pl.recX m m.length, Pl.recO m.length)).1.1) (mrow (Pl.ech (Pl.qA (D.iface (Pl.tyA q) (Pl.datA q))) ((2 : Nat) * m.length - (1 : Nat)) ((2 : Nat) * m.length) (Pl.recX m m.length, Pl.recO m.length)).1.2 ((2 : Nat) * m.length))).length : Int) ∧ (Pl.okF (D.rptr (fieldC q)) ∧ Pl.inAll (Pl.qF (D.rptr (fieldC q))) (rd i64.slc (List.map (mrow (Pl.ech (Pl.qA (D.iface (Pl.tyA q) (Pl.datA q))) ((2 : Nat) * m.length - (1 : Nat)) ((2 : Nat) * m.length) (Pl.recX m m.length, Pl.recO m.length)).1.1) (mrow (Pl.ech (Pl.qA (D.iface (Pl.tyA q) (Pl.datA q))) ((2 : Nat) * m.length - (1 : Nat)) ((2 : Nat) * m.length) (Pl.recX m m.length, Pl.recO m.length)).1.2 ((2 : Nat) * m.length))) x.2.1) ∧ Pl.inAll (Pl.qF (D.rptr (fieldC q))) b ∧ List.length (rd i64.slc (List.map (mrow (Pl.ech (Pl.qA (D.iface (Pl.tyA q) (Pl.datA q))) ((2 : Nat) * m.length - (1 : Nat)) ((2 : Nat) * m.length) (Pl.recX m m.length, Pl.recO m.length)).1.1) (mrow (Pl.ech (Pl.qA (D.iface (Pl.tyA q) (Pl.datA q))) ((2 : Nat) * m.length - (1 : Nat)) ((2 : Nat) * m.length) (Pl.recX m m.length, Pl.recO m.length)).1.2 ((2 : Nat) * m.length))) x.2.1) ≤ b.length) ∧ (0 : Int) ≤ rd i64 (mrow (Pl.cst (Pl.ech (Pl.qA (D.iface (Pl.tyA q) (Pl.datA q))) ((2 : Nat) * m.length - (1 : Nat)) ((2 : Nat) * m.length) (Pl.recX m m.length, Pl.recO m.length)).2) (Pl.ech (Pl.qA (D.iface (Pl.tyA q) (Pl.datA q))) ((2 : Nat) * m.length - (1 : Nat)) ((2 : Nat) * m.length) (Pl.recX m m.length, Pl.recO m.length)).2.length) x.2.1 ∧ rd i64 (mrow (Pl.cst (Pl.ech (Pl.qA (D.iface (Pl.tyA q) (Pl.datA q))) ((2 : Nat) * m.length - (1 : Nat)) ((2 : Nat) * m.length) (Pl.recX m m.length, Pl.recO m.length)).2) (Pl.ech (Pl.qA (D.iface (Pl.tyA q) (Pl.datA q))) ((2 : Nat) * m.length - (1 : Nat)) ((2 : Nat) * m.length) (Pl.recX m m.length, Pl.recO m.length)).2.length) x.2.1 < (↑(List.length x.1) : Int) ∧ (0 : Int) ≤ rd i64 (mrow (Pl.cst (Pl.ech (Pl.qA (D.iface (Pl.tyA q) (Pl.datA q))) ((2 : Nat) * m.length - (1 : Nat)) ((2 : Nat) * m.length) (Pl.recX m m.length, Pl.recO m.length)).2) (Pl.ech (Pl.qA (D.iface (Pl.tyA q) (Pl.datA q))) ((2 : Nat) * m.length - (1 : Nat)) ((2 : Nat) * m.length) (Pl.recX m m.length, Pl.recO m.length)).2.length) x.2.1 ∧ rd i64 (mrow (Pl.cst (Pl.ech (Pl.qA (D.iface (Pl.tyA q) (Pl.datA q))) ((2 : Nat) * m.length - (1 : Nat)) ((2 : Nat) * m.length) (Pl.recX m m.length, Pl.recO m.length)).2) (Pl.ech (Pl.qA (D.iface (Pl.tyA q) (Pl.datA q))) ((2 : Nat) * m.length - (1 : Nat)) ((2 : Nat) * m.length) (Pl.recX m m.length, Pl.recO m.length)).2.length) x.2.1 < (↑(List.length x.1) : Int) ∧ G (List.set x.1 (Int.toNat (rd i64 (mrow (Pl.cst (Pl.ech (Pl.qA (D.iface (Pl.tyA q) (Pl.datA q))) ((2 : Nat) * m.length - (1 : Nat)) ((2 : Nat) * m.length) (Pl.recX m m.length, Pl.recO m.length)).2) (Pl.ech (Pl.qA (D.iface (Pl.tyA q) (Pl.datA q))) ((2 : Nat) * m.length - (1 : Nat)) ((2 : Nat) * m.length) (Pl.recX m m.length, Pl.recO m.length)).2.length) x.2.1)) (Pl.dot (Pl.qF (D.rptr (fieldC q))) (rd i64.slc (List.map (mrow (Pl.ech (Pl.qA (D.iface (Pl.tyA q) (Pl.datA q))) ((2 : Nat) * m.length - (1 : Nat)) ((2 : Nat) * m.length) (Pl.recX m m.length, Pl.recO m.length)).1.1) (mrow (Pl.ech (Pl.qA (D.iface (Pl.tyA q) (Pl.datA q))) ((2 : Nat) * m.length - (1 : Nat)) ((2 : Nat) * m.length) (Pl.recX m m.length, Pl.recO m.length)).1.2 ((2 : Nat) * m.length))) x.2.1) b), IntKind.i64.wrap (x.2.1 + (1 : Int)), x.2.2.1, (), x.2.2.2.2)) ((x.1, [], ()) = C101d.post (fieldD q, m, b, ()))) n (List.replicate (↑(List.length (rd i64.slc m (0 : Int))) : Int).toNat (0 : Int), (0 : Int), x.2.2.1, (), x.2.2.2.2)) (∃ (n : Nat), itl (fun (G : List Int × Int × List (Option (List Int)) × PUnit × List (Option (List Nat)) × List (Option (List Int)) × PUnit → Prop) (x : List Int × Int × List (Option (List Int)) × PUnit × List (Option (List Nat)) × List (Option (List Int)) × PUnit) => Br (decide (x.2.1 < (↑(mrow (Pl.cst (Pl.ech (Pl.qA (D.iface (Pl.tyA q) (Pl.datA q))) ((2 : Nat) * m.length - (1 : Nat)) ((2 : Nat) * m.length) (Pl.recX m m.length, Pl.recO m.length)).2) (Pl.ech (Pl.qA (D.iface (Pl.tyA q) (Pl.datA q))) ((2 : Nat) * m.length - (1 : Nat)) ((2 : Nat) * m.length) (Pl.recX m m.length, Pl.recO m.length)).2.length).length : Int))) ((0 : Int) ≤ x.2.1 ∧ x.2.1 < (↑(mrow (Pl.cst (Pl.ech (Pl.qA (D.iface (Pl.tyA q) (Pl.datA q))) ((2 : Nat) * m.length - (1 : Nat)) ((2 : Nat) * m.length) (Pl.recX m m.length, Pl.recO m.length)).2) (Pl.ech (Pl.qA (D.iface (Pl.tyA q) (Pl.datA q))) ((2 : Nat) * m.length - (1 : Nat)) ((2 : Nat) * m.length) (Pl.recX m m.length, Pl.recO m.length)).2.length).length : Int) ∧ (0 : Int) ≤ x.2.1 ∧ x.2.1 < (↑(List.map (mrow (Pl.ech (Pl.qA (D.iface (Pl.tyA q) (Pl.datA q))) ((2 : Nat) * m.length - (1 : Nat)) ((2 : Nat) * m.length) (Pl.recX m m.length, Pl.recO m.length)).1.1) (mrow (Pl.ech (Pl.qA (D.iface (Pl.tyA q) (Pl.datA q))) ((2 : Nat) * m.length - (1 : Nat)) ((2 : Nat) * m.length) (Pl.recX m m.length, Pl.recO m.length)).1.2 ((2 : Nat) * m.length))).length : Int) ∧ (Pl.okF (D.rptr (fieldC q)) ∧ Pl.inAll (Pl.qF (D.rptr (fieldC q))) (rd i64.slc (List.map (mrow (Pl.ech (Pl.qA (D.iface (Pl.tyA q) (Pl.datA q))) ((2 : Nat) * m.length - (1 : Nat)) ((2 : Nat) * m.length) (Pl.recX m m.length, Pl.recO m.length)).1.1) (mrow (Pl.ech (Pl.qA (D.iface (Pl.tyA q) (Pl.datA q))) ((2 : Nat) * m.length - (1 : Nat)) ((2 : Nat) * m.length) (Pl.recX m m.length, Pl.recO m.length)).1.2 ((2 : Nat) * m.length))) x.2.1) ∧ Pl.inAll (Pl.qF (D.rptr (fieldC q))) b ∧ List.length (rd i64.slc (List.map (mrow (Pl.ech (Pl.qA (D.iface (Pl.tyA q) (Pl.datA q))) ((2 : Nat) * m.length - (1 : Nat)) ((2 : Nat) * m.length) (Pl.recX m m.length, Pl.recO m.length)).1.1) (mrow (Pl.ech (Pl.qA (D.iface (Pl.tyA q) (Pl.datA q))) ((2 : Nat) * m.length - (1 : Nat)) ((2 : Nat) * m.length) (Pl.recX m m.length, Pl.recO m.length)).1.2 ((2 : Nat) * m.length))) x.2.1) ≤ b.length) ∧ (0 : Int) ≤ rd i64 (mrow (Pl.cst (Pl.ech (Pl.qA (D.iface (Pl.tyA q) (Pl.datA q))) ((2 : Nat) * m.length - (1 : Nat)) ((2 : Nat) * m.length) (Pl.recX m m.length, Pl.recO m.length)).2) (Pl.ech (Pl.qA (D.iface (Pl.tyA q) (Pl.datA q))) ((2 : Nat) * m.length - (1 : Nat)) ((2 : Nat) * m.length) (Pl.recX m m.length, Pl.recO m.length)).2.length) x.2.1 ∧ rd i64 (mrow (Pl.cst (Pl.ech (Pl.qA (D.iface (Pl.tyA q) (Pl.datA q))) ((2 : Nat) * m.length - (1 : Nat)) ((2 : Nat) * m.length) (Pl.recX m m.length, Pl.recO m.length)).2) (Pl.ech (Pl.qA (D.iface (Pl.tyA q) (Pl.datA q))) ((2 : Nat) * m.length - (1 : Nat)) ((2 : Nat) * m.length) (Pl.recX m m.length, Pl.recO m.length)).2.length) x.2.1 < (↑(List.length x.1) : Int) ∧ (0 : Int) ≤ rd i64 (mrow (Pl.cst (Pl.ech (Pl.qA (D.iface (Pl.tyA q) (Pl.datA q))) ((2 : Nat) * m.length - (1 : Nat)) ((2 : Nat) * m.length) (Pl.recX m m.length, Pl.recO m.length)).2) (Pl.ech (Pl.qA (D.iface (Pl.tyA q) (Pl.datA q))) ((2 : Nat) * m.length - (1 : Nat)) ((2 : Nat) * m.length) (Pl.recX m m.length, Pl.recO m.length)).2.length) x.2.1 ∧ rd i64 (mrow (Pl.cst (Pl.ech (Pl.qA (D.iface (Pl.tyA q) (Pl.datA q))) ((2 : Nat) * m.length - (1 : Nat)) ((2 : Nat) * m.length) (Pl.recX m m.length, Pl.recO m.length)).2) (Pl.ech (Pl.qA (D.iface (Pl.tyA q) (Pl.datA q))) ((2 : Nat) * m.length - (1 : Nat)) ((2 : Nat) * m.length) (Pl.recX m m.length, Pl.recO m.length)).2.length) x.2.1 < (↑(List.length x.1) : Int) ∧ G (List.set x.1 (Int.toNat (rd i64 (mrow (Pl.cst (Pl.ech (Pl.qA (D.iface (Pl.tyA q) (Pl.datA q))) ((2 : Nat) * m.length - (1 : Nat)) ((2 : Nat) * m.length) (Pl.recX m m.length, Pl.recO m.length)).2) (Pl.ech (Pl.qA (D.iface (Pl.tyA q) (Pl.datA q))) ((2 : Nat) * m.length - (1 : Nat)) ((2 : Nat) * m.length) (Pl.recX m m.length, Pl.recO m.length)).2.length) x.2.1)) (Pl.dot (Pl.qF (D.rptr (fieldC q))) (rd i64.slc (List.map (mrow (Pl.ech (Pl.qA (D.iface (Pl.tyA q) (Pl.datA q))) ((2 : Nat) * m.length - (1 : Nat)) ((2 : Nat) * m.length) (Pl.recX m m.length, Pl.recO m.length)).1.1) (mrow (Pl.ech (Pl.qA (D.iface (Pl.tyA q) (Pl.datA q))) ((2 : Nat) * m.length - (1 : Nat)) ((2 : Nat) * m.length) (Pl.recX m m.length, Pl.recO m.length)).1.2 ((2 : Nat) * m.length))) x.2.1) b), IntKind.i64.wrap (x.2.1 + (1 : Int)), x.2.2.1, (), x.2.2.2.2)) ((x.1, [], ()) = C101d.post (fieldD q, m, b, ()))) n (x.1, (0 : Int), x.2.2.1, (), x.2.2.2.2)))) n ([], (0 : Int), List.map (fun (x : Option (List i64.El)) => none) (Pl.ech (Pl.qA (D.iface (Pl.tyA q) (Pl.datA q))) ((2 : Nat) * m.length - (1 : Nat)) ((2 : Nat) * m.length) (Pl.recX m m.length, Pl.recO m.length)).1.1, (), List.map (fun (x : Option (List (Ty.ref (0 : Nat)).El)) => none) (Pl.ech (Pl.qA (D.iface (Pl.tyA q) (Pl.datA q))) ((2 : Nat) * m.length - (1 : Nat)) ((2 : Nat) * m.length) (Pl.recX m m.length, Pl.recO m.length)).1.2, List.map (fun (x : Option (List i64.El)) => none) (Pl.cst (Pl.ech (Pl.qA (D.iface (Pl.tyA q) (Pl.datA q))) ((2 : Nat) * m.length - (1 : Nat)) ((2 : Nat) * m.length) (Pl.recX m m.length, Pl.recO m.length)).2), ())) (by kernel_rfl) ?_
 rw [recS_eq hq, qF_f, c2, rowsD_eq, hp]
 have hlC := F.lC
 have hlD := F.lD
 have hrD := F.rD
 have hW : Pl.den q m b = some (Pl.denW q m b) := by
  unfold Pl.denW
  cases h : Pl.den q m b with
  | none => exact absurd h hd
  | some w => rfl
 unfold Pl.den at hW
 have hCe : (Pl.recS q m).2 = Pl.echC q m := rfl
 have hsub : sub (Pl.echD q m) ((Pl.recS q m).2.length : Int) ((Pl.echD q m).length : Int) = (Pl.echD q m).drop (Pl.echC q m).length := sub_drop _ _
 rw [hsub]
 rw [hCe] at c1 ⊢
 generalize Pl.echC q m = C at *
 generalize Pl.echD q m = DD at *
 generalize Pl.denW q m b = W at *
 have hpre : ∀ r ∈ DD, Pl.okF (D.rptr (fieldC q)) ∧ Pl.inAll q r ∧ Pl.inAll q b ∧ r.length ≤ b.length := fun r hr => ⟨okF_f hq, ⟨(hrD r hr).2, by rw [(hrD r hr).1]; omega⟩, ⟨s3, hb⟩, by rw [(hrD r hr).1]; omega⟩
 refine ⟨p1, ⟨p2, rfl⟩, F.m1, F.a1, F.m2, F.a2, c1, by omega, by omega, itl_rule (fun (s : List Int × Int × XS × Unit × OS × XS × Unit) => ∃ (i : Nat), s.1 = [] ∧ s.2.1 = (i : Int) ∧ i ≤ (DD.drop C.length).length ∧ Pl.denL q b ((DD.drop C.length).drop i) = some W) (fun s => (((DD.drop C.length).length : Int) - s.2.1).toNat) ⟨0, rfl, rfl, Nat.zero_le _, hW⟩ ?_⟩
 have hrE : ∀ r ∈ DD.drop C.length, r ∈ DD := fun r hr => List.mem_of_mem_drop hr
 have hlE : (DD.drop C.length).length ≤ 1000000000 := by rw [List.length_drop]; omega
 generalize DD.drop C.length = EE at *
 rintro ⟨x, i0, A, ⟨⟩, O, K, ⟨⟩⟩ G ⟨i, ex, e, hi, hf⟩ hG
 simp only at ex e hf hG ⊢
 subst ex e
 refine Br_of (fun h => ?_) (fun h => ?_)
 ·have h : i < EE.length := by have := of_decide_eq_true h; omega
  rw [rd_rr, wrap_i64 (by omega) (by omega)]
  rw [drop_cons [] h, Pl.denL] at hf
  refine ⟨by omega, by omega, hpre _ (hrE _ (rowD_mem h)), Br_of (fun h1 => ?_) (fun h1 => ?_)⟩
  ·have h1 : Pl.dot q (EE.getD i []) b ≠ 0 := by simpa using h1
   rw [decide_eq_true h1, cond_true] at hf
   injection hf with hf
   rw [← hf]
  ·have h1 : Pl.dot q (EE.getD i []) b = 0 := by simpa using h1
   rw [decide_eq_false (not_not_intro h1), cond_false] at hf
   exact hG _ ⟨i + 1, rfl, rfl, by omega, hf⟩ (by simp only; omega)
 ·have h : i = EE.length := by have := of_decide_eq_false h; omega
  subst h
  rw [List.drop_length] at hf
  cases hf
end Fd
end
section
set_option linter.unusedVariables false
set_option linter.unusedSimpArgs false
set_option maxRecDepth 100000
namespace Fd
open Go Fw Go.Proofs

theorem snd_join {P : Program} {f : FuncId} {args res : List Ar} {pa pb p : Ars args → Prop} {post : Ars args → Ars res} (ha : Sound P f ⟨args, res, pa, post, none⟩) (hb : Sound P f ⟨args, res, pb, post, none⟩) (h : ∀ x, p x → pa x ∨ pb x) : Sound P f ⟨args, res, p, post, none⟩ :=
 ⟨⟨fun x hx => (h x hx).elim (ha.1.a x) (hb.1.a x), fun x hx => (h x hx).elim (ha.1.r x) (hb.1.r x)⟩, fun x hx => (h x hx).elim (ha.2 x) (hb.2 x)⟩
theorem snd_less {P : Program} {f : FuncId} {args res : List Ar} {pa p : Ars args → Prop} {post post' : Ars args → Ars res} (ha : Sound P f ⟨args, res, pa, post, none⟩) (h : ∀ x, p x → pa x) (hp : ∀ x, p x → encs res (post x) = encs res (post' x)) : Sound P f ⟨args, res, p, post', none⟩ := by
 refine ⟨⟨fun x hx => ha.1.a x (h x hx), fun x hx => by have := ha.1.r x (h x hx); show D.nrs (encs res (post' x)); rw [← hp x hx]; exact this⟩, fun x hx w O vs hO hl => ?_⟩
 have conv : ∀ e w', CPost ⟨args, res, pa, post, none⟩ x w ⟨O, nn⟩ e w' → CPost ⟨args, res, p, post', none⟩ x w ⟨O, nn⟩ e w' := by
  rintro e w' ⟨v, he, hb, hv, _⟩
  refine ⟨v, he, hb, fun ι => ?_, fun e he => by cases he⟩
  show ARep w' ⟨O, nn⟩ ι (resAV (encs res (post' x))) v
  rw [← hp x hx]
  exact hv ι
 rcases ha.2 x (h x hx) w O vs hO hl with ⟨h1, h2⟩ | ⟨v, w', h1, h2⟩
 ·exact .inl ⟨h1, h2.mono conv⟩
 ·exact .inr ⟨v, w', h1, conv _ _ h2⟩
theorem nrc101s : NRC C101s := ⟨fun x hx => ⟨okF_nr hx.1.1, rfl, rfl, trivial⟩, fun x hx => ⟨rfl, trivial, trivial⟩⟩
theorem nrc101d : NRC C101d := ⟨fun x hx => ⟨okF_nr hx.1.1, rfl, rfl, trivial⟩, fun x hx => ⟨rfl, rfl, trivial⟩⟩
theorem nrcDe {p : D × List (List Int) × List Int × Unit → Prop} : NRC (Cdeny p) := ⟨fun x hx => ⟨okF_nr hx.1.1, rfl, rfl, trivial⟩, fun x hx => ⟨rfl, trivial, trivial⟩⟩
theorem snd101s : Sound Try.prog 101 C101s := fn_sound (T := T101) (fn := Try.f101) (tokg (T := T101) ⟨snd94, trivial⟩ ⟨snd90, snd91, trivial⟩ trivial noInv noCv) Try.func101 (by kernel_rfl) H101 vc101s (by kernel_rfl) (hC := nrc101s)
theorem snd101d : Sound Try.prog 101 C101d := fn_sound (T := T101) (fn := Try.f101) (tokg (T := T101) ⟨snd94, trivial⟩ ⟨snd90, snd91, trivial⟩ trivial noInv noCv) Try.func101 (by kernel_rfl) H101 vc101d (by kernel_rfl) (hC := nrc101d)
theorem denL_mem {q : Int} {b w : List Int} : ∀ {l : List (List Int)}, Pl.denL q b l = some w → w ∈ l
 | [], h => by cases h
 | r :: l, h => by
  rw [Pl.denL] at h
  by_cases e : Pl.dot q r b ≠ 0
  ·rw [decide_eq_true e, cond_true] at h
   injection h with h
   subst h
   exact List.mem_cons_self
  ·rw [decide_eq_false e, cond_false] at h
   exact List.mem_cons_of_mem _ (denL_mem h)
theorem den_len {q : Int} (hq : isQ q) {m : List (List Int)} {b w : List Int} (hs : Pl.sys q m b = 0) (h : Pl.den q m b = some w) : w.length = m.length ∧ 0 < m.length ∧ ∀ x ∈ w, Pl.inQ q x := by
 obtain ⟨s1, _, _⟩ := den_sys hs
 obtain ⟨_, _, F⟩ := pre_new hq s1
 have hm := List.mem_of_mem_drop (denL_mem h)
 obtain ⟨h1, h2⟩ := F.rD w hm
 refine ⟨h1, ?_, h2⟩
 have := List.length_pos_of_mem hm
 rw [F.lD] at this
 exact this
theorem deny_bad {q : Int} {m : List (List Int)} {b : List Int} (h : Pl.sys q m b ≠ 0) : Pl.deny q m b = ([], false) := by unfold Pl.deny; rw [decide_eq_true h]; rfl
theorem deny_some {q : Int} {m : List (List Int)} {b : List Int} (h : Pl.sys q m b = 0) (hd : Pl.den q m b ≠ none) : Pl.deny q m b = (Pl.denW q m b, true) := by
 unfold Pl.deny Pl.denW
 rw [decide_eq_false (not_not_intro h)]
 cases e : Pl.den q m b with
 | none => exact absurd e hd
 | some w => rfl
theorem deny_none {q : Int} {m : List (List Int)} {b : List Int} (h : Pl.sys q m b = 0) (hd : Pl.den q m b = none) : Pl.deny q m b = ([], false) := by
 unfold Pl.deny
 rw [decide_eq_false (not_not_intro h), hd]; rfl
theorem vc46s : ∀ x, C46s.pre x → VC (T46 C101s) H0 Try.f46 C46s x := by
 rintro ⟨v, (m : List (List Int)), (b : List Int), ⟨⟩⟩ ⟨⟨⟨q, hq, (rfl : v = _)⟩, (hm : Pl.okMM m), (hb : b.length ≤ 1000000000)⟩, (hd : Pl.sys (Pl.qF (fieldD q)) m b = 0 → Pl.den (Pl.qF (fieldD q)) m b = none)⟩
 rw [qF_d] at hd
 refine cast (α := (Pl.okF (D.rptr (fieldC q)) ∧ Pl.okMM m ∧ b.length ≤ (1000000000 : Nat)) ∧ Br (Pl.sys (Pl.qF (D.rptr (fieldC q))) m b != (0 : Int)) (([], false, ()) = C46s.post (fieldD q, m, b, ())) ((Pl.okSy (D.rptr (fieldC q), m, b, ()) ∧ Pl.sys (Pl.qF (D.rptr (fieldC q))) m b = (0 : Int) ∧ Pl.den (Pl.qF (D.rptr (fieldC q))) m b = none) ∧ ([], !true, ()) = C46s.post (fieldD q, m, b, ()))) (by kernel_rfl) ?_
 have hp : C46s.post (fieldD q, m, b, ()) = ((Pl.deny q m b).1, (Pl.deny q m b).2, ()) := rfl
 rw [hp, qF_f]
 refine ⟨⟨okF_f hq, hm, hb⟩, Br_of (fun h => ?_) (fun h => ?_)⟩
 ·have h : Pl.sys q m b ≠ 0 := by simpa using h
  rw [deny_bad h]
 ·have h : Pl.sys q m b = 0 := by simpa using h
  refine ⟨⟨⟨okF_f hq, hm, hb⟩, h, hd h⟩, ?_⟩
  rw [deny_none h (hd h)]; rfl
theorem vc46d : ∀ x, C46d.pre x → VC (T46 C101d) H0 Try.f46 C46d x := by
 rintro ⟨v, (m : List (List Int)), (b : List Int), ⟨⟩⟩ ⟨⟨⟨q, hq, (rfl : v = _)⟩, (hm : Pl.okMM m), (hb : b.length ≤ 1000000000)⟩, (h : Pl.sys (Pl.qF (fieldD q)) m b = 0), (hd : Pl.den (Pl.qF (fieldD q)) m b ≠ none)⟩
 rw [qF_d] at h hd
 refine cast (α := (Pl.okF (D.rptr (fieldC q)) ∧ Pl.okMM m ∧ b.length ≤ (1000000000 : Nat)) ∧ Br (Pl.sys (Pl.qF (D.rptr (fieldC q))) m b != (0 : Int)) (([], false, ()) = C46d.post (fieldD q, m, b, ())) ((Pl.okSy (D.rptr (fieldC q), m, b, ()) ∧ Pl.sys (Pl.qF (D.rptr (fieldC q))) m b = (0 : Int) ∧ Pl.den (Pl.qF (D.rptr (fieldC q))) m b ≠ none) ∧ (0 : Nat) < (Pl.denW (Pl.qF (D.rptr (fieldC q))) m b).length ∧ (Pl.denW (Pl.qF (D.rptr (fieldC q))) m b, true, ()) = C46d.post (fieldD q, m, b, ()))) (by kernel_rfl) ?_
 have hp : C46d.post (fieldD q, m, b, ()) = ((Pl.deny q m b).1, (Pl.deny q m b).2, ()) := rfl
 rw [hp, qF_f]
 refine ⟨⟨okF_f hq, hm, hb⟩, Br_of (fun h' => ?_) (fun _ => ⟨⟨⟨okF_f hq, hm, hb⟩, h, hd⟩, ?_, ?_⟩)⟩
 ·have h' : Pl.sys q m b ≠ 0 := by simpa using h'
  exact absurd h h'
 ·unfold Pl.denW
  cases e : Pl.den q m b with
  | none => exact absurd e hd
  | some w =>
   obtain ⟨h1, h2, _⟩ := den_len hq h e
   show 0 < w.length
   omega
 ·rw [deny_some h hd]
theorem snd46s : Sound Try.prog 46 C46s := fn_sound (T := T46 C101s) (fn := Try.f46) (tok0 ⟨snd92, snd101s, trivial⟩) Try.func46 (by kernel_rfl) H0 vc46s (by kernel_rfl) (hC := nrcDe)
theorem snd46d : Sound Try.prog 46 C46d := fn_sound (T := T46 C101d) (fn := Try.f46) (tok0 ⟨snd92, snd101d, trivial⟩) Try.func46 (by kernel_rfl) H0 vc46d (by kernel_rfl) (hC := nrcDe)
theorem sd_or (x : D × List (List Int) × List Int × Unit) : Pl.isS x ∨ Pl.isD x := by
 by_cases h : Pl.sys (Pl.qF x.1) x.2.1 x.2.2.1 = 0
 ·by_cases hd : Pl.den (Pl.qF x.1) x.2.1 x.2.2.1 = none
  ·exact .inl fun _ => hd
  ·exact .inr ⟨h, hd⟩
 ·exact .inl fun h' => absurd h' h
theorem snd46 : Sound Try.prog 46 C46 := snd_join snd46s snd46d fun x hx => (sd_or x).elim (fun h => .inl ⟨hx.1, h⟩) (fun h => .inr ⟨hx.1, h⟩)
def C78q : Con := ⟨[I], [.raw, I], fun (x : Int × Unit) => isQ x.1, fun (x : Int × Unit) => (fieldD x.1, 0, ()), none⟩
theorem snd78q : Sound Try.prog 78 C78q := snd_less snd78 (fun _ _ => trivial) fun x hx => by
 obtain ⟨q, ⟨⟩⟩ := x
 rw [show (newF q, bif Pl.okQ q then (0 : Int) else 20, ()) = (fieldD q, (0 : Int), ()) from newF_yes hx]
end Fd
end
section
set_option linter.unusedVariables false
set_option linter.unusedSimpArgs false
set_option maxRecDepth 100000
namespace Fd
open Go Fw Go.Proofs

def C24 : Con := ⟨[], [B], fun _ => True, fun _ => (true, ()), none⟩
def T24 : Ctx := TT [(78, C78q), (80, C80), (46, C46), (42, C42), (34, C34), (55, C55)]
def Pl.smalls : List Int := [2, 3, 4, 5, 7, 8, 9, 11, 13, 16, 25, 27]
def Pl.someQ (order most : Int) : Int := bif (!Pl.okQ order) || decide (order > most) then Pl.smalls.getD (IntKind.i64.wrap ((IntKind.u64.wrap order).tmod 12)).toNat 0 else order
def C19 : Con := ⟨[I, I], [.raw, G4], fun (x : Int × Int × Unit) => True, fun (x : Int × Int × Unit) => (fieldD (Pl.someQ x.1 x.2.1), RF (Pl.someQ x.1 x.2.1), ()), none⟩
def T19 : Ctx := TT [(79, C79), (78, C78q)]
end Fd
end
section
set_option linter.unusedVariables false
set_option linter.unusedSimpArgs false
set_option maxRecDepth 100000
namespace Fd
open Go Fw Go.Proofs

theorem isQ_b {q : Int} (h : Pl.okQ q = true) : isQ q := okQ_iff.1 h
theorem wrapU (x : Int) : IntKind.wrap .u64 x = x % 18446744073709551616 := by
 unfold IntKind.wrap
 simp [IntKind.bits, IntKind.signed]
theorem idx12 (o : Int) : 0 ≤ IntKind.i64.wrap ((IntKind.u64.wrap o).tmod 12) ∧ IntKind.i64.wrap ((IntKind.u64.wrap o).tmod 12) < 12 := by
 rw [wrapU, Int.tmod_eq_emod_of_nonneg (by omega), wrap_i64 (by omega) (by omega)]
 omega
theorem newR_ok {q : Int} (h : Pl.okQ q = true) : Pl.newR q = RF q := by unfold Pl.newR; rw [h]; rfl
theorem someQ_small {o most : Int} (hb : ((!Pl.okQ o) || decide (o > most)) = true) : Pl.someQ o most = Pl.smalls.getD (IntKind.i64.wrap ((IntKind.u64.wrap o).tmod 12)).toNat 0 := by
 unfold Pl.someQ; rw [hb]; rfl
theorem someQ_self {o most : Int} (h1 : Pl.okQ o = true) (h2 : ¬ o > most) : Pl.someQ o most = o := by
 unfold Pl.someQ; rw [h1, decide_eq_false h2]; rfl
theorem smalls_ok : ∀ q ∈ Pl.smalls, Pl.okQ q = true := by
 intro q hq
 have h : Pl.smalls.all Pl.okQ = true := by kernel_rfl
 exact List.all_eq_true.1 h q hq
theorem someQ_isQ (o most : Int) : isQ (Pl.someQ o most) := by
 cases hb : (!Pl.okQ o) || decide (o > most) with
 | true =>
  rw [someQ_small hb]
  obtain ⟨h1, h2⟩ := idx12 o
  refine isQ_b (smalls_ok _ (getD_mem ?_))
  show _ < 12
  omega
 | false =>
  rw [Bool.or_eq_false_iff] at hb
  have h1 : Pl.okQ o = true := by simpa using hb.1
  rw [someQ_self h1 (of_decide_eq_false hb.2)]
  exact isQ_b h1
theorem sm_post {o most v : Int} {c : Nat} (hb : ((!Pl.okQ o) || decide (o > most)) = true) (e : IntKind.i64.wrap ((IntKind.u64.wrap o).tmod 12) = (c : Int)) (hv : Pl.smalls.getD c 0 = v) (hk : Pl.okQ v = true) : (D.rptr (fieldC v), Pl.newR v, ()) = C19.post (o, most, ()) := by
 show _ = (fieldD (Pl.someQ o most), RF (Pl.someQ o most), ())
 rw [someQ_small hb, e, Int.toNat_natCast, hv, newR_ok hk]; rfl
theorem vc19 : ∀ x, C19.pre x → VC T19 H0 Try.f19 C19 x := by
 rintro ⟨(o : Int), (most : Int), ⟨⟩⟩ -
 refine cast (α := True ∧ Br (!Pl.okQ o) ((12 : Int) ≠ (0 : Int) ∧ Br (decide (IntKind.i64.wrap ((IntKind.u64.wrap o).tmod (12 : Int)) = (↑(0 : Nat) : Int))) (True ∧ ((2 : Int) ≤ (2 : Int) ∧ (2 : Int) ≤ (65536 : Int) ∧ (1 : Int) ≤ Pl.K (2 : Int)) ∧ (D.rptr (fieldC (2 : Int)), Pl.newR (2 : Int), ()) = C19.post (o, most, ())) (Br (decide (IntKind.i64.wrap ((IntKind.u64.wrap o).tmod (12 : Int)) = (↑(1 : Nat) : Int))) (True ∧ ((2 : Int) ≤ (3 : Int) ∧ (3 : Int) ≤ (65536 : Int) ∧ (1 : Int) ≤ Pl.K (3 : Int)) ∧ (D.rptr (fieldC (3 : Int)), Pl.newR (3 : Int), ()) = C19.post (o, most, ())) (Br (decide (IntKind.i64.wrap ((IntKind.u64.wrap o).tmod (12 : Int)) = (↑(2 : Nat) : Int))) (True ∧ ((2 : Int) ≤ (4 : Int) ∧ (4 : Int) ≤ (65536 : Int) ∧ (1 : Int) ≤ Pl.K (4 : Int)) ∧ (D.rptr (fieldC (4 : Int)), Pl.newR (4 : Int), ()) = C19.post (o, most, ())) (Br (decide (IntKind.i64.wrap ((IntKind.u64.wrap o).tmod (12 : Int)) = (↑(3 : Nat) : Int))) (True ∧ ((2 : Int) ≤ (5 : Int) ∧ (5 : Int) ≤ (65536 : Int) ∧ (1 : Int) ≤ Pl.K (5 : Int)) ∧ (D.rptr (fieldC (5 : Int)), Pl.newR (5 : Int), ()) = C19.post (o, most, ())) (Br (decide (IntKind.i64.wrap ((IntKind.u64.wrap o).tmod (12 : Int)) = (↑(4 : Nat) : Int))) (True ∧ ((2 : Int) ≤ (7 : Int) ∧ (7 : Int) ≤ (65536 : Int) ∧ (1 : Int) ≤ Pl.K (7 : Int)) ∧ (D.rptr (fieldC (7 : Int)), Pl.newR (7 : Int), ()) = C19.post (o, most, ())) (Br (decide (IntKind.i64.wrap ((IntKind.u64.wrap o).tmod (12 : Int)) = (↑(5 : Nat) : Int))) (True ∧ ((2 : Int) ≤ (8 : Int) ∧ (8 : Int) ≤ (65536 : Int) ∧ (1 : Int) ≤ Pl.K (8 : Int)) ∧ (D.rptr (fieldC (8 : Int)), Pl.newR (8 : Int), ()) = C19.post (o, most, ())) (Br (decide (IntKind.i64.wrap ((IntKind.u64.wrap o).tmod (12 : Int)) = (↑(6 : Nat) : Int))) (True ∧ ((2 : Int) ≤ (9 : Int) ∧ (9 : Int) ≤ (65536 : Int) ∧ (1 : Int) ≤ Pl.K (9 : Int)) ∧ (D.rptr (fieldC (9 : Int)), Pl.newR (9 : Int), ()) = C19.post (o, most, ())) (Br (decide (IntKind.i64.wrap ((IntKind.u64.wrap o).tmod (12 : Int)) = (↑(7 : Nat) : Int))) (True ∧ ((2 : Int) ≤ (11 : Int) ∧ (11 : Int) ≤ (65536 : Int) ∧ (1 : Int) ≤ Pl.K (11 : Int)) ∧ (D.rptr (fieldC (11 : Int)), Pl.newR (11 : Int), ()) = C19.post (o, most, ())) (Br (decide (IntKind.i64.wrap ((IntKind.u64.wrap o).tmod (12 : Int)) = (↑(8 : Nat) : Int))) (True ∧ ((2 : Int) ≤ (13 : Int) ∧ (13 : Int) ≤ (65536 : Int) ∧ (1 : Int) ≤ Pl.K (13 : Int)) ∧ (D.rptr (fieldC (13 : Int)), Pl.newR (13 : Int), ()) = C19.post (o, most, ())) (Br (decide (IntKind.i64.wrap ((IntKind.u64.wrap o).tmod (12 : Int)) = (↑(9 : Nat) : Int))) (True ∧ ((2 : Int) ≤ (16 : Int) ∧ (16 : Int) ≤ (65536 : Int) ∧ (1 : Int) ≤ Pl.K (16 : Int)) ∧ (D.rptr (fieldC (16 : Int)), Pl.newR (16 : Int), ()) = C19.post (o, most, ())) (Br (decide (IntKind.i64.wrap ((IntKind.u64.wrap o).tmod (12 : Int)) = (↑(10 : Nat) : Int))) (True ∧ ((2 : Int) ≤ (25 : Int) ∧ (25 : Int) ≤ (65536 : Int) ∧ (1 : Int) ≤ Pl.K (25 : Int)) ∧ (D.rptr (fieldC (25 : Int)), Pl.newR (25 : Int), ()) = C19.post (o, most, ())) (Br (decide (IntKind.i64.wrap ((IntKind.u64.wrap o).tmod (12 : Int)) = (↑(11 : Nat) : Int))) (True ∧ ((2 : Int) ≤ (27 : Int) ∧ (27 : Int) ≤ (65536 : Int) ∧ (1 : Int) ≤ Pl.K (27 : Int)) ∧ (D.rptr (fieldC (27 : Int)), Pl.newR (27 : Int), ()) = C19.post (o, most, ())) False)))))))))))) (Br (decide (o > most)) ((12 : Int) ≠ (0 : Int) ∧ Br (decide (IntKind.i64.wrap ((IntKind.u64.wrap o).tmod (12 : Int)) = (↑(0 : Nat) : Int))) (True ∧ ((2 : Int) ≤ (2 : Int) ∧ (2 : Int) ≤ (65536 : Int) ∧ (1 : Int) ≤ Pl.K (2 : Int)) ∧ (D.rptr (fieldC (2 : Int)), Pl.newR (2 : Int), ()) = C19.post (o, most, ())) (Br (decide (IntKind.i64.wrap ((IntKind.u64.wrap o).tmod (12 : Int)) = (↑(1 : Nat) : Int))) (True ∧ ((2 : Int) ≤ (3 : Int) ∧ (3 : Int) ≤ (65536 : Int) ∧ (1 : Int) ≤ Pl.K (3 : Int)) ∧ (D.rptr (fieldC (3 : Int)), Pl.newR (3 : Int), ()) = C19.post (o, most, ())) (Br (decide (IntKind.i64.wrap ((IntKind.u64.wrap o).tmod (12 : Int)) = (↑(2 : Nat) : Int))) (True ∧ ((2 : Int) ≤ (4 : Int) ∧ (4 : Int) ≤ (65536 : Int) ∧ (1 : Int) ≤ Pl.K (4 : Int)) ∧ (D.rptr (fieldC (4 : Int)), Pl.newR (4 : Int), ()) = C19.post (o, most, ())) (Br (decide (IntKind.i64.wrap ((IntKind.u64.wrap o).tmod (12 : Int)) = (↑(3 : Nat) : Int))) (True ∧ ((2 : Int) ≤ (5 : Int) ∧ (5 : Int) ≤ (65536 : Int) ∧ (1 : Int) ≤ Pl.K (5 : Int)) ∧ (D.rptr (fieldC (5 : Int)), Pl.newR (5 : Int), ()) = C19.post (o, most, ())) (Br (decide (IntKind.i64.wrap ((IntKind.u64.wrap o).tmod (12 : Int)) = (↑(4 : Nat) : Int))) (True ∧ ((2 : Int) ≤ (7 : Int) ∧ (7 : Int) ≤ (65536 : Int) ∧ (1 : Int) ≤ Pl.K (7 : Int)) ∧ (D.rptr (fieldC (7 : Int)), Pl.newR (7 : Int), ()) = C19.post (o, most, ())) (Br (decide (IntKind.i64.wrap ((IntKind.u64.wrap o).tmod (12 : Int)) = (↑(5 : Nat) : Int))) (True ∧ ((2 : Int) ≤ (8 : Int) ∧ (8 : Int) ≤ (65536 : Int) ∧ (1 : Int) ≤ Pl.K (8 : Int)) ∧ (D.rptr (fieldC (8 : Int)), Pl.newR (8 : Int), ()) = C19.post (o, most, ())) (Br (decide (IntKind.i64.wrap ((IntKind.u64.wrap o).tmod (12 : Int)) = (↑(6 : Nat) : Int))) (True ∧ ((2 : Int) ≤ (9 : Int) ∧ (9 : Int) ≤ (65536 : Int) ∧ (1 : Int) ≤ Pl.K (9 : Int)) ∧ (D.rptr (fieldC (9 : Int)), Pl.newR (9 : Int), ()) = C19.post (o, most, ())) (Br (decide (IntKind.i64.wrap ((IntKind.u64.wrap o).tmod (12 : Int)) = (↑(7 : Nat) : Int))) (True ∧ ((2 : Int) ≤ (11 : Int) ∧ (11 : Int) ≤ (65536 : Int) ∧ (1 : Int) ≤ Pl.K (11 : Int)) ∧ (D.rptr (fieldC (11 : Int)), Pl.newR (11 : Int), ()) = C19.post (o, most, ())) (Br (decide (IntKind.i64.wrap ((IntKind.u64.wrap o).tmod (12 : Int)) = (↑(8 : Nat) : Int))) (True ∧ ((2 : Int) ≤ (13 : Int) ∧ (13 : Int) ≤ (65536 : Int) ∧ (1 : Int) ≤ Pl.K (13 : Int)) ∧ (D.rptr (fieldC (13 : Int)), Pl.newR (13 : Int), ()) = C19.post (o, most, ())) (Br (decide (IntKind.i64.wrap ((IntKind.u64.wrap o).tmod (12 : Int)) = (↑(9 : Nat) : Int))) (True ∧ ((2 : Int) ≤ (16 : Int) ∧ (16 : Int) ≤ (65536 : Int) ∧ (1 : Int) ≤ Pl.K (16 : Int)) ∧ (D.rptr (fieldC (16 : Int)), Pl.newR (16 : Int), ()) = C19.post (o, most, ())) (Br (decide (IntKind.i64.wrap ((IntKind.u64.wrap o).tmod (12 : Int)) = (↑(10 : Nat) : Int))) (True ∧ ((2 : Int) ≤ (25 : Int) ∧ (25 : Int) ≤ (65536 : Int) ∧ (1 : Int) ≤ Pl.K (25 : Int)) ∧ (D.rptr (fieldC (25 : Int)), Pl.newR (25 : Int), ()) = C19.post (o, most, ())) (Br (decide (IntKind.i64.wrap ((IntKind.u64.wrap o).tmod (12 : Int)) = (↑(11 : Nat) : Int))) (True ∧ ((2 : Int) ≤ (27 : Int) ∧ (27 : Int) ≤ (65536 : Int) ∧ (1 : Int) ≤ Pl.K (27 : Int)) ∧ (D.rptr (fieldC (27 : Int)), Pl.newR (27 : Int), ()) = C19.post (o, most, ())) False)))))))))))) (((2 : Int) ≤ o ∧ o ≤ (65536 : Int) ∧ (1 : Int) ≤ Pl.K o) ∧ (D.rptr (fieldC o), Pl.newR o, ()) = C19.post (o, most, ())))) (by kernel_rfl) ?_
 obtain ⟨i0, i1⟩ := idx12 o
 refine ⟨trivial, Br_of (fun h => ?_) (fun h => Br_of (fun h2 => ?_) (fun h2 => ?_))⟩
 ·have hb : ((!Pl.okQ o) || decide (o > most)) = true := by rw [h]; rfl
  refine ⟨by omega, ?_⟩
  refine Br_of (fun e => ⟨trivial, isQ_b (by kernel_rfl), sm_post hb (v := 2) (of_decide_eq_true e) rfl (by kernel_rfl)⟩) (fun e0 => ?_)
  refine Br_of (fun e => ⟨trivial, isQ_b (by kernel_rfl), sm_post hb (v := 3) (of_decide_eq_true e) rfl (by kernel_rfl)⟩) (fun e1 => ?_)
  refine Br_of (fun e => ⟨trivial, isQ_b (by kernel_rfl), sm_post hb (v := 4) (of_decide_eq_true e) rfl (by kernel_rfl)⟩) (fun e2 => ?_)
  refine Br_of (fun e => ⟨trivial, isQ_b (by kernel_rfl), sm_post hb (v := 5) (of_decide_eq_true e) rfl (by kernel_rfl)⟩) (fun e3 => ?_)
  refine Br_of (fun e => ⟨trivial, isQ_b (by kernel_rfl), sm_post hb (v := 7) (of_decide_eq_true e) rfl (by kernel_rfl)⟩) (fun e4 => ?_)
  refine Br_of (fun e => ⟨trivial, isQ_b (by kernel_rfl), sm_post hb (v := 8) (of_decide_eq_true e) rfl (by kernel_rfl)⟩) (fun e5 => ?_)
  refine Br_of (fun e => ⟨trivial, isQ_b (by kernel_rfl), sm_post hb (v := 9) (of_decide_eq_true e) rfl (by kernel_rfl)⟩) (fun e6 => ?_)
  refine Br_of (fun e => ⟨trivial, isQ_b (by kernel_rfl), sm_post hb (v := 11) (of_decide_eq_true e) rfl (by kernel_rfl)⟩) (fun e7 => ?_)
  refine Br_of (fun e => ⟨trivial, isQ_b (by kernel_rfl), sm_post hb (v := 13) (of_decide_eq_true e) rfl (by kernel_rfl)⟩) (fun e8 => ?_)
  refine Br_of (fun e => ⟨trivial, isQ_b (by kernel_rfl), sm_post hb (v := 16) (of_decide_eq_true e) rfl (by kernel_rfl)⟩) (fun e9 => ?_)
  refine Br_of (fun e => ⟨trivial, isQ_b (by kernel_rfl), sm_post hb (v := 25) (of_decide_eq_true e) rfl (by kernel_rfl)⟩) (fun e10 => ?_)
  refine Br_of (fun e => ⟨trivial, isQ_b (by kernel_rfl), sm_post hb (v := 27) (of_decide_eq_true e) rfl (by kernel_rfl)⟩) (fun e11 => ?_)
  have e0 := of_decide_eq_false e0
  have e1 := of_decide_eq_false e1
  have e2 := of_decide_eq_false e2
  have e3 := of_decide_eq_false e3
  have e4 := of_decide_eq_false e4
  have e5 := of_decide_eq_false e5
  have e6 := of_decide_eq_false e6
  have e7 := of_decide_eq_false e7
  have e8 := of_decide_eq_false e8
  have e9 := of_decide_eq_false e9
  have e10 := of_decide_eq_false e10
  have e11 := of_decide_eq_false e11
  omega
 ·have hb : ((!Pl.okQ o) || decide (o > most)) = true := by rw [h2]; simp
  refine ⟨by omega, ?_⟩
  refine Br_of (fun e => ⟨trivial, isQ_b (by kernel_rfl), sm_post hb (v := 2) (of_decide_eq_true e) rfl (by kernel_rfl)⟩) (fun e0 => ?_)
  refine Br_of (fun e => ⟨trivial, isQ_b (by kernel_rfl), sm_post hb (v := 3) (of_decide_eq_true e) rfl (by kernel_rfl)⟩) (fun e1 => ?_)
  refine Br_of (fun e => ⟨trivial, isQ_b (by kernel_rfl), sm_post hb (v := 4) (of_decide_eq_true e) rfl (by kernel_rfl)⟩) (fun e2 => ?_)
  refine Br_of (fun e => ⟨trivial, isQ_b (by kernel_rfl), sm_post hb (v := 5) (of_decide_eq_true e) rfl (by kernel_rfl)⟩) (fun e3 => ?_)
  refine Br_of (fun e => ⟨trivial, isQ_b (by kernel_rfl), sm_post hb (v := 7) (of_decide_eq_true e) rfl (by kernel_rfl)⟩) (fun e4 => ?_)
  refine Br_of (fun e => ⟨trivial, isQ_b (by kernel_rfl), sm_post hb (v := 8) (of_decide_eq_true e) rfl (by kernel_rfl)⟩) (fun e5 => ?_)
  refine Br_of (fun e => ⟨trivial, isQ_b (by kernel_rfl), sm_post hb (v := 9) (of_decide_eq_true e) rfl (by kernel_rfl)⟩) (fun e6 => ?_)
  refine Br_of (fun e => ⟨trivial, isQ_b (by kernel_rfl), sm_post hb (v := 11) (of_decide_eq_true e) rfl (by kernel_rfl)⟩) (fun e7 => ?_)
  refine Br_of (fun e => ⟨trivial, isQ_b (by kernel_rfl), sm_post hb (v := 13) (of_decide_eq_true e) rfl (by kernel_rfl)⟩) (fun e8 => ?_)
  refine Br_of (fun e => ⟨trivial, isQ_b (by kernel_rfl), sm_post hb (v := 16) (of_decide_eq_true e) rfl (by kernel_rfl)⟩) (fun e9 => ?_)
  refine Br_of (fun e => ⟨trivial, isQ_b (by kernel_rfl), sm_post hb (v := 25) (of_decide_eq_true e) rfl (by kernel_rfl)⟩) (fun e10 => ?_)
  refine Br_of (fun e => ⟨trivial, isQ_b (by kernel_rfl), sm_post hb (v := 27) (of_decide_eq_true e) rfl (by kernel_rfl)⟩) (fun e11 => ?_)
  have e0 := of_decide_eq_false e0
  have e1 := of_decide_eq_false e1
  have e2 := of_decide_eq_false e2
  have e3 := of_decide_eq_false e3
  have e4 := of_decide_eq_false e4
  have e5 := of_decide_eq_false e5
  have e6 := of_decide_eq_false e6
  have e7 := of_decide_eq_false e7
  have e8 := of_decide_eq_false e8
  have e9 := of_decide_eq_false e9
  have e10 := of_decide_eq_false e10
  have e11 := of_decide_eq_false e11
  omega
 ·have h1 : Pl.okQ o = true := by simpa using h
  refine ⟨isQ_b h1, ?_⟩
  show _ = (fieldD (Pl.someQ o most), RF (Pl.someQ o most), ())
  rw [someQ_self h1 (of_decide_eq_false h2), newR_ok h1]; rfl
theorem nr_RF (q : Int) : (Ar.enc G4 (RF q)).nr := by exact ⟨trivial, trivial, trivial, trivial, trivial⟩
theorem nrc19 : NRC C19 := ⟨fun x hx => ⟨trivial, trivial, trivial⟩, fun x hx => ⟨nr_field (someQ_isQ _ _), nr_RF _, trivial⟩⟩
theorem snd19 : Sound Try.prog 19 C19 := fn_sound (T := T19) (fn := Try.f19) (tok0 ⟨snd79, snd78q, trivial⟩) Try.func19 (by kernel_rfl) H0 vc19 (by kernel_rfl) (hC := nrc19)

theorem aw1 : Pl.md 8 = [1, 1, 0, 1] := by kernel_rfl
theorem aw2 : Pl.gen 8 = 2 := by kernel_rfl
theorem aw3 : Pl.mul 8 2 4 = 3 := by kernel_rfl
theorem aw4 : Pl.trace 8 1 = 1 := by kernel_rfl
theorem aw5 : Pl.deny 5 [[1, 2], [2, 4]] [1, 3] = ([3, 1], true) := by kernel_rfl
theorem ok8 : isQ 8 := isQ_b (by kernel_rfl)
theorem ok5 : isQ 5 := isQ_b (by kernel_rfl)
theorem vc24 : ∀ x, C24.pre x → VC T24 H0 Try.f24 C24 x := by
 rintro ⟨⟩ -
 refine cast (α := ((2 : Int) ≤ (8 : Int) ∧ (8 : Int) ≤ (65536 : Int) ∧ (1 : Int) ≤ Pl.K (8 : Int)) ∧ Br ((0 : I.El) != (0 : Int)) ((false, ()) = C24.post ()) (Pl.okF (D.rptr (fieldC (8 : Int))) ∧ ((2 : Int) ≤ (5 : Int) ∧ (5 : Int) ≤ (65536 : Int) ∧ (1 : Int) ≤ Pl.K (5 : Int)) ∧ (Pl.okSy (D.rptr (fieldC (5 : Int)), [[(1 : Int), (2 : Int)], [(2 : Int), (4 : Int)]], [(1 : Int), (3 : Int)], ()) ∧ True) ∧ Br ((↑(Pl.md (Pl.qF (D.rptr (fieldC (8 : Int))))).length : Int) == (4 : Int)) ((0 : Int) ≤ (2 : Int) ∧ (2 : Int) < (↑(Pl.md (Pl.qF (D.rptr (fieldC (8 : Int))))).length : Int) ∧ Br (rd i64 (Pl.md (Pl.qF (D.rptr (fieldC (8 : Int))))) (2 : Int) == (0 : Int)) (Pl.okF (D.rptr (fieldC (8 : Int))) ∧ Br (Pl.gen (Pl.qF (D.rptr (fieldC (8 : Int)))) == (2 : Int)) (Pl.okF (D.rptr (fieldC (8 : Int))) ∧ Br (Pl.mul (Pl.qF (D.rptr (fieldC (8 : Int)))) ((2 : Int) % Pl.qF (D.rptr (fieldC (8 : Int)))) ((4 : Int) % Pl.qF (D.rptr (fieldC (8 : Int)))) == (3 : Int)) (Pl.okF (D.rptr (fieldC (8 : Int))) ∧ Br (Pl.trace (Pl.qF (D.rptr (fieldC (8 : Int)))) ((1 : Int) % Pl.qF (D.rptr (fieldC (8 : Int)))) == (1 : Int)) (Br (Pl.deny (Pl.qF (D.rptr (fieldC (5 : Int)))) [[(1 : Int), (2 : Int)], [(2 : Int), (4 : Int)]] [(1 : Int), (3 : Int)]).2 (((↑(Pl.deny (Pl.qF (D.rptr (fieldC (5 : Int)))) [[(1 : Int), (2 : Int)], [(2 : Int), (4 : Int)]] [(1 : Int), (3 : Int)]).1.length : Int) == (2 : Int), ()) = C24.post ()) ((false, ()) = C24.post ())) ((false, ()) = C24.post ())) ((false, ()) = C24.post ())) ((false, ()) = C24.post ())) ((false, ()) = C24.post ())) ((false, ()) = C24.post ()))) (by kernel_rfl) ?_
 rw [qF_f, qF_f, aw1, aw2, aw5, show (2 : Int) % 8 = 2 by decide, show (4 : Int) % 8 = 4 by decide, show (1 : Int) % 8 = 1 by decide, aw3, aw4]
 refine ⟨ok8, okF_f ok8, ok5, ⟨⟨okF_f ok5, ?_, ?_⟩, trivial⟩, ?_⟩
 ·refine ⟨by decide, fun r hr => ?_⟩
  simp at hr
  rcases hr with rfl | rfl <;> decide
 ·decide
 ·exact ⟨by decide, by decide, okF_f ok8, okF_f ok8, okF_f ok8, rfl⟩
theorem snd24 : Sound Try.prog 24 C24 := fn_sound (T := T24) (fn := Try.f24) (tok0 ⟨snd78q, snd80, snd46, snd42, snd34, snd55, trivial⟩) Try.func24 (by kernel_rfl) H0 vc24 (by kernel_rfl)
end Fd
end
section
set_option linter.unusedVariables false
set_option linter.unusedSimpArgs false
set_option maxRecDepth 100000
namespace Fd
open Go Fw Go.Proofs

end Fd
end
section
set_option linter.unusedVariables false
set_option linter.unusedSimpArgs false
set_option maxRecDepth 100000
namespace Fd
open Go Fw Go.Proofs

end Fd
end
section
set_option linter.unusedVariables false
set_option linter.unusedSimpArgs false
set_option maxRecDepth 100000
namespace Fd
open Go Fw Go.Proofs

end Fd
end
section
set_option linter.unusedVariables false
set_option linter.unusedSimpArgs false
set_option maxRecDepth 100000
namespace Fd
open Go Fw Go.Proofs

def Pl.trimN (l : List Int) : Nat → Nat
 | 0 => 0
 | n + 1 => bif decide (l.getD n 0 = 0) then Pl.trimN l n else n + 1
def Pl.trim (l : List Int) : List Int := l.take (Pl.trimN l l.length)
def C143 : Con := ⟨[L], [L], fun (x : List Int × Unit) => x.1.length ≤ 1000000000, fun (x : List Int × Unit) => (Pl.trim x.1, ()), none⟩
def H143 : Hints := lo [(0, ⟨[0], [(3, si)]⟩)]
def Pl.pst (q : Int) (a b out : List Int) (i k : Nat) : List Int := out.set (i + k) (Pl.add q (out.getD (i + k) 0) (Pl.mul q (a.getD i 0) (b.getD k 0)))
def Pl.prow (q : Int) (a b : List Int) (i : Nat) : Nat → List Int → List Int
 | 0, out => out
 | k + 1, out => Pl.pst q a b (Pl.prow q a b i k out) i k
def Pl.prws (q : Int) (a b : List Int) : Nat → List Int
 | 0 => List.replicate (a.length + b.length - 1) 0
 | i + 1 => Pl.prow q a b i b.length (Pl.prws q a b i)
def Pl.prod (q : Int) (a b : List Int) : List Int := bif decide (a.length = 0) || decide (b.length = 0) then [] else Pl.prws q a b a.length
def Pl.okPr (q : Int) (a b : List Int) : Prop := (∀ x ∈ a, Pl.inQ q x) ∧ (∀ x ∈ b, Pl.inQ q x) ∧ a.length ≤ 1000000 ∧ b.length ≤ 1000000
def C107 : Con := ⟨[.raw, L, L], [L], fun (x : D × List Int × List Int × Unit) => Pl.okF x.1 ∧ Pl.okPr (Pl.qF x.1) x.2.1 x.2.2.1, fun (x : D × List Int × List Int × Unit) => (Pl.trim (Pl.prod (Pl.qF x.1) x.2.1 x.2.2.1), ()), none⟩
def H107 : Hints := ⟨[], [(13, [1000007])], [(0, ⟨[0, 2, 27, 28], [(7, so), (29, si)]⟩), (2, ⟨[0, 2, 8, 9, 27, 28, 29, 34, 35], [(7, so), (36, si)]⟩)], [], []⟩
def T107 : Ctx := TF [(143, C143)]
def C69 : Con := ⟨[G4, L, L], [L], fun (x : R4 × List Int × List Int × Unit) => Pl.okr x.1 ∧ Pl.okPr x.1.1 x.2.1 x.2.2.1, fun (x : R4 × List Int × List Int × Unit) => (Pl.prod x.1.1 x.2.1 x.2.2.1, ()), none⟩
def H69 : Hints := ⟨[], [(1, [3])], [(0, ⟨[1, 2, 3], [(7, so), (8, si)]⟩), (2, ⟨[1, 2, 3, 8], [(7, so), (9, si)]⟩)], [], []⟩
def T69 : Ctx := TT [(31, C31), (35, C35)]
def Pl.same (a b : List Int) : Bool := decide (a = b)
def C50 : Con := ⟨[L, L], [B], fun (x : List Int × List Int × Unit) => x.1.length ≤ 1000000000, fun (x : List Int × List Int × Unit) => (Pl.same x.1 x.2.1, ()), none⟩
def H50 : Hints := lo [(0, ⟨[0, 1], [(5, si)]⟩)]
end Fd
end
section
set_option linter.unusedVariables false
set_option linter.unusedSimpArgs false
set_option maxRecDepth 100000
namespace Fd
open Go Fw Go.Proofs

theorem vc143 : ∀ x, C143.pre x → VC (TT []) H143 Try.f143 C143 x := by
 rintro ⟨(l : List Int), ⟨⟩⟩ (hl : l.length ≤ 1000000000)
 refine cast (α := ∃ (n : Nat), itl (fun (G : Int × PUnit → Prop) (x : Int × PUnit) => Br (decide (x.1 > (0 : Int))) ((0 : Int) ≤ IntKind.i64.wrap (x.1 - (1 : Int)) ∧ IntKind.i64.wrap (x.1 - (1 : Int)) < (↑l.length : Int) ∧ Br (rd i64 l (IntKind.i64.wrap (x.1 - (1 : Int))) == (0 : Int)) (G (IntKind.i64.wrap (x.1 - (1 : Int)), ())) ((0 : Int) ≤ x.1 ∧ x.1 ≤ (↑l.length : Int) ∧ x.1 = x.1 ∧ (sub l (0 : Int) x.1, ()) = C143.post (l, ()))) ((0 : Int) ≤ x.1 ∧ x.1 ≤ (↑l.length : Int) ∧ x.1 = x.1 ∧ (sub l (0 : Int) x.1, ()) = C143.post (l, ()))) n ((↑l.length : Int), ())) (by kernel_rfl) ?_
 have hp : C143.post (l, ()) = (l.take (Pl.trimN l l.length), ()) := rfl
 rw [hp]
 refine itl_rule (fun s => ∃ i : Nat, s.1 = (i : Int) ∧ i ≤ l.length ∧ Pl.trimN l i = Pl.trimN l l.length) (fun s => s.1.toNat) ⟨l.length, rfl, Nat.le_refl _, rfl⟩ ?_
 rintro ⟨i0, ⟨⟩⟩ G ⟨i, e, hi, hf⟩ hG
 simp only at e hf hG ⊢
 subst e
 have hsub : ∀ n : Nat, sub l (0 : Int) (n : Int) = l.take n := fun n => by unfold sub; simp
 refine Br_of (fun h => ?_) (fun h => ?_)
 ·have h : 0 < i := by have := of_decide_eq_true h; omega
  rw [wrap_i64 (by omega) (by omega), show ((i : Int) - 1) = ((i - 1 : Nat) : Int) by omega, rd_i]
  rw [show i = (i - 1) + 1 by omega, Pl.trimN] at hf
  refine ⟨by omega, by omega, Br_of (fun h1 => ?_) (fun h1 => ?_)⟩
  ·rw [decide_eq_true (eq_of_beq h1), cond_true] at hf
   exact hG _ ⟨i - 1, rfl, by omega, hf⟩ (by simp only; omega)
  ·rw [decide_eq_false (by simpa using h1), cond_false] at hf
   exact ⟨by omega, by omega, trivial, by rw [hsub, ← hf, show i - 1 + 1 = i by omega]⟩
 ·have h : i = 0 := by have := of_decide_eq_false h; omega
  subst h
  exact ⟨by omega, by omega, trivial, by rw [hsub, ← hf]; rfl⟩
theorem vc50 : ∀ x, C50.pre x → VC (TT []) H50 Try.f50 C50 x := by
  rintro ⟨(a : List Int), (b : List Int), ⟨⟩⟩ (hl : a.length ≤ 1000000000)
  refine cast (α := Br ((↑a.length : Int) != (↑b.length : Int)) ((false, ()) = C50.post (a, b, ())) (∃ (n : Nat), itl (fun (G : Int × PUnit → Prop) (x : Int × PUnit) => Br (decide (x.1 < (↑a.length : Int))) ((0 : Int) ≤ x.1 ∧ x.1 < (↑a.length : Int) ∧ (0 : Int) ≤ x.1 ∧ x.1 < (↑b.length : Int) ∧ Br (rd i64 a x.1 != rd i64 b x.1) ((false, ()) = C50.post (a, b, ())) (G (IntKind.i64.wrap (x.1 + (1 : Int)), ()))) ((true, ()) = C50.post (a, b, ()))) n ((0 : Int), ()))) (by kernel_rfl) ?_
  have hp : C50.post (a, b, ()) = (decide (a = b), ()) := rfl
  rw [hp]
  refine Br_of (fun h => ?_) (fun h => ?_)
  · have h : (a.length : Int) ≠ b.length := by simpa using h
    rw [decide_eq_false (fun e => h (by rw [e]))]
  have h : a.length = b.length := by have : (a.length : Int) = b.length := by simpa using h
                                     omega
  refine itl_rule (fun s => ∃ i : Nat, s.1 = (i : Int) ∧ i ≤ a.length ∧ a.take i = b.take i) (fun s => ((a.length : Int) - s.1).toNat) ⟨0, rfl, Nat.zero_le _, rfl⟩ ?_
  rintro ⟨i0, ⟨⟩⟩ G ⟨i, e, hi, hf⟩ hG
  simp only at e hf hG ⊢
  subst e
  refine Br_of (fun h1 => ?_) (fun h1 => ?_)
  · have h1 : i < a.length := by have := of_decide_eq_true h1; omega
    rw [rd_i, rd_i, wrap_i64 (by omega) (by omega)]
    refine ⟨by omega, by omega, by omega, by omega, Br_of (fun h2 => ?_) (fun h2 => ?_)⟩
    · have h2 : a.getD i 0 ≠ b.getD i 0 := by simpa using h2
      rw [decide_eq_false (fun e => h2 (by rw [e]))]
    · have h2 : a.getD i 0 = b.getD i 0 := by simpa using h2
      refine hG _ ⟨i + 1, rfl, by omega, ?_⟩ (by simp only; omega)
      have hb : i < b.length := by omega
      rw [List.getD_eq_getElem?_getD, List.getD_eq_getElem?_getD, List.getElem?_eq_getElem h1, List.getElem?_eq_getElem hb] at h2
      have h2 : a[i] = b[i] := h2
      rw [List.take_succ_eq_append_getElem h1, List.take_succ_eq_append_getElem hb, hf, h2]
  · have h1 : i = a.length := by have := of_decide_eq_false h1; omega
    subst h1
    rw [List.take_length, h, List.take_length] at hf
    rw [decide_eq_true hf]
section
variable {q : Int} (hq : isQ q) {a b : List Int}
include hq
theorem pst_ok {out : List Int} {i k : Nat} (ho : ∀ x ∈ out, Pl.inQ q x) : (Pl.pst q a b out i k).length = out.length ∧ ∀ x ∈ Pl.pst q a b out i k, Pl.inQ q x := by
 unfold Pl.pst
 refine ⟨List.length_set, fun x hx => ?_⟩
 rcases List.mem_or_eq_of_mem_set hx with h | rfl
 ·exact ho x h
 ·exact add_inQ hq _ _
theorem prow_ok (i : Nat) : ∀ (k : Nat) {out : List Int}, (∀ x ∈ out, Pl.inQ q x) → (Pl.prow q a b i k out).length = out.length ∧ ∀ x ∈ Pl.prow q a b i k out, Pl.inQ q x
 | 0, _, h => ⟨rfl, h⟩
 | k + 1, out, h => by
  obtain ⟨h1, h2⟩ := prow_ok i k h
  obtain ⟨h3, h4⟩ := pst_ok hq (a := a) (b := b) (i := i) (k := k) h2
  exact ⟨h3.trans h1, h4⟩
theorem prws_ok : ∀ i : Nat, (Pl.prws q a b i).length = a.length + b.length - 1 ∧ ∀ x ∈ Pl.prws q a b i, Pl.inQ q x
 | 0 => ⟨List.length_replicate, fun x hx => by rw [List.eq_of_mem_replicate hx]; exact zero_inQ hq⟩
 | i + 1 => by
  obtain ⟨h1, h2⟩ := prws_ok i
  obtain ⟨h3, h4⟩ := prow_ok hq (a := a) (b := b) i b.length h2
  exact ⟨h3.trans h1, h4⟩
theorem prod_ok : (Pl.prod q a b).length ≤ a.length + b.length ∧ ∀ x ∈ Pl.prod q a b, Pl.inQ q x := by
 unfold Pl.prod
 cases h : decide (a.length = 0) || decide (b.length = 0) with
 | true => exact ⟨Nat.zero_le _, fun x hx => by cases hx⟩
 | false =>
  obtain ⟨h1, h2⟩ := prws_ok hq (a := a) (b := b) a.length
  exact ⟨by rw [cond_false, h1]; omega, h2⟩
end
theorem vc107 : ∀ x, C107.pre x → VC T107 H107 Try.f107 C107 x := by
 rintro ⟨v, (a : List Int), (b : List Int), ⟨⟩⟩ ⟨⟨q, hq, (rfl : v = _)⟩, (hab : Pl.okPr (Pl.qF (fieldD q)) a b)⟩
 rw [qF_d] at hab
 obtain ⟨ha, hb, la, lb⟩ := hab
 refine cast (α := Br ((↑a.length : Int) == (0 : Int)) (([], ()) = C107.post (fieldD q, a, b, ())) (Br ((↑b.length : Int) == (0 : Int)) (([], ()) = C107.post (fieldD q, a, b, ())) ((0 : Int) ≤ IntKind.i64.wrap (IntKind.i64.wrap ((↑a.length : Int) + (↑b.length : Int)) - (1 : Int)) ∧ IntKind.i64.wrap (IntKind.i64.wrap ((↑a.length : Int) + (↑b.length : Int)) - (1 : Int)) = IntKind.i64.wrap (IntKind.i64.wrap ((↑a.length : Int) + (↑b.length : Int)) - (1 : Int)) ∧ IntKind.i64.wrap (IntKind.i64.wrap ((↑a.length : Int) + (↑b.length : Int)) - (1 : Int)) * (8 : Int) ≤ (140737488355328 : Int) ∧ ∃ (n : Nat), itl (fun (G : List Int × Int × PUnit → Prop) (x : List Int × Int × PUnit) => Br (decide (x.2.1 < (↑a.length : Int))) ((0 : Int) ≤ x.2.1 ∧ x.2.1 < (↑a.length : Int) ∧ ∃ (n : Nat), itl (fun (G_1 : List Int × Int × PUnit → Prop) (x_1 : List Int × Int × PUnit) => Br (decide (x_1.2.1 < (↑b.length : Int))) ((0 : Int) ≤ x_1.2.1 ∧ x_1.2.1 < (↑b.length : Int) ∧ (0 : Int) ≤ IntKind.i64.wrap (x.2.1 + x_1.2.1) ∧ IntKind.i64.wrap (x.2.1 + x_1.2.1) < (↑(List.length x_1.1) : Int) ∧ (0 : Int) ≤ IntKind.i64.wrap (x.2.1 + x_1.2.1) ∧ IntKind.i64.wrap (x.2.1 + x_1.2.1) < (↑(List.length x_1.1) : Int) ∧ (Pl.okM (arD q) ∧ Pl.inQ (Pl.qA (arD q)) (rd i64 a x.2.1) ∧ Pl.inQ (Pl.qA (arD q)) (rd i64 b x_1.2.1)) ∧ (Pl.okA (arD q) ∧ Pl.inQ (Pl.qA (arD q)) (rd i64 x_1.1 (IntKind.i64.wrap (x.2.1 + x_1.2.1))) ∧ Pl.inQ (Pl.qA (arD q)) (Pl.mul (Pl.qA (arD q)) (rd i64 a x.2.1) (rd i64 b x_1.2.1))) ∧ (0 : Int) ≤ IntKind.i64.wrap (x.2.1 + x_1.2.1) ∧ IntKind.i64.wrap (x.2.1 + x_1.2.1) < (↑(List.length x_1.1) : Int) ∧ (0 : Int) ≤ IntKind.i64.wrap (x.2.1 + x_1.2.1) ∧ IntKind.i64.wrap (x.2.1 + x_1.2.1) < (↑(List.length x_1.1) : Int) ∧ G_1 (List.set x_1.1 (IntKind.i64.wrap (x.2.1 + x_1.2.1)).toNat (Pl.add (Pl.qA (arD q)) (rd i64 x_1.1 (IntKind.i64.wrap (x.2.1 + x_1.2.1))) (Pl.mul (Pl.qA (arD q)) (rd i64 a x.2.1) (rd i64 b x_1.2.1))), IntKind.i64.wrap (x_1.2.1 + (1 : Int)), ())) (G (x_1.1, IntKind.i64.wrap (x.2.1 + (1 : Int)), ()))) n (x.1, (0 : Int), ())) (x.1.length ≤ (1000000000 : Nat) ∧ (Pl.trim x.1, ()) = C107.post (fieldD q, a, b, ()))) n (List.replicate (IntKind.i64.wrap (IntKind.i64.wrap ((↑a.length : Int) + (↑b.length : Int)) - (1 : Int))).toNat (0 : Int), (0 : Int), ())))) (by kernel_rfl) ?_
 rw [qA_ar hq]
 have hp : C107.post (fieldD q, a, b, ()) = (Pl.trim (Pl.prod q a b), ()) := rfl
 rw [hp]
 refine Br_of (fun h => ?_) (fun h => Br_of (fun h1 => ?_) (fun h1 => ?_))
 ·have h : a.length = 0 := by have := eq_of_beq h; omega
  unfold Pl.prod; rw [decide_eq_true h]; rfl
 ·have h1 : b.length = 0 := by have := eq_of_beq h1; omega
  unfold Pl.prod; rw [decide_eq_true h1, Bool.or_true]; rfl
 have h : a.length ≠ 0 := fun e => by rw [e] at h; cases h
 have h1 : b.length ≠ 0 := fun e => by rw [e] at h1; cases h1
 have hprod : Pl.prod q a b = Pl.prws q a b a.length := by unfold Pl.prod; rw [decide_eq_false h, decide_eq_false h1]; rfl
 rw [hprod, wrap_i64 (x := (a.length : Int) + b.length) (by omega) (by omega), wrap_i64 (x := (a.length : Int) + b.length - 1) (by omega) (by omega)]
 refine ⟨by omega, rfl, by omega, itl_rule (fun s => ∃ i : Nat, s.2.1 = (i : Int) ∧ i ≤ a.length ∧ s.1 = Pl.prws q a b i) (fun s => ((a.length : Int) - s.2.1).toNat) ⟨0, rfl, Nat.zero_le _, by show List.replicate _ _ = List.replicate _ _; congr 1; omega⟩ ?_⟩
 rintro ⟨out, i0, ⟨⟩⟩ G ⟨i, e, hi, ho⟩ hG
 simp only at e ho hG ⊢
 subst e ho
 refine Br_of (fun h2 => ?_) (fun h2 => ?_)
 ·have h2 : i < a.length := by have := of_decide_eq_true h2; omega
  obtain ⟨r1, r2⟩ := prws_ok hq (a := a) (b := b) i
  refine ⟨by omega, by omega, itl_rule (fun s => ∃ k : Nat, s.2.1 = (k : Int) ∧ k ≤ b.length ∧ s.1 = Pl.prow q a b i k (Pl.prws q a b i)) (fun s => ((b.length : Int) - s.2.1).toNat) ⟨0, rfl, Nat.zero_le _, rfl⟩ ?_⟩
  rintro ⟨out, k0, ⟨⟩⟩ G1 ⟨k, e, hk, ho⟩ hG1
  simp only at e ho hG1 ⊢
  subst e ho
  refine Br_of (fun h3 => ?_) (fun h3 => ?_)
  ·have h3 : k < b.length := by have := of_decide_eq_true h3; omega
   obtain ⟨s1, s2⟩ := prow_ok hq (a := a) (b := b) i k r2
   rw [wrap_i64 (x := (i : Int) + k) (by omega) (by omega), wrap_i64 (x := (k : Int) + 1) (by omega) (by omega), show (i : Int) + k = ((i + k : Nat) : Int) from rfl, rd_i, rd_i, rd_i, s1, r1, Int.toNat_natCast]
   have hin := getD_inQ s2 (j := i + k) (by rw [s1, r1]; omega)
   exact ⟨by omega, by omega, by omega, by omega, by omega, by omega, ⟨okM_ar hq, getD_inQ ha h2, getD_inQ hb h3⟩, ⟨okA_ar hq, hin, mul_inQ hq _ _⟩, by omega, by omega, by omega, by omega, hG1 _ ⟨k + 1, rfl, by omega, rfl⟩ (by simp only; omega)⟩
  ·have h3 : k = b.length := by have := of_decide_eq_false h3; omega
   subst h3
   rw [wrap_i64 (x := (i : Int) + 1) (by omega) (by omega)]
   exact hG _ ⟨i + 1, rfl, by omega, rfl⟩ (by simp only; omega)
 ·have h2 : i = a.length := by have := of_decide_eq_false h2; omega
  subst h2
  have := (prws_ok hq (a := a) (b := b) a.length).1
  exact ⟨by omega, rfl⟩
theorem vc69 : ∀ x, C69.pre x → VC T69 H69 Try.f69 C69 x := by
 rintro ⟨⟨(q : Int), (p : Int), (k : Int), (m : Int), ⟨⟩⟩, (a : List Int), (b : List Int), ⟨⟩⟩ ⟨(h0 : Pl.okr _), (hab : Pl.okPr q a b)⟩
 obtain ⟨hq, _, _, _⟩ := okr_open h0
 obtain ⟨ha, hb, la, lb⟩ := hab
 refine cast (α := Br ((↑a.length : Int) == (0 : Int)) (([], ()) = C69.post ((q, p, k, m, ()), a, b, ())) (Br ((↑b.length : Int) == (0 : Int)) (([], ()) = C69.post ((q, p, k, m, ()), a, b, ())) ((0 : Int) ≤ IntKind.i64.wrap (IntKind.i64.wrap ((↑a.length : Int) + (↑b.length : Int)) - (1 : Int)) ∧ IntKind.i64.wrap (IntKind.i64.wrap ((↑a.length : Int) + (↑b.length : Int)) - (1 : Int)) = IntKind.i64.wrap (IntKind.i64.wrap ((↑a.length : Int) + (↑b.length : Int)) - (1 : Int)) ∧ IntKind.i64.wrap (IntKind.i64.wrap ((↑a.length : Int) + (↑b.length : Int)) - (1 : Int)) * (8 : Int) ≤ (140737488355328 : Int) ∧ ∃ (n : Nat), itl (fun (G : List Int × Int × PUnit → Prop) (x : List Int × Int × PUnit) => Br (decide (x.2.1 < (↑a.length : Int))) (∃ (n : Nat), itl (fun (G_1 : List Int × Int × PUnit → Prop) (x_1 : List Int × Int × PUnit) => Br (decide (x_1.2.1 < (↑b.length : Int))) ((0 : Int) ≤ IntKind.i64.wrap (x.2.1 + x_1.2.1) ∧ IntKind.i64.wrap (x.2.1 + x_1.2.1) < (↑(List.length x_1.1) : Int) ∧ (0 : Int) ≤ IntKind.i64.wrap (x.2.1 + x_1.2.1) ∧ IntKind.i64.wrap (x.2.1 + x_1.2.1) < (↑(List.length x_1.1) : Int) ∧ (0 : Int) ≤ x.2.1 ∧ x.2.1 < (↑a.length : Int) ∧ (0 : Int) ≤ x_1.2.1 ∧ x_1.2.1 < (↑b.length : Int) ∧ (Pl.okr (q, p, k, m, ()) ∧ Pl.inQ q (rd i64 a x.2.1) ∧ Pl.inQ q (rd i64 b x_1.2.1)) ∧ (Pl.okr (q, p, k, m, ()) ∧ Pl.inQ q (rd i64 x_1.1 (IntKind.i64.wrap (x.2.1 + x_1.2.1))) ∧ Pl.inQ q (Pl.mul q (rd i64 a x.2.1) (rd i64 b x_1.2.1))) ∧ (0 : Int) ≤ IntKind.i64.wrap (x.2.1 + x_1.2.1) ∧ IntKind.i64.wrap (x.2.1 + x_1.2.1) < (↑(List.length x_1.1) : Int) ∧ (0 : Int) ≤ IntKind.i64.wrap (x.2.1 + x_1.2.1) ∧ IntKind.i64.wrap (x.2.1 + x_1.2.1) < (↑(List.length x_1.1) : Int) ∧ G_1 (List.set x_1.1 (IntKind.i64.wrap (x.2.1 + x_1.2.1)).toNat (Pl.add q (rd i64 x_1.1 (IntKind.i64.wrap (x.2.1 + x_1.2.1))) (Pl.mul q (rd i64 a x.2.1) (rd i64 b x_1.2.1))), IntKind.i64.wrap (x_1.2.1 + (1 : Int)), ())) (G (x_1.1, IntKind.i64.wrap (x.2.1 + (1 : Int)), ()))) n (x.1, (0 : Int), ())) ((x.1, ()) = C69.post ((q, p, k, m, ()), a, b, ()))) n (List.replicate (IntKind.i64.wrap (IntKind.i64.wrap ((↑a.length : Int) + (↑b.length : Int)) - (1 : Int))).toNat (0 : Int), (0 : Int), ())))) (by kernel_rfl) ?_
 have hp : C69.post ((q, p, k, m, ()), a, b, ()) = (Pl.prod q a b, ()) := rfl
 rw [hp]
 refine Br_of (fun h => ?_) (fun h => Br_of (fun h1 => ?_) (fun h1 => ?_))
 ·have h : a.length = 0 := by have := eq_of_beq h; omega
  unfold Pl.prod; rw [decide_eq_true h]; rfl
 ·have h1 : b.length = 0 := by have := eq_of_beq h1; omega
  unfold Pl.prod; rw [decide_eq_true h1, Bool.or_true]; rfl
 have h : a.length ≠ 0 := fun e => by rw [e] at h; cases h
 have h1 : b.length ≠ 0 := fun e => by rw [e] at h1; cases h1
 have hprod : Pl.prod q a b = Pl.prws q a b a.length := by unfold Pl.prod; rw [decide_eq_false h, decide_eq_false h1]; rfl
 rw [hprod, wrap_i64 (x := (a.length : Int) + b.length) (by omega) (by omega), wrap_i64 (x := (a.length : Int) + b.length - 1) (by omega) (by omega)]
 refine ⟨by omega, rfl, by omega, itl_rule (fun s => ∃ i : Nat, s.2.1 = (i : Int) ∧ i ≤ a.length ∧ s.1 = Pl.prws q a b i) (fun s => ((a.length : Int) - s.2.1).toNat) ⟨0, rfl, Nat.zero_le _, by show List.replicate _ _ = List.replicate _ _; congr 1; omega⟩ ?_⟩
 rintro ⟨out, i0, ⟨⟩⟩ G ⟨i, e, hi, ho⟩ hG
 simp only at e ho hG ⊢
 subst e ho
 refine Br_of (fun h2 => ?_) (fun h2 => ?_)
 ·have h2 : i < a.length := by have := of_decide_eq_true h2; omega
  obtain ⟨r1, r2⟩ := prws_ok hq (a := a) (b := b) i
  refine itl_rule (fun s => ∃ k : Nat, s.2.1 = (k : Int) ∧ k ≤ b.length ∧ s.1 = Pl.prow q a b i k (Pl.prws q a b i)) (fun s => ((b.length : Int) - s.2.1).toNat) ⟨0, rfl, Nat.zero_le _, rfl⟩ ?_
  rintro ⟨out, k0, ⟨⟩⟩ G1 ⟨k, e, hk, ho⟩ hG1
  simp only at e ho hG1 ⊢
  subst e ho
  refine Br_of (fun h3 => ?_) (fun h3 => ?_)
  ·have h3 : k < b.length := by have := of_decide_eq_true h3; omega
   obtain ⟨s1, s2⟩ := prow_ok hq (a := a) (b := b) i k r2
   rw [wrap_i64 (x := (i : Int) + k) (by omega) (by omega), wrap_i64 (x := (k : Int) + 1) (by omega) (by omega), show (i : Int) + k = ((i + k : Nat) : Int) from rfl, rd_i, rd_i, rd_i, s1, r1, Int.toNat_natCast]
   have hin := getD_inQ s2 (j := i + k) (by rw [s1, r1]; omega)
   exact ⟨by omega, by omega, by omega, by omega, by omega, by omega, by omega, by omega, ⟨h0, getD_inQ ha h2, getD_inQ hb h3⟩, ⟨h0, hin, mul_inQ hq _ _⟩, by omega, by omega, by omega, by omega, hG1 _ ⟨k + 1, rfl, by omega, rfl⟩ (by simp only; omega)⟩
  ·have h3 : k = b.length := by have := of_decide_eq_false h3; omega
   subst h3
   rw [wrap_i64 (x := (i : Int) + 1) (by omega) (by omega)]
   exact hG _ ⟨i + 1, rfl, by omega, rfl⟩ (by simp only; omega)
 ·have h2 : i = a.length := by have := of_decide_eq_false h2; omega
  subst h2
  rfl
end Fd
end
section
set_option linter.unusedVariables false
set_option linter.unusedSimpArgs false
set_option linter.unusedSectionVars false
set_option maxRecDepth 100000
namespace Fd
open Go Fw Go.Proofs

section
variable {q : Int} (hq : isQ q)
include hq
theorem getD_set (l : List Int) (i j : Nat) (x : Int) : (l.set i x).getD j 0 = if i = j ∧ i < l.length then x else l.getD j 0 := by
 rw [List.getD_eq_getElem?_getD, List.getElem?_set]
 by_cases e : i = j
 ·subst e
  by_cases h : i < l.length
  ·rw [if_pos rfl, if_pos h, if_pos ⟨rfl, h⟩]; rfl
  ·rw [if_pos rfl, if_neg h, if_neg (fun hh => h hh.2), List.getD_eq_getElem?_getD, List.getElem?_eq_none (by omega)]
 ·rw [if_neg e, if_neg (fun hh => e hh.1), List.getD_eq_getElem?_getD]
theorem prow_far {a b : List Int} (i : Nat) : ∀ (k : Nat) (out : List Int) (j : Nat), i + k ≤ j → (Pl.prow q a b i k out).getD j 0 = out.getD j 0
 | 0, _, _, _ => rfl
 | k + 1, out, j, h => by
  rw [Pl.prow, Pl.pst, getD_set hq, if_neg (by omega), prow_far i k out j (by omega)]
theorem prws_far {a b : List Int} (hb : 0 < b.length) : ∀ (i j : Nat), i + b.length - 1 ≤ j → (Pl.prws q a b i).getD j 0 = 0
 | 0, j, _ => by
  rw [Pl.prws, List.getD_eq_getElem?_getD, List.getElem?_replicate]
  split <;> rfl
 | i + 1, j, h => by rw [Pl.prws, prow_far hq i b.length _ j (by omega), prws_far hb i j (by omega)]
end
theorem nrc107 : NRC C107 := ⟨fun x hx => ⟨okF_nr hx.1, rfl, rfl, trivial⟩, fun x hx => ⟨rfl, trivial⟩⟩
theorem snd143 : Sound Try.prog 143 C143 := fn_sound (T := TT []) (fn := Try.f143) (tok0 trivial) Try.func143 (by kernel_rfl) H143 vc143 (by kernel_rfl)
theorem snd50 : Sound Try.prog 50 C50 := fn_sound (T := TT []) (fn := Try.f50) (tok0 trivial) Try.func50 (by kernel_rfl) H50 vc50 (by kernel_rfl)
theorem snd107 : Sound Try.prog 107 C107 := fn_sound (T := T107) (fn := Try.f107) (tokF ⟨snd143, trivial⟩) Try.func107 (by kernel_rfl) H107 vc107 (by kernel_rfl) (hC := nrc107)
theorem snd69 : Sound Try.prog 69 C69 := fn_sound (T := T69) (fn := Try.f69) (tok0 ⟨snd31, snd35, trivial⟩) Try.func69 (by kernel_rfl) H69 vc69 (by kernel_rfl)
end Fd
end
section
set_option linter.unusedVariables false
set_option linter.unusedSimpArgs false
set_option maxRecDepth 100000
namespace Fd
open Go Fw Go.Proofs

end Fd
end
section
set_option linter.unusedVariables false
set_option linter.unusedSimpArgs false
set_option maxRecDepth 100000
namespace Fd
open Go Fw Go.Proofs

end Fd
end
section
set_option linter.unusedVariables false
set_option linter.unusedSimpArgs false
set_option maxRecDepth 100000
namespace Fd
open Go Fw Go.Proofs

def Pl.chk (q : Int) (p : List Int) : Int := bif decide (p.length > 200) then 2 else bif (!Pl.els q p) || (decide (p.length > 0) && decide (p.getD (p.length - 1) 0 = 0)) then 1 else 0
def Pl.both (q : Int) (p r : List Int) : Int := bif decide (Pl.chk q p ≠ 0) then Pl.chk q p else Pl.chk q r
abbrev DL := D × List Int × Unit
abbrev DLL := D × List Int × List Int × Unit
def Pl.len9 (l : List Int) : Prop := l.length ≤ 1000000000
def C77 : Con := ⟨[.raw, L], [I], fun (x : DL) => Pl.okF x.1 ∧ Pl.len9 x.2.1, fun (x : DL) => (Pl.chk (Pl.qF x.1) x.2.1, ()), none⟩
def C114 : Con := ⟨[.raw, L, L], [I], fun (x : DLL) => Pl.okF x.1 ∧ Pl.len9 x.2.1 ∧ Pl.len9 x.2.2.1, fun (x : DLL) => (Pl.both (Pl.qF x.1) x.2.1 x.2.2.1, ()), none⟩
def T77 : Ctx := TT [(93, C93)]
def T114 : Ctx := TT [(77, C77)]
end Fd
end
section
set_option linter.unusedVariables false
set_option linter.unusedSimpArgs false
set_option maxRecDepth 100000
namespace Fd
open Go Fw Go.Proofs

theorem chk_long {q : Int} {p : List Int} (h : p.length > 200) : Pl.chk q p = 2 := by unfold Pl.chk; rw [decide_eq_true h]; rfl
theorem chk_els {q : Int} {p : List Int} (h : ¬ p.length > 200) (h1 : Pl.els q p = false) : Pl.chk q p = 1 := by unfold Pl.chk; rw [decide_eq_false h, h1]; rfl
theorem chk_top {q : Int} {p : List Int} (h : ¬ p.length > 200) (h0 : 0 < p.length) (h1 : p.getD (p.length - 1) 0 = 0) : Pl.chk q p = 1 := by
 unfold Pl.chk; rw [decide_eq_false h, decide_eq_true (show p.length > 0 from h0), decide_eq_true h1, Bool.and_true, Bool.or_true]; rfl
theorem chk_ok {q : Int} {p : List Int} (h : ¬ p.length > 200) (h1 : Pl.els q p = true) (h2 : 0 < p.length → p.getD (p.length - 1) 0 ≠ 0) : Pl.chk q p = 0 := by
 unfold Pl.chk
 rw [decide_eq_false h, h1]
 by_cases h0 : 0 < p.length
 ·rw [decide_eq_false (h2 h0), Bool.and_false]; rfl
 ·rw [decide_eq_false h0]; rfl
theorem nrcL {p : DL → Prop} {res : List Ar} {f : DL → Ars res} (h : ∀ x, p x → Pl.okF x.1) (hr : ∀ x, p x → D.nrs (encs res (f x))) : NRC ⟨[.raw, L], res, p, f, none⟩ := ⟨fun x hx => ⟨okF_nr (h x hx), rfl, trivial⟩, hr⟩
theorem nrcLL {p : DLL → Prop} {res : List Ar} {f : DLL → Ars res} (h : ∀ x, p x → Pl.okF x.1) (hr : ∀ x, p x → D.nrs (encs res (f x))) : NRC ⟨[.raw, L, L], res, p, f, none⟩ := ⟨fun x hx => ⟨okF_nr (h x hx), rfl, rfl, trivial⟩, hr⟩
theorem vc77 : ∀ x, C77.pre x → VC T77 H0 Try.f77 C77 x := by
 rintro ⟨v, (l : List Int), ⟨⟩⟩ ⟨⟨q, hq, (rfl : v = _)⟩, (hl : l.length ≤ 1000000000)⟩
 refine cast (α := Br (decide ((↑l.length : Int) > (200 : Int))) (((2 : Int), ()) = C77.post (fieldD q, l, ())) ((Pl.okF (D.rptr (fieldC q)) ∧ l.length ≤ (1000000000 : Nat)) ∧ Br (!Pl.els (Pl.qF (D.rptr (fieldC q))) l) (((1 : Int), ()) = C77.post (fieldD q, l, ())) (Br (decide ((↑l.length : Int) > (0 : Int))) ((0 : Int) ≤ IntKind.i64.wrap ((↑l.length : Int) - (1 : Int)) ∧ IntKind.i64.wrap ((↑l.length : Int) - (1 : Int)) < (↑l.length : Int) ∧ Br (rd i64 l (IntKind.i64.wrap ((↑l.length : Int) - (1 : Int))) == (0 : Int)) (((1 : Int), ()) = C77.post (fieldD q, l, ())) (((0 : Int), ()) = C77.post (fieldD q, l, ()))) (((0 : Int), ()) = C77.post (fieldD q, l, ()))))) (by kernel_rfl) ?_
 have hp : C77.post (fieldD q, l, ()) = (Pl.chk q l, ()) := rfl
 rw [hp, qF_f]
 refine Br_of (fun h => ?_) (fun h => ⟨⟨okF_f hq, hl⟩, Br_of (fun h1 => ?_) (fun h1 => Br_of (fun h2 => ?_) (fun h2 => ?_))⟩)
 ·rw [chk_long (by have := of_decide_eq_true h; omega)]
 all_goals have h : ¬ l.length > 200 := by have := of_decide_eq_false h; omega
 ·rw [chk_els h (by simpa using h1)]
 all_goals have h1 : Pl.els q l = true := by simpa using h1
 ·have h2 : 0 < l.length := by have := of_decide_eq_true h2; omega
  rw [wrap_i64 (by omega) (by omega), show (l.length : Int) - 1 = ((l.length - 1 : Nat) : Int) by omega, rd_i]
  refine ⟨by omega, by omega, Br_of (fun h3 => ?_) (fun h3 => ?_)⟩
  ·rw [chk_top h h2 (by simpa using h3)]
  ·rw [chk_ok h h1 (fun _ => by simpa using h3)]
 ·rw [chk_ok h h1 (fun h3 => absurd h3 (by have := of_decide_eq_false h2; omega))]
theorem snd77 : Sound Try.prog 77 C77 := fn_sound (T := T77) (fn := Try.f77) (tok0 ⟨snd93, trivial⟩) Try.func77 (by kernel_rfl) H0 vc77 (by kernel_rfl) (hC := nrcL (fun x h => h.1) fun x h => ⟨trivial, trivial⟩)
theorem vc114 : ∀ x, C114.pre x → VC T114 H0 Try.f114 C114 x := by
 rintro ⟨v, (l : List Int), (r : List Int), ⟨⟩⟩ ⟨⟨q, hq, (rfl : v = _)⟩, (hl : Pl.len9 l), (hr : Pl.len9 r)⟩
 refine cast (α := (Pl.okF (D.rptr (fieldC q)) ∧ Pl.len9 l) ∧ Br (Pl.chk (Pl.qF (D.rptr (fieldC q))) l != (0 : Int)) ((Pl.chk (Pl.qF (D.rptr (fieldC q))) l, ()) = C114.post (fieldD q, l, r, ())) ((Pl.okF (D.rptr (fieldC q)) ∧ Pl.len9 r) ∧ (Pl.chk (Pl.qF (D.rptr (fieldC q))) r, ()) = C114.post (fieldD q, l, r, ()))) (by kernel_rfl) ?_
 have hp : C114.post (fieldD q, l, r, ()) = (Pl.both q l r, ()) := rfl
 rw [hp, qF_f]
 refine ⟨⟨okF_f hq, hl⟩, Br_of (fun h => ?_) (fun h => ⟨⟨okF_f hq, hr⟩, ?_⟩)⟩
 ·have h : Pl.chk q l ≠ 0 := by simpa using h
  unfold Pl.both; rw [decide_eq_true h]; rfl
 ·have h : Pl.chk q l = 0 := by simpa using h
  unfold Pl.both; rw [decide_eq_false (not_not_intro h)]; rfl
theorem snd114 : Sound Try.prog 114 C114 := fn_sound (T := T114) (fn := Try.f114) (tok0 ⟨snd77, trivial⟩) Try.func114 (by kernel_rfl) H0 vc114 (by kernel_rfl) (hC := nrcLL (fun x h => h.1) fun x h => ⟨trivial, trivial⟩)
end Fd
end
section
set_option linter.unusedVariables false
set_option linter.unusedSectionVars false
namespace La
open Lean.Grind
section
variable {K : Type} [Field K] [DecidableEq K]

end
end La
end
section
set_option linter.unusedVariables false
set_option linter.unusedSimpArgs false
set_option linter.unusedSectionVars false
namespace Fd
open Lean.Grind

structure KQ {q : Int} (hq : isQ q) where
 v : Int
 ok : Pl.inQ q v
section
variable {q : Int} {hq : isQ q}
theorem KQ.ext {a b : KQ hq} (h : a.1 = b.1) : a = b := by
 obtain ⟨a, ha⟩ := a
 obtain ⟨b, hb⟩ := b
 cases h; rfl
instance : DecidableEq (KQ hq) := fun a b => decidable_of_iff (a.1 = b.1) ⟨KQ.ext, fun e => by rw [e]⟩
theorem KQ.isIn (a : KQ hq) : (fld q).In a.1 := (in_iff hq _).2 a.2
def KQ.zero (hq : isQ q) : KQ hq := ⟨0, zero_inQ hq⟩
def KQ.one (hq : isQ q) : KQ hq := ⟨1, one_inQ hq⟩
def KQ.add (a b : KQ hq) : KQ hq := ⟨Pl.add q a.1 b.1, add_inQ hq _ _⟩
def KQ.mul (a b : KQ hq) : KQ hq := ⟨Pl.mul q a.1 b.1, mul_inQ hq _ _⟩
def KQ.neg (a : KQ hq) : KQ hq := ⟨(fld q).neg a.1, (in_iff hq _).1 (Fm.Fld.neg_in (fld_ok hq) _)⟩
def KQ.sub (a b : KQ hq) : KQ hq := ⟨Pl.sub q a.1 b.1, sub_inQ hq _ _⟩
def KQ.nat (hq : isQ q) : Nat → KQ hq
 | 0 => KQ.zero hq
 | 1 => KQ.one hq
 | n + 2 => KQ.add (KQ.nat hq (n + 1)) (KQ.one hq)
def KQ.nsm : Nat → KQ hq → KQ hq := fun n a => KQ.mul (KQ.nat hq n) a
def KQ.pow (a : KQ hq) : Nat → KQ hq
 | 0 => KQ.one hq
 | n + 1 => KQ.mul (KQ.pow a n) a
def KQ.int (hq : isQ q) : Int → KQ hq
 | .ofNat n => KQ.nat hq n
 | .negSucc n => KQ.neg (KQ.nat hq (n + 1))
def KQ.zsm : Int → KQ hq → KQ hq
 | .ofNat n, a => KQ.nsm n a
 | .negSucc n, a => KQ.neg (KQ.nsm (n + 1) a)
def KQ.inv (a : KQ hq) : KQ hq := ⟨Pl.inv q a.1, inv_inQ hq _⟩
theorem KQ.neg_zero : KQ.neg (KQ.zero hq) = KQ.zero hq := by
 have ok := fld_ok hq
 apply KQ.ext
 show (fld q).neg 0 = 0
 have h := Fm.Fld.add_neg ok 0
 rwa [Fm.Fld.zero_add ok (Fm.Fld.neg_in ok 0)] at h
theorem KQ.add_cancel {a b : KQ hq} (h : KQ.add a b = KQ.zero hq) : KQ.neg a = b := by
 have ok := fld_ok hq
 have h : (fld q).add a.1 b.1 = 0 := congrArg KQ.v h
 apply KQ.ext
 show (fld q).neg a.1 = b.1
 have e : (fld q).add ((fld q).neg a.1) ((fld q).add a.1 b.1) = b.1 := by
  rw [← Fm.Fld.add_assoc ok, Fm.Fld.add_comm ok ((fld q).neg a.1), Fm.Fld.add_neg ok, Fm.Fld.zero_add ok b.isIn]
 rw [h, Fm.Fld.add_zero ok (Fm.Fld.neg_in ok _)] at e
 exact e
theorem KQ.neg_add' (a : KQ hq) : KQ.add (KQ.neg a) a = KQ.zero hq := KQ.ext (by
 show (fld q).add ((fld q).neg a.1) a.1 = 0
 rw [Fm.Fld.add_comm (fld_ok hq), Fm.Fld.add_neg (fld_ok hq)])
theorem KQ.neg_neg (a : KQ hq) : KQ.neg (KQ.neg a) = a := KQ.add_cancel (KQ.neg_add' a)
theorem KQ.mul_inv {a : KQ hq} (h : a ≠ KQ.zero hq) : KQ.mul a (KQ.inv a) = KQ.one hq := by
 have ok := fld_ok hq
 have q2 := hq.1
 have h0 : a.1 ≠ 0 := fun e => h (KQ.ext e)
 apply KQ.ext
 show (fld q).mul a.1 ((fld q).pow a.1 (q - 2).toNat) = 1
 rw [Fm.Fld.mul_comm ok]
 show (fld q).pow a.1 ((q - 2).toNat + 1) = 1
 rw [show (q - 2).toNat + 1 = q.toNat - 1 by omega, fermat hq a.2.1 a.2.2 h0]
theorem KQ.one_inv : KQ.inv (KQ.one hq) = KQ.one hq := by
 have ok := fld_ok hq
 apply KQ.ext
 show (fld q).pow 1 (q - 2).toNat = 1
 exact Fm.Fld.one_pow ok _
end
def KQ.inv0 {q : Int} {hq : isQ q} (a : KQ hq) : KQ hq := if a = KQ.zero hq then KQ.zero hq else KQ.inv a
instance {q : Int} {hq : isQ q} : Field (KQ hq) :=
  let _ : Add (KQ hq) := ⟨KQ.add⟩
  let _ : Mul (KQ hq) := ⟨KQ.mul⟩
  let _ : NatCast (KQ hq) := ⟨KQ.nat hq⟩
  let _ : (n : Nat) → OfNat (KQ hq) n := fun n => ⟨KQ.nat hq n⟩
  let _ : SMul Nat (KQ hq) := ⟨KQ.nsm⟩
  let _ : HPow (KQ hq) Nat (KQ hq) := ⟨KQ.pow⟩
  let _ : Neg (KQ hq) := ⟨KQ.neg⟩
  let _ : Sub (KQ hq) := ⟨KQ.sub⟩
  let _ : IntCast (KQ hq) := ⟨KQ.int hq⟩
  let _ : SMul Int (KQ hq) := ⟨KQ.zsm⟩
  let _ : Inv (KQ hq) := ⟨KQ.inv0⟩
  let _ : Div (KQ hq) := ⟨fun a b => KQ.mul a (KQ.inv0 b)⟩
  let _ : HPow (KQ hq) Int (KQ hq) := ⟨fun a n => match n with
    | .ofNat n => KQ.pow a n
    | .negSucc n => KQ.inv0 (KQ.pow a (n + 1))⟩
  have ok := fld_ok hq
  have z1 : KQ.zero hq ≠ KQ.one hq := fun e => absurd (congrArg KQ.v e) (by show (0 : Int) ≠ 1; omega)
  have i0 : KQ.inv0 (KQ.zero hq) = KQ.zero hq := if_pos rfl
  have i1 : KQ.inv0 (KQ.one hq) = KQ.one hq := by unfold KQ.inv0; rw [if_neg (fun e => z1 e.symm)]; exact KQ.one_inv
  have mi : ∀ {a : KQ hq}, a ≠ KQ.zero hq → KQ.mul a (KQ.inv0 a) = KQ.one hq := fun {a} h => by unfold KQ.inv0; rw [if_neg h]; exact KQ.mul_inv h
  have mc : ∀ a b : KQ hq, KQ.mul a b = KQ.mul b a := fun a b => KQ.ext (Fm.Fld.mul_comm ok _ _)
  have ma : ∀ a b c : KQ hq, KQ.mul (KQ.mul a b) c = KQ.mul a (KQ.mul b c) := fun a b c => KQ.ext (Fm.Fld.mul_assoc ok _ _ _)
  have m1 : ∀ a : KQ hq, KQ.mul a (KQ.one hq) = a := fun a => KQ.ext (Fm.Fld.mul_one ok a.isIn)
  have m0 : ∀ a : KQ hq, KQ.mul a (KQ.zero hq) = KQ.zero hq := fun a => KQ.ext (Fm.Fld.mul_zero ok _)
  -- the inverse of an inverse
  have ii : ∀ a : KQ hq, KQ.inv0 (KQ.inv0 a) = a := fun a => by
    by_cases h : a = KQ.zero hq
    · subst h; rw [i0, i0]
    · have hi : KQ.inv0 a ≠ KQ.zero hq := fun e => by
        have := mi h
        rw [e, m0] at this
        exact z1 this
      have h1 := mi hi
      have h2 := mi h
      calc KQ.inv0 (KQ.inv0 a) = KQ.mul (KQ.inv0 (KQ.inv0 a)) (KQ.mul a (KQ.inv0 a)) := by rw [h2, m1]
        _ = KQ.mul (KQ.mul (KQ.inv0 a) (KQ.inv0 (KQ.inv0 a))) a := by rw [mc a, ← ma, mc (KQ.inv0 (KQ.inv0 a))]
        _ = a := by rw [h1, mc, m1]
  let sr : Semiring (KQ hq) :=
    { add_zero := fun a => KQ.ext (Fm.Fld.add_zero ok a.isIn)
      add_comm := fun a b => KQ.ext (Fm.Fld.add_comm ok _ _)
      add_assoc := fun a b c => KQ.ext (Fm.Fld.add_assoc ok _ _ _)
      mul_assoc := ma
      mul_one := m1
      one_mul := fun a => KQ.ext (Fm.Fld.one_mul ok a.isIn)
      left_distrib := fun a b c => KQ.ext (Fm.Fld.mul_add ok _ _ _)
      right_distrib := fun a b c => KQ.ext (Fm.Fld.add_mul ok _ _ _)
      zero_mul := fun a => KQ.ext (Fm.Fld.zero_mul ok _)
      mul_zero := m0
      pow_zero := fun a => rfl
      pow_succ := fun a n => rfl
      ofNat_succ := fun n => match n with
        | 0 => KQ.ext (Fm.Fld.zero_add ok (Fm.Fld.in1 ok)).symm
        | n + 1 => rfl
      ofNat_eq_natCast := fun n => rfl
      nsmul_eq_natCast_mul := fun n a => rfl }
  let rg : Ring (KQ hq) :=
    { sr with
      neg_add_cancel := KQ.neg_add'
      sub_eq_add_neg := fun a b => KQ.ext (Fm.Fld.sub_eq ok _ _)
      neg_zsmul := fun i a => match i with
        | .ofNat 0 => by
          show KQ.mul (KQ.zero hq) a = KQ.neg (KQ.mul (KQ.zero hq) a)
          rw [mc, m0, KQ.neg_zero]
        | .ofNat (n + 1) => rfl
        | .negSucc n => (KQ.neg_neg _).symm
      zsmul_natCast_eq_nsmul := fun n a => rfl
      intCast_ofNat := fun n => rfl
      intCast_neg := fun i => match i with
        | .ofNat 0 => KQ.neg_zero.symm
        | .ofNat (n + 1) => rfl
        | .negSucc n => (KQ.neg_neg _).symm }
  let cr : CommRing (KQ hq) := { rg with mul_comm := mc }
  { cr with
    div_eq_mul_inv := fun a b => rfl
    zero_ne_one := z1
    inv_zero := i0
    mul_inv_cancel := fun h => mi h
    zpow_zero := fun a => rfl
    zpow_succ := fun a n => rfl
    zpow_neg := fun a n => match n with
      | .ofNat 0 => i1.symm
      | .ofNat (n + 1) => rfl
      | .negSucc n => (ii _).symm }
section
variable {q : Int} {hq : isQ q}
theorem KQ.sub_val (a b : KQ hq) : (a - b).1 = Pl.sub q a.1 b.1 := rfl
theorem KQ.mul_val (a b : KQ hq) : (a * b).1 = Pl.mul q a.1 b.1 := rfl
theorem KQ.zero_iff {a : KQ hq} : a = 0 ↔ a.1 = 0 := ⟨fun e => by rw [e]; rfl, fun e => KQ.ext e⟩
theorem KQ.inv_val {a : KQ hq} (h : a ≠ 0) : (a⁻¹).1 = Pl.inv q a.1 := by
 have e : KQ.inv0 a = KQ.inv a := if_neg h
 exact congrArg KQ.v e
end
end Fd
end
section
set_option linter.unusedVariables false
set_option linter.unusedSimpArgs false
set_option linter.unusedSectionVars false
set_option maxRecDepth 100000
namespace Fd
open Go Fw Go.Proofs

theorem cv_meth {P : Program} {C : Con} (h : ∀ x, C.pre x → ∃ (name : String) (rd : D) (ds : List D) (V : Con) (y : Ars V.args), SoundInv P name V ∧ encs C.args x = .bfn (.method name) [rd] :: ds ∧ encs V.args y = rd :: ds ∧ V.pre y ∧ C.fresh = none ∧
  encs V.res (V.post y) = encs C.res (C.post x)) : SoundCv P C := by
 refine ⟨⟨fun x hx => ?_, fun x hx => ?_⟩, ?_⟩
 ·obtain ⟨name, rd, ds, V, y, hS, e1, e2, hy, hfr, e3⟩ := h x hx
  have hn := hS.1.a y hy
  rw [e2] at hn
  rw [e1]
  exact ⟨by simpa [D.nr, D.nrs] using hn.1, hn.2⟩
 ·obtain ⟨name, rd, ds, V, y, hS, e1, e2, hy, hfr, e3⟩ := h x hx
  rw [← e3]
  exact hS.1.r y hy
 intro x hx w O r vs hO hl
 obtain ⟨name, rd, ds, V, y, hS, e1, e2, hy, hfr, e3⟩ := h x hx
 have post : ∀ e w', CPost V y w ⟨O, nn⟩ e w' → CPost C x w ⟨O, nn⟩ e w' := by
  rintro e w' ⟨v, he, hb, hv, _⟩
  refine ⟨v, he, hb, fun ι => ?_, fun e he => by rw [hfr] at he; cases he⟩
  rw [← e3]
  exact hv ι
 rw [e1] at hl
 obtain ⟨u, us, e4, hu, hus⟩ := hl
 injection e4 with e4 e5
 subst e4 e5
 obtain ⟨cs, hcs1, hcs2⟩ := hu
 subst hcs1
 obtain ⟨rv, rs, e6, hr, hrs⟩ := hcs2
 cases hrs
 obtain rfl : cs = #[rv] := by cases cs; simp_all
 have hrun0 : (do let d ← Deferred.ofValue (.func (.method name) #[rv] #[]) vs.toArray; invoke d.target d.args : Sem Next).run P w = (callMethod rv name vs.toArray).run P w := by
  simp [Deferred.ofValue, invoke]
 rcases hS.2 y hy w O rv vs hO (by rw [e2]; exact ⟨rv, vs, rfl, hr, hus⟩) with ⟨f, args', hrun, hc⟩ | ⟨v, w', hrun, hp⟩
 ·exact .inl ⟨f, args', hrun0.trans hrun, hc.mono post⟩
 ·exact .inr ⟨v, w', hrun0.trans hrun, post _ _ hp⟩
def sumV (q : Int) : D := .bfn (.method "dauber/field.sum") [arD q]
def mulV (q : Int) : D := .bfn (.method "dauber/field.product") [arD q]
def Pl.opV (v : D) (a b : Int) : Int := match v with
 | .bfn (.method n) [d] => bif n == "dauber/field.sum" then Pl.add (Pl.qA d) a b else Pl.mul (Pl.qA d) a b
 | _ => 0
def Cop : Con := ⟨[.raw, I, I], [I], fun (x : D × Int × Int × Unit) => ∃ q, isQ q ∧ (x.1 = sumV q ∨ x.1 = mulV q) ∧ Pl.inQ q x.2.1 ∧ Pl.inQ q x.2.2.1, fun (x : D × Int × Int × Unit) => (Pl.opV x.1 x.2.1 x.2.2.1, ()), none⟩
def Pl.val (q : Int) : List Int → Int → Int
 | [], _ => 0
 | a :: l, x => Pl.add q (Pl.mul q (Pl.val q l x) x) a
abbrev A144 := List Int × Int × Int × D × D × Unit
def Pl.qV (v : D) : Int := match v with
 | .bfn _ [d] => Pl.qA d
 | _ => 0
def Pl.okV (x : A144) : Prop := ∃ q, isQ q ∧ x.2.2.2.1 = sumV q ∧ x.2.2.2.2.1 = mulV q ∧ (∀ y ∈ x.1, Pl.inQ q y) ∧ Pl.len9 x.1 ∧ Pl.inQ q x.2.1 ∧ x.2.2.1 = 0
def C144 : Con := ⟨[L, I, I, .raw, .raw], [I], fun (x : A144) => Pl.okV x, fun (x : A144) => (Pl.val (Pl.qV x.2.2.2.1) x.1 x.2.1, ()), none⟩
def H144 : Hints := lo [(0, ⟨[0, 1, 3, 4], [(11, si), (12, si)]⟩)]
def T144 : Ctx := TC [] Cop
def Pl.okPx (q : Int) (p : List Int) (x : Int) : Prop := (∀ y ∈ p, Pl.inQ q y) ∧ Pl.len9 p ∧ Pl.inQ q x
def C113 : Con := ⟨[.raw, L, I], [I], fun (x : D × List Int × Int × Unit) => Pl.okF x.1 ∧ Pl.okPx (Pl.qF x.1) x.2.1 x.2.2.1, fun (x : D × List Int × Int × Unit) => (Pl.val (Pl.qF x.1) x.2.1 x.2.2.1, ()), none⟩
def T113 : Ctx := TT [(144, C144)]
def C68 : Con := ⟨[G4, L, I], [I], fun (x : R4 × List Int × Int × Unit) => Pl.okr x.1 ∧ Pl.okPx x.1.1 x.2.1 x.2.2.1, fun (x : R4 × List Int × Int × Unit) => (Pl.val x.1.1 x.2.1 x.2.2.1, ()), none⟩
def H68 : Hints := ⟨[], [(1, [3])], [(0, ⟨[1, 2, 3], [(7, si), (8, si)]⟩)], [], []⟩
def T68 : Ctx := TT [(31, C31), (35, C35)]
def Pl.vale (q : Int) (p : List Int) (x : Int) : Int × Int := bif decide (Pl.chk q p ≠ 0) then (0, Pl.chk q p) else (Pl.val q p (x % q), 0)
def C65 : Con := ⟨[.raw, L, I], [I, I], fun (x : D × List Int × Int × Unit) => Pl.okF x.1 ∧ Pl.len9 x.2.1, fun (x : D × List Int × Int × Unit) => ((Pl.vale (Pl.qF x.1) x.2.1 x.2.2.1).1, (Pl.vale (Pl.qF x.1) x.2.1 x.2.2.1).2, ()), none⟩
def T65 : Ctx := TT [(77, C77), (95, C95), (113, C113)]
end Fd
end
section
set_option linter.unusedVariables false
set_option linter.unusedSimpArgs false
set_option linter.unusedSectionVars false
set_option maxRecDepth 100000
namespace Fd
open Go Fw Go.Proofs

theorem opV_sum {q : Int} (hq : isQ q) (a b : Int) : Pl.opV (sumV q) a b = Pl.add q a b := by
 show (bif ("dauber/field.sum" : String) == "dauber/field.sum" then Pl.add (Pl.qA (arD q)) a b else Pl.mul (Pl.qA (arD q)) a b) = _
 rw [qA_ar hq]; rfl
theorem opV_mul {q : Int} (hq : isQ q) (a b : Int) : Pl.opV (mulV q) a b = Pl.mul q a b := by
 show (bif ("dauber/field.product" : String) == "dauber/field.sum" then Pl.add (Pl.qA (arD q)) a b else Pl.mul (Pl.qA (arD q)) a b) = _
 rw [qA_ar hq, show (("dauber/field.product" : String) == "dauber/field.sum") = false by decide]; rfl
theorem qV_sum {q : Int} (hq : isQ q) : Pl.qV (sumV q) = q := qA_ar hq
theorem sndCop : SoundCv Try.prog Cop := cv_meth (by
 rintro ⟨v, (a : Int), (b : Int), ⟨⟩⟩ ⟨q, hq, hv, (ha : Pl.inQ q a), (hb : Pl.inQ q b)⟩
 rcases hv with rfl | rfl
 ·refine ⟨_, arD q, _, VS, (arD q, a, b, ()), sndVS, rfl, rfl, ⟨okA_ar hq, by show Pl.inQ (Pl.qA (arD q)) a; rw [qA_ar hq]; exact ha, by show Pl.inQ (Pl.qA (arD q)) b; rw [qA_ar hq]; exact hb⟩, rfl, ?_⟩
  show encs [I] (Pl.add (Pl.qA (arD q)) a b, ()) = encs [I] (Pl.opV (sumV q) a b, ())
  rw [opV_sum hq, qA_ar hq]
 ·refine ⟨_, arD q, _, VP, (arD q, a, b, ()), sndVP, rfl, rfl, ⟨⟨q, hq, .inl rfl⟩, by show Pl.inQ (Pl.qA (arD q)) a; rw [qA_ar hq]; exact ha, by show Pl.inQ (Pl.qA (arD q)) b; rw [qA_ar hq]; exact hb⟩, rfl, ?_⟩
  show encs [I] (Pl.mul (Pl.qA (arD q)) a b, ()) = encs [I] (Pl.opV (mulV q) a b, ())
  rw [opV_mul hq, qA_ar hq])
theorem val_in {q : Int} (hq : isQ q) : ∀ (l : List Int) (x : Int), Pl.inQ q (Pl.val q l x)
 | [], _ => zero_inQ hq
 | a :: l, x => add_inQ hq _ _
theorem vc144 : ∀ x, C144.pre x → VC T144 H144 Try.f144 C144 x := by
 rintro ⟨(l : List Int), (x : Int), (z : Int), v, u, ⟨⟩⟩ ⟨q, hq, (rfl : v = _), (rfl : u = _), (hl : ∀ y ∈ l, Pl.inQ q y), (hn : l.length ≤ 1000000000), (hx : Pl.inQ q x), (rfl : z = 0)⟩
 refine cast (α := ∃ (n : Nat), itl (fun (G : Int × Int × PUnit → Prop) (x_1 : Int × Int × PUnit) => Br (decide (x_1.2.1 ≥ (0 : Int))) ((∃ (q_1 : Int), ((2 : Int) ≤ q_1 ∧ q_1 ≤ (65536 : Int) ∧ (1 : Int) ≤ Pl.K q_1) ∧ (D.bfn (Fn.method "dauber/field.product") [arD q] = sumV q_1 ∨ D.bfn (Fn.method "dauber/field.product") [arD q] = mulV q_1) ∧ Pl.inQ q_1 x_1.1 ∧ Pl.inQ q_1 x) ∧ (0 : Int) ≤ x_1.2.1 ∧ x_1.2.1 < (↑l.length : Int) ∧ (∃ (q_1 : Int), ((2 : Int) ≤ q_1 ∧ q_1 ≤ (65536 : Int) ∧ (1 : Int) ≤ Pl.K q_1) ∧ (D.bfn (Fn.method "dauber/field.sum") [arD q] = sumV q_1 ∨ D.bfn (Fn.method "dauber/field.sum") [arD q] = mulV q_1) ∧ Pl.inQ q_1 (Pl.opV (D.bfn (Fn.method "dauber/field.product") [arD q]) x_1.1 x) ∧ Pl.inQ q_1 (rd i64 l x_1.2.1)) ∧ G (Pl.opV (D.bfn (Fn.method "dauber/field.sum") [arD q]) (Pl.opV (D.bfn (Fn.method "dauber/field.product") [arD q]) x_1.1 x) (rd i64 l x_1.2.1), IntKind.i64.wrap (x_1.2.1 - (1 : Int)), ())) ((x_1.1, ()) = C144.post (l, x, (0 : I.El), sumV q, mulV q, ()))) n ((0 : I.El), IntKind.i64.wrap ((↑l.length : Int) - (1 : Int)), ())) (by kernel_rfl) ?_
 have hp : C144.post (l, x, (0 : Int), sumV q, mulV q, ()) = (Pl.val q l x, ()) := by
  show (Pl.val (Pl.qV (sumV q)) l x, ()) = _
  rw [qV_sum hq]
 rw [hp]
 rw [wrap_i64 (by omega) (by omega)]
 refine itl_rule (fun s => ∃ i : Nat, s.2.1 = (i : Int) - 1 ∧ i ≤ l.length ∧ s.1 = Pl.val q (l.drop i) x) (fun s => (s.2.1 + 1).toNat) ⟨l.length, rfl, Nat.le_refl _, by rw [List.drop_length]; rfl⟩ ?_
 rintro ⟨o, i0, ⟨⟩⟩ G ⟨i, e, hi, ho⟩ hG
 simp only at e ho hG ⊢
 subst e ho
 refine Br_of (fun h => ?_) (fun h => ?_)
 ·obtain ⟨i, rfl⟩ : ∃ j, i = j + 1 := ⟨i - 1, by have := of_decide_eq_true h; omega⟩
  rw [show ((i + 1 : Nat) : Int) - 1 = (i : Int) by omega] at hG ⊢
  rw [rd_i, wrap_i64 (by omega) (by omega)]
  have hd := drop_cons 0 (show i < l.length by omega)
  have hv := val_in hq (l.drop (i + 1)) x
  have e1 : Pl.opV (D.bfn (Fn.method "dauber/field.product") [arD q]) (Pl.val q (l.drop (i + 1)) x) x = Pl.mul q (Pl.val q (l.drop (i + 1)) x) x := opV_mul hq _ _
  rw [e1]
  have e2 : ∀ a b, Pl.opV (D.bfn (Fn.method "dauber/field.sum") [arD q]) a b = Pl.add q a b := opV_sum hq
  rw [e2]
  exact ⟨⟨q, hq, .inr rfl, hv, hx⟩, by omega, by omega, ⟨q, hq, .inl rfl, mul_inQ hq _ _, getD_inQ hl (by omega)⟩, hG _ ⟨i, rfl, by omega, by rw [hd]; rfl⟩ (by simp only; omega)⟩
 ·have h : i = 0 := by have := of_decide_eq_false h; omega
  subst h
  rfl
theorem snd144 : Sound Try.prog 144 C144 := fn_sound (T := T144) (fn := Try.f144) (tokg (T := T144) trivial trivial trivial noInv (fun C e => by injection e with e; subst e; exact sndCop)) Try.func144 (by kernel_rfl) H144 vc144 (by kernel_rfl)
 (hC := ⟨fun x hx => by
  obtain ⟨q, hq, h1, h2, _⟩ := hx
  refine ⟨rfl, trivial, trivial, ?_, ?_, trivial⟩
  ·show x.2.2.2.1.nr; rw [h1]; exact (⟨okA_nr (okA_ar hq), trivial⟩ : D.nrs [arD q])
  ·show x.2.2.2.2.1.nr; rw [h2]; exact (⟨okA_nr (okA_ar hq), trivial⟩ : D.nrs [arD q]), fun x hx => ⟨trivial, trivial⟩⟩)
theorem vc113 : ∀ x, C113.pre x → VC T113 H0 Try.f113 C113 x := by
 rintro ⟨v, (l : List Int), (x : Int), ⟨⟩⟩ ⟨⟨q, hq, (rfl : v = _)⟩, hP⟩
 have hP : Pl.okPx (Pl.qF (fieldD q)) l x := hP
 rw [qF_d] at hP
 refine cast (α := Pl.okV (l, x, (0 : Int), D.bfn (Fn.method "dauber/field.sum") [arD q], D.bfn (Fn.method "dauber/field.product") [arD q], ()) ∧ (Pl.val (Pl.qV (D.bfn (Fn.method "dauber/field.sum") [arD q])) l x, ()) = C113.post (fieldD q, l, x, ())) (by kernel_rfl) ?_
 have hp : C113.post (fieldD q, l, x, ()) = (Pl.val q l x, ()) := rfl
 have e : Pl.qV (D.bfn (Fn.method "dauber/field.sum") [arD q]) = q := qV_sum hq
 rw [hp, e]
 exact ⟨⟨q, hq, rfl, rfl, hP.1, hP.2.1, hP.2.2, rfl⟩, rfl⟩
theorem snd113 : Sound Try.prog 113 C113 := fn_sound (T := T113) (fn := Try.f113) (tok0 ⟨snd144, trivial⟩) Try.func113 (by kernel_rfl) H0 vc113 (by kernel_rfl) (hC := ⟨fun x hx => ⟨okF_nr hx.1, rfl, trivial, trivial⟩, fun x hx => ⟨trivial, trivial⟩⟩)
theorem vc68 : ∀ x, C68.pre x → VC T68 H68 Try.f68 C68 x := by
 rintro ⟨⟨(q : Int), (p : Int), (k : Int), (m0 : Int), ⟨⟩⟩, (l : List Int), (x : Int), ⟨⟩⟩ ⟨(h0 : Pl.okr _), (hl : ∀ y ∈ l, Pl.inQ q y), (hn : l.length ≤ 1000000000), (hx : Pl.inQ q x)⟩
 obtain ⟨hq, _, _, _⟩ := okr_open h0
 refine cast (α := ∃ (n : Nat), itl (fun (G : Int × Int × PUnit → Prop) (x_1 : Int × Int × PUnit) => Br (decide (x_1.2.1 ≥ (0 : Int))) ((Pl.okr (q, p, k, m0, ()) ∧ Pl.inQ q x_1.1 ∧ Pl.inQ q x) ∧ (0 : Int) ≤ x_1.2.1 ∧ x_1.2.1 < (↑l.length : Int) ∧ (Pl.okr (q, p, k, m0, ()) ∧ Pl.inQ q (Pl.mul q x_1.1 x) ∧ Pl.inQ q (rd i64 l x_1.2.1)) ∧ G (Pl.add q (Pl.mul q x_1.1 x) (rd i64 l x_1.2.1), IntKind.i64.wrap (x_1.2.1 - (1 : Int)), ())) ((x_1.1, ()) = C68.post ((q, p, k, m0, ()), l, x, ()))) n ((0 : Int), IntKind.i64.wrap ((↑l.length : Int) - (1 : Int)), ())) (by kernel_rfl) ?_
 have hp : C68.post ((q, p, k, m0, ()), l, x, ()) = (Pl.val q l x, ()) := rfl
 rw [hp, wrap_i64 (by omega) (by omega)]
 refine itl_rule (fun s => ∃ i : Nat, s.2.1 = (i : Int) - 1 ∧ i ≤ l.length ∧ s.1 = Pl.val q (l.drop i) x) (fun s => (s.2.1 + 1).toNat) ⟨l.length, rfl, Nat.le_refl _, by rw [List.drop_length]; rfl⟩ ?_
 rintro ⟨o, i0, ⟨⟩⟩ G ⟨i, e, hi, ho⟩ hG
 simp only at e ho hG ⊢
 subst e ho
 refine Br_of (fun h => ?_) (fun h => ?_)
 ·obtain ⟨i, rfl⟩ : ∃ j, i = j + 1 := ⟨i - 1, by have := of_decide_eq_true h; omega⟩
  rw [show ((i + 1 : Nat) : Int) - 1 = (i : Int) by omega] at hG ⊢
  rw [rd_i, wrap_i64 (by omega) (by omega)]
  have hd := drop_cons 0 (show i < l.length by omega)
  exact ⟨⟨h0, val_in hq _ _, hx⟩, by omega, by omega, ⟨h0, mul_inQ hq _ _, getD_inQ hl (by omega)⟩, hG _ ⟨i, rfl, by omega, by rw [hd]; rfl⟩ (by simp only; omega)⟩
 ·have h : i = 0 := by have := of_decide_eq_false h; omega
  subst h
  rfl
theorem snd68 : Sound Try.prog 68 C68 := fn_sound (T := T68) (fn := Try.f68) (tok0 ⟨snd31, snd35, trivial⟩) Try.func68 (by kernel_rfl) H68 vc68 (by kernel_rfl)
theorem chk_in {q : Int} {p : List Int} (h : Pl.chk q p = 0) : p.length ≤ 200 ∧ (∀ x ∈ p, Pl.inQ q x) ∧ (0 < p.length → p.getD (p.length - 1) 0 ≠ 0) := by
 by_cases h1 : p.length > 200
 ·rw [chk_long h1] at h; omega
 cases h2 : Pl.els q p with
 | false => rw [chk_els h1 h2] at h; omega
 | true =>
  refine ⟨by omega, els_in h2, fun h3 h4 => ?_⟩
  rw [chk_top h1 h3 h4] at h; omega
theorem vc65 : ∀ x, C65.pre x → VC T65 H0 Try.f65 C65 x := by
 rintro ⟨v, (l : List Int), (x : Int), ⟨⟩⟩ ⟨⟨q, hq, (rfl : v = _)⟩, (hl : Pl.len9 l)⟩
 refine cast (α := (Pl.okF (D.rptr (fieldC q)) ∧ Pl.len9 l) ∧ Br (Pl.chk (Pl.qF (D.rptr (fieldC q))) l != (0 : Int)) (((0 : Int), Pl.chk (Pl.qF (D.rptr (fieldC q))) l, ()) = C65.post (fieldD q, l, x, ())) (Pl.okF (D.rptr (fieldC q)) ∧ (Pl.okF (D.rptr (fieldC q)) ∧ Pl.okPx (Pl.qF (D.rptr (fieldC q))) l (x % Pl.qF (D.rptr (fieldC q)))) ∧ (Pl.val (Pl.qF (D.rptr (fieldC q))) l (x % Pl.qF (D.rptr (fieldC q))), (0 : Int), ()) = C65.post (fieldD q, l, x, ()))) (by kernel_rfl) ?_
 have hp : C65.post (fieldD q, l, x, ()) = ((Pl.vale q l x).1, (Pl.vale q l x).2, ()) := rfl
 rw [hp, qF_f]
 have oF := okF_f hq
 refine ⟨⟨oF, hl⟩, Br_of (fun h => ?_) (fun h => ?_)⟩
 ·have h : Pl.chk q l ≠ 0 := by simpa using h
  unfold Pl.vale; rw [decide_eq_true h]; rfl
 ·have h : Pl.chk q l = 0 := by simpa using h
  unfold Pl.vale; rw [decide_eq_false (not_not_intro h)]
  exact ⟨oF, ⟨oF, (chk_in h).2.1, hl, emod_inQ hq _⟩, rfl⟩
theorem snd65 : Sound Try.prog 65 C65 := fn_sound (T := T65) (fn := Try.f65) (tok0 ⟨snd77, snd95, snd113, trivial⟩) Try.func65 (by kernel_rfl) H0 vc65 (by kernel_rfl) (hC := ⟨fun x hx => ⟨okF_nr hx.1, rfl, trivial, trivial⟩, fun x hx => ⟨trivial, trivial, trivial⟩⟩)
end Fd
end
section
set_option linter.unusedVariables false
set_option linter.unusedSimpArgs false
set_option linter.unusedSectionVars false
set_option maxRecDepth 100000
namespace Fd
open Go Fw Go.Proofs

def C112 : Con := ⟨[L], [L], fun (x : List Int × Unit) => Pl.len9 x.1, fun (x : List Int × Unit) => (Pl.trim x.1, ()), none⟩
def H112 : Hints := lo [(0, ⟨[], [(0, sl)]⟩)]
def Pl.cutJ (ms : XS) (j i : Nat) : Nat := if i = 0 then j else ms.length + i
def Pl.cutM (ms : XS) (j i : Nat) : XS := if i = 0 then ms else mkill ms j ++ (List.replicate (i - 1) none ++ [some ((mrow ms j).take ((mrow ms j).length - i))])
def Pl.cuts (ms : XS) (j : Nat) : Nat := (mrow ms j).length - Pl.trimN (mrow ms j) (mrow ms j).length
def Pl.trmJ (ms : XS) (j : Nat) : Nat := Pl.cutJ ms j (Pl.cuts ms j)
def Pl.trmM (ms : XS) (j : Nat) : XS := Pl.cutM ms j (Pl.cuts ms j)
def trm112 (avs : List AV) (h : Hp) : Option (Prop × AV × Hp) := match avs with
 | [.d (.ref 0 j)] => (match h 0 with
  | some (.aren 3 (.int .i64) ms) => some (mal ms j ∧ Pl.len9 (mrow ms j), .d (.ref 0 (Pl.trmJ ms j)), upd h 0 (some (.aren 3 i64 (Pl.trmM ms j))))
  | _ => none)
 | _ => none
theorem trm112_some {avs : List AV} {h h' : Hp} {p : Prop} {v : AV} (e : trm112 avs h = some (p, v, h')) : ∃ j ms, avs = [.d (.ref 0 j)] ∧ h 0 = some (.aren 3 i64 ms) ∧ p = (mal ms j ∧ Pl.len9 (mrow ms j)) ∧ v = .d (.ref 0 (Pl.trmJ ms j)) ∧ h' = upd h 0 (some (.aren 3 i64 (Pl.trmM ms j))) := by
 unfold trm112 at e
 split at e
 ·rename_i j
  split at e
  ·rename_i ms h0
   have e := Option.some.inj e
   obtain ⟨e1, e2⟩ := Prod.mk.inj e
   obtain ⟨e2, e3⟩ := Prod.mk.inj e2
   exact ⟨j, ms, rfl, h0, e1.symm, e2.symm, e3.symm⟩
  ·cases e
 ·cases e
def pt112 : PT where
 base := 4000000
 mods := [0]
 fn := trm112
 ok := by
  intro avs h p v h' e
  obtain ⟨j, ms, _, h0, _, rfl, rfl⟩ := trm112_some e
  refine ⟨fun id => ?_, fun id hid => ?_, rfl, fun id hid => ?_, fun K hK => ?_⟩
  ·rw [upd_eq]
   by_cases c0 : id = 0
   ·subst c0; simp [h0]
   ·rw [if_neg c0]
  ·simp only [List.mem_cons, List.not_mem_nil, or_false] at hid
   rw [upd_eq, if_neg hid]
  ·simp only [List.mem_cons, List.not_mem_nil, or_false] at hid
   subst hid; simp [h0]
  ·obtain ⟨o, ho, ha⟩ := hK
   rw [upd_eq] at ho
   by_cases c0 : K = 0
   ·subst c0; exact ⟨_, h0, rfl⟩
   ·rw [if_neg c0] at ho; exact ⟨o, ho, ha⟩
def T112 : Ctx := ⟨tt, [], [], none, [], 4000000, [0], [], 0, [(19, 0)], [], [], []⟩
def H112p : Hints := ⟨[19], [], [(0, ⟨[], [(0, .ty (.ref 0)), (0, s0)]⟩)], [], []⟩
def Pl.dst (q : Int) (b : List Int) (c : Int) (i : Nat) : Nat → List Int → List Int
 | 0, r => r
 | j + 1, r => (Pl.dst q b c i j r).set (i + j) (Pl.sub q ((Pl.dst q b c i j r).getD (i + j) 0) (Pl.mul q c (b.getD j 0)))
def Pl.dvL (q : Int) (b : List Int) (k : Int) : Nat → List Int → List Int → List Int × List Int
 | 0, o, r => (o, r)
 | i + 1, o, r => Pl.dvL q b k i (o.set i (Pl.mul q (r.getD (i + b.length - 1) 0) k)) (Pl.dst q b (Pl.mul q (r.getD (i + b.length - 1) 0) k) i b.length r)
def Pl.top (b : List Int) : Int := b.getD (b.length - 1) 0
def Pl.ovr (q : Int) (p b : List Int) : List Int × List Int := bif decide (p.length < b.length) then ([], p) else
 (Pl.trim (Pl.dvL q b (Pl.inv q (Pl.top b)) (p.length - b.length + 1) (List.replicate (p.length - b.length + 1) 0) p).1,
  Pl.trim (Pl.dvL q b (Pl.inv q (Pl.top b)) (p.length - b.length + 1) (List.replicate (p.length - b.length + 1) 0) p).2)
def Pl.pol (q : Int) (p : List Int) : Prop := (∀ x ∈ p, Pl.inQ q x) ∧ p.length ≤ 1000000 ∧ (0 < p.length → Pl.top p ≠ 0)
def C116 : Con := ⟨[.raw, L, L], [L, L], fun (x : DLL) => Pl.okF x.1 ∧ Pl.okPr (Pl.qF x.1) x.2.1 x.2.2.1 ∧ 0 < x.2.2.1.length ∧ Pl.top x.2.2.1 ≠ 0, fun (x : DLL) => ((Pl.ovr (Pl.qF x.1) x.2.1 x.2.2.1).1, (Pl.ovr (Pl.qF x.1) x.2.1 x.2.2.1).2, ()), none⟩
def H116 : Hints := ⟨[14], [(3, [14]), (16, [1000006, 1000007])], [(0, ⟨[0, 2, 8], [(6, so), (7, so), (9, si)]⟩), (2, ⟨[0, 2, 8, 9, 10, 68, 69], [(6, so), (7, so), (70, si)]⟩)], [], []⟩
def T116 : Ctx := TF [(123, C123), (143, C143)]
def C72 : Con := ⟨[G4, L, L], [L, L], fun (x : R4 × List Int × List Int × Unit) => Pl.okr x.1 ∧ Pl.pol x.1.1 x.2.1 ∧ Pl.pol x.1.1 x.2.2.1 ∧ 0 < x.2.2.1.length, fun (x : R4 × List Int × List Int × Unit) => ((Pl.ovr x.1.1 x.2.1 x.2.2.1).1, (Pl.ovr x.1.1 x.2.1 x.2.2.1).2, ()), none⟩
def ars1 : List (Nat × Fw.Obj) := [(0, .aren 3 i64 [])]
def T72 : Ctx := ⟨tt, [(99, C99), (35, C35), (33, C33)], [], none, [(112, pt112)], 100, [0], [], 0, [(16, 0)], ars1, [], []⟩
def H72 : Hints := ⟨[], [(2, [103])], [(0, ⟨[2, 3, 9], [(8, .ty (.ref 0)), (10, so), (0, s0)]⟩), (2, ⟨[2, 3, 8, 9, 11, 12], [(10, so), (13, si), (0, s0)]⟩)], [112], []⟩
end Fd
end
section
set_option linter.unusedVariables false
set_option linter.unusedSimpArgs false
set_option linter.unusedSectionVars false
set_option maxRecDepth 100000
namespace Fd
open Go Fw Go.Proofs

theorem trimN_le (l : List Int) : ∀ n, Pl.trimN l n ≤ n
 | 0 => Nat.le_refl _
 | n + 1 => by
  rw [Pl.trimN]
  cases decide (l.getD n 0 = 0) with
  | true => exact Nat.le_succ_of_le (trimN_le l n)
  | false => exact Nat.le_refl _
theorem trimN_top (l : List Int) : ∀ n, 0 < Pl.trimN l n → l.getD (Pl.trimN l n - 1) 0 ≠ 0
 | 0, h => by simp [Pl.trimN] at h
 | n + 1, h => by
  rw [Pl.trimN] at h ⊢
  by_cases e : l.getD n 0 = 0
  ·rw [decide_eq_true e, cond_true] at h ⊢
   exact trimN_top l n h
  ·rw [decide_eq_false e, cond_false]; exact e
theorem trimN_zero (l : List Int) : ∀ n i, Pl.trimN l n ≤ i → i < n → l.getD i 0 = 0
 | 0, i, _, h => by omega
 | n + 1, i, h, h2 => by
  rw [Pl.trimN] at h
  by_cases e : l.getD n 0 = 0
  ·rw [decide_eq_true e, cond_true] at h
   by_cases e2 : i = n
   ·rw [e2]; exact e
   ·exact trimN_zero l n i h (by omega)
  ·rw [decide_eq_false e, cond_false] at h; omega
theorem trim_len (l : List Int) : (Pl.trim l).length = Pl.trimN l l.length := by
 unfold Pl.trim
 rw [List.length_take, Nat.min_eq_left (trimN_le _ _)]
theorem trim_getD (l : List Int) {i : Nat} (h : i < (Pl.trim l).length) : (Pl.trim l).getD i 0 = l.getD i 0 := by
 have h2 := trim_len l
 unfold Pl.trim at h ⊢
 rw [List.getD_eq_getElem?_getD, List.getElem?_take_of_lt (by unfold Pl.trim at h2; omega), ← List.getD_eq_getElem?_getD]
theorem trim_mem {l : List Int} {x : Int} (h : x ∈ Pl.trim l) : x ∈ l := List.mem_of_mem_take h
theorem trim_pol {q : Int} {l : List Int} (h : ∀ x ∈ l, Pl.inQ q x) (hl : l.length ≤ 1000000) : Pl.pol q (Pl.trim l) := by
 have h2 := trim_len l
 have h3 := trimN_le l l.length
 refine ⟨fun x hx => h x (trim_mem hx), by omega, fun h0 => ?_⟩
 unfold Pl.top
 rw [trim_getD l (by omega), h2]
 exact trimN_top l _ (by omega)
theorem trim_eq {l : List Int} (h : 0 < l.length → Pl.top l ≠ 0) : Pl.trim l = l := by
 rcases Nat.eq_zero_or_pos l.length with e | e
 ·rw [List.length_eq_zero_iff.1 e]; rfl
 ·have h := h e
  unfold Pl.trim
  obtain ⟨n, hn⟩ : ∃ n, l.length = n + 1 := ⟨l.length - 1, by omega⟩
  unfold Pl.top at h
  rw [hn, Nat.add_sub_cancel] at h
  rw [hn, Pl.trimN, decide_eq_false h, cond_false, ← hn, List.take_length]
theorem trim_pad (l : List Int) : Pl.trim l ++ List.replicate (l.length - (Pl.trim l).length) 0 = l := by
 have h2 := trim_len l
 have h3 := trimN_le l l.length
 refine List.ext_getElem (by rw [List.length_append, List.length_replicate]; omega) fun i i1 i2 => ?_
 have key : (Pl.trim l ++ List.replicate (l.length - (Pl.trim l).length) 0).getD i 0 = l.getD i 0 := by
  rcases Nat.lt_or_ge i (Pl.trim l).length with h | h
  ·rw [List.getD_eq_getElem?_getD, List.getElem?_append_left h, ← List.getD_eq_getElem?_getD]; exact trim_getD l h
  ·rw [trimN_zero l l.length i (by omega) i2, List.getD_eq_getElem?_getD, List.getElem?_append_right h, List.getElem?_replicate]
   split <;> rfl
 simpa [List.getD_eq_getElem?_getD, List.getElem?_eq_getElem i1, List.getElem?_eq_getElem i2] using key
theorem trim_app (l : List Int) (h : 0 < l.length → Pl.top l ≠ 0) (n : Nat) : Pl.trim (l ++ List.replicate n 0) = l := by
 have key : ∀ n, Pl.trimN (l ++ List.replicate n 0) (l.length + n) = l.length := by
  intro n
  have hz : ∀ m, m ≤ n → Pl.trimN (l ++ List.replicate n 0) (l.length + m) = Pl.trimN (l ++ List.replicate n 0) l.length := by
   intro m
   induction m with
   | zero => intro _; rfl
   | succ m ih =>
    intro hm
    rw [← Nat.add_assoc, Pl.trimN]
    have : (l ++ List.replicate n 0).getD (l.length + m) 0 = 0 := by
     rw [List.getD_eq_getElem?_getD, List.getElem?_append_right (by omega), List.getElem?_replicate]
     split <;> rfl
    rw [decide_eq_true this, cond_true]
    exact ih (by omega)
  rw [hz n (Nat.le_refl _)]
  rcases Nat.eq_zero_or_pos l.length with e | e
  ·rw [e]; rfl
  ·obtain ⟨k, hk⟩ : ∃ k, l.length = k + 1 := ⟨l.length - 1, by omega⟩
   have h := h e
   unfold Pl.top at h
   rw [hk, Nat.add_sub_cancel] at h
   rw [hk, Pl.trimN, decide_eq_false, cond_false]
   rw [List.getD_eq_getElem?_getD, List.getElem?_append_left (by omega), ← List.getD_eq_getElem?_getD]; exact h
 unfold Pl.trim
 rw [List.length_append, List.length_replicate, key n, List.take_left']
 rfl
section
variable {q : Int} (hq : isQ q)
include hq
theorem sub_mul0 {x y : Int} (hx : Pl.inQ q x) (hy : Pl.inQ q y) : Pl.sub q x (Pl.mul q 0 y) = x :=
 congrArg KQ.v (show (⟨x, hx⟩ : KQ hq) - 0 * ⟨y, hy⟩ = ⟨x, hx⟩ by grind)
theorem zero_mul' {y : Int} (hy : Pl.inQ q y) : Pl.mul q 0 y = 0 := congrArg KQ.v (show (0 : KQ hq) * ⟨y, hy⟩ = 0 by grind)
theorem sub_top {x y : Int} (hx : Pl.inQ q x) (hy : Pl.inQ q y) (h0 : y ≠ 0) : Pl.sub q x (Pl.mul q (Pl.mul q x (Pl.inv q y)) y) = 0 := by
 have hne : (⟨y, hy⟩ : KQ hq) ≠ 0 := fun e => h0 (KQ.zero_iff.1 e)
 have e : (⟨x, hx⟩ : KQ hq) - ⟨x, hx⟩ * (⟨y, hy⟩ : KQ hq)⁻¹ * ⟨y, hy⟩ = 0 := by grind
 have := congrArg KQ.v e
 rw [KQ.sub_val, KQ.mul_val, KQ.mul_val, KQ.inv_val hne] at this
 exact this
theorem mul_ne0 {x y : Int} (hx : Pl.inQ q x) (hy : Pl.inQ q y) (h0 : x ≠ 0) (h1 : y ≠ 0) : Pl.mul q x y ≠ 0 := by
 intro e
 have h0 : (⟨x, hx⟩ : KQ hq) ≠ 0 := fun e => h0 (KQ.zero_iff.1 e)
 have h1 : (⟨y, hy⟩ : KQ hq) ≠ 0 := fun e => h1 (KQ.zero_iff.1 e)
 have e : (⟨x, hx⟩ : KQ hq) * ⟨y, hy⟩ = 0 := KQ.ext e
 have : (⟨x, hx⟩ : KQ hq) * ⟨y, hy⟩ * (⟨y, hy⟩ : KQ hq)⁻¹ = 0 := by rw [e]; grind
 exact h0 (by grind)
theorem inv_ne0 {y : Int} (hy : Pl.inQ q y) (h0 : y ≠ 0) : Pl.inv q y ≠ 0 := by
 have hne : (⟨y, hy⟩ : KQ hq) ≠ 0 := fun e => h0 (KQ.zero_iff.1 e)
 intro e
 have h2 : (⟨y, hy⟩ : KQ hq)⁻¹ = 0 := KQ.ext (by rw [KQ.inv_val hne]; exact e)
 have h3 : (⟨y, hy⟩ : KQ hq) * (⟨y, hy⟩ : KQ hq)⁻¹ = 1 := by grind
 rw [h2] at h3
 exact absurd h3 (by grind)
theorem dst_ok {b : List Int} {c : Int} {i : Nat} : ∀ (j : Nat) {r : List Int}, (∀ x ∈ r, Pl.inQ q x) → (Pl.dst q b c i j r).length = r.length ∧ ∀ x ∈ Pl.dst q b c i j r, Pl.inQ q x
 | 0, r, h => ⟨rfl, h⟩
 | j + 1, r, h => by
  obtain ⟨h1, h2⟩ := dst_ok (b := b) (c := c) (i := i) j h
  rw [Pl.dst]
  refine ⟨by rw [List.length_set, h1], fun x hx => ?_⟩
  rcases List.mem_or_eq_of_mem_set hx with hx | rfl
  ·exact h2 x hx
  ·exact sub_inQ hq _ _
theorem dst_0 {b r : List Int} {i : Nat} (hb : ∀ x ∈ b, Pl.inQ q x) (hr : ∀ x ∈ r, Pl.inQ q x) : ∀ j : Nat, j ≤ b.length → Pl.dst q b 0 i j r = r
 | 0, _ => rfl
 | j + 1, h => by
  rw [Pl.dst, dst_0 hb hr j (by omega), sub_mul0 hq]
  ·rcases Nat.lt_or_ge (i + j) r.length with h1 | h1
   ·rw [List.getD_eq_getElem?_getD, List.getElem?_eq_getElem h1]
    exact List.set_getElem_self h1
   ·rw [List.set_eq_of_length_le (by omega)]
  ·rcases Nat.lt_or_ge (i + j) r.length with h1 | h1
   ·exact getD_inQ hr h1
   ·rw [List.getD_eq_getElem?_getD, List.getElem?_eq_none (by omega)]; exact zero_inQ hq
  ·exact getD_inQ hb (by omega)
theorem dst_app {b : List Int} {c : Int} {i : Nat} (z : List Int) {r : List Int} (hr : ∀ x ∈ r, Pl.inQ q x) : ∀ j : Nat, i + j ≤ r.length → Pl.dst q b c i j (r ++ z) = Pl.dst q b c i j r ++ z
 | 0, _ => rfl
 | j + 1, h => by
  have hl := (dst_ok hq (b := b) (c := c) (i := i) j hr).1
  rw [Pl.dst, Pl.dst, dst_app z hr j (by omega), List.set_append_left _ _ (by omega), List.getD_eq_getElem?_getD, List.getElem?_append_left (by omega), ← List.getD_eq_getElem?_getD]
theorem dst_top {b : List Int} {c : Int} {i : Nat} {r : List Int} (hr : ∀ x ∈ r, Pl.inQ q x) : ∀ j k : Nat, j ≤ k → i + k < r.length → (Pl.dst q b c i j r).getD (i + k) 0 = r.getD (i + k) 0
 | 0, k, _, _ => rfl
 | j + 1, k, h, h2 => by
  have hl := (dst_ok hq (b := b) (c := c) (i := i) j hr).1
  rw [Pl.dst, List.getD_eq_getElem?_getD, List.getElem?_set_ne (by omega), ← List.getD_eq_getElem?_getD]
  exact dst_top hr j k (by omega) h2
theorem dvL_skip {b o R : List Int} {k : Int} (hk : Pl.inQ q k) (hb : ∀ x ∈ b, Pl.inQ q x) (hR : ∀ x ∈ R, Pl.inQ q x) (a : Nat) : ∀ i : Nat, a ≤ i → (∀ t, a ≤ t → t < i → R.getD (t + b.length - 1) 0 = 0 ∧ o.getD t 0 = 0) → Pl.dvL q b k i o R = Pl.dvL q b k a o R
  | 0, h, _ => by obtain rfl : a = 0 := by omega
                  rfl
  | i + 1, h, hz => by
    by_cases e : a = i + 1
    · rw [e]
    · obtain ⟨z1, z2⟩ := hz i (by omega) (by omega)
      rw [Pl.dvL, z1, zero_mul' hq hk, dst_0 hq hb hR _ (Nat.le_refl _)]
      have ho : o.set i 0 = o := by
        rcases Nat.lt_or_ge i o.length with h1 | h1
        · have : o[i] = 0 := by rw [List.getD_eq_getElem?_getD, List.getElem?_eq_getElem h1] at z2; exact z2
          conv => lhs; rw [← this]
          exact List.set_getElem_self h1
        · rw [List.set_eq_of_length_le h1]
      rw [ho]
      exact dvL_skip hk hb hR a i (by omega) fun t h1 h2 => hz t h1 (by omega)
structure Pl.Dv (q : Int) (b : List Int) (k : Int) (N : Nat) (tgt : List Int × List Int) (o r : List Int) : Prop where
 rp : Pl.pol q r
 rl : r.length ≤ N
 ol : o.length = N - b.length + 1
 st : ∃ i, r.length + 1 ≤ i + b.length ∧ (∀ t, t < i → o.getD t 0 = 0) ∧ Pl.dvL q b k i o (r ++ List.replicate (N - r.length) 0) = tgt
 tp : r.length = N ∨ o.getD (N - b.length) 0 ≠ 0
theorem pad_in {r : List Int} (hr : ∀ x ∈ r, Pl.inQ q x) (n : Nat) : ∀ x ∈ r ++ List.replicate n 0, Pl.inQ q x := fun x hx => by
 rcases List.mem_append.1 hx with h | h
 ·exact hr x h
 ·rw [(List.mem_replicate.1 h).2]; exact zero_inQ hq
theorem pad_0 {r : List Int} {n i : Nat} (h : r.length ≤ i) : (r ++ List.replicate n 0).getD i 0 = 0 := by
 rw [List.getD_eq_getElem?_getD, List.getElem?_append_right h, List.getElem?_replicate]
 split <;> rfl
theorem Dv_step {b o r : List Int} {N : Nat} {tgt : List Int × List Int} (hb : Pl.pol q b) (hb0 : 0 < b.length) (h : Pl.Dv q b (Pl.inv q (Pl.top b)) N tgt o r) (hr : b.length ≤ r.length) :
  Pl.Dv q b (Pl.inv q (Pl.top b)) N tgt (o.set (r.length - b.length) (Pl.mul q (Pl.top r) (Pl.inv q (Pl.top b)))) (Pl.trim (Pl.dst q b (Pl.mul q (Pl.top r) (Pl.inv q (Pl.top b))) (r.length - b.length) b.length r)) ∧
   (Pl.trim (Pl.dst q b (Pl.mul q (Pl.top r) (Pl.inv q (Pl.top b))) (r.length - b.length) b.length r)).length + 1 ≤ r.length := by
 obtain ⟨⟨rp1, rp2, rp3⟩, rl, ol, ⟨i, i1, i2, i3⟩, tp⟩ := h
 have hbt := hb.2.2 hb0
 have hbi : Pl.inQ q (Pl.top b) := getD_inQ hb.1 (by omega)
 have hk := inv_inQ hq (Pl.top b)
 have hrt : Pl.inQ q (Pl.top r) := getD_inQ rp1 (by omega)
 have hr0 := rp3 (by omega)
 have hb1 := hb.1
 obtain ⟨d1, d2⟩ := dst_ok hq (b := b) (c := Pl.mul q (Pl.top r) (Pl.inv q (Pl.top b))) (i := r.length - b.length) b.length rp1
 have hpad := pad_in hq rp1 (N - r.length)
 rw [dvL_skip hq hk hb1 hpad (r.length - b.length + 1) i (by omega) (fun t t1 t2 => ⟨pad_0 hq (by omega), i2 t t2⟩), Pl.dvL] at i3
 have hget : (r ++ List.replicate (N - r.length) 0).getD (r.length - b.length + b.length - 1) 0 = Pl.top r := by
  rw [show r.length - b.length + b.length - 1 = r.length - 1 by omega, List.getD_eq_getElem?_getD, List.getElem?_append_left (by omega), ← List.getD_eq_getElem?_getD]; rfl
 rw [hget, dst_app hq _ rp1 _ (by omega)] at i3
 have hz : (Pl.dst q b (Pl.mul q (Pl.top r) (Pl.inv q (Pl.top b))) (r.length - b.length) b.length r).getD (r.length - 1) 0 = 0 := by
  obtain ⟨n, hn⟩ : ∃ n, b.length = n + 1 := ⟨b.length - 1, by omega⟩
  have hd := dst_top hq (b := b) (c := Pl.mul q (Pl.top r) (Pl.inv q (Pl.top b))) (i := r.length - b.length) rp1 n n (Nat.le_refl _) (by omega)
  have hdl := (dst_ok hq (b := b) (c := Pl.mul q (Pl.top r) (Pl.inv q (Pl.top b))) (i := r.length - b.length) n rp1).1
  have e1 : r.length - b.length + n = r.length - 1 := by omega
  rw [e1] at hd
  conv => lhs; rw [hn, Pl.dst]
  rw [← hn, e1, hd, List.getD_eq_getElem?_getD, List.getElem?_set_self (by omega)]
  show Pl.sub q (r.getD (r.length - 1) 0) (Pl.mul q (Pl.mul q (Pl.top r) (Pl.inv q (Pl.top b))) (b.getD n 0)) = 0
  have e2 : b.getD n 0 = Pl.top b := by unfold Pl.top; rw [hn]; rfl
  rw [e2]
  exact sub_top hq hrt hbi hbt
 generalize hr' : Pl.dst q b (Pl.mul q (Pl.top r) (Pl.inv q (Pl.top b))) (r.length - b.length) b.length r = r' at *
 have hT := trim_len r'
 have hlt : (Pl.trim r').length + 1 ≤ r.length := by
  rw [hT, d1]
  obtain ⟨n, hn⟩ : ∃ n, r.length = n + 1 := ⟨r.length - 1, by omega⟩
  rw [hn] at hz ⊢
  rw [Pl.trimN, decide_eq_true (by simpa using hz), cond_true]
  have := trimN_le r' n
  omega
 have hmul := mul_ne0 hq hrt hk hr0 (inv_ne0 hq hbi hbt)
 refine ⟨⟨trim_pol d2 (by omega), by omega, by rw [List.length_set]; exact ol, ⟨r.length - b.length, by omega, fun t ht => ?_, ?_⟩, .inr ?_⟩, hlt⟩
 ·rw [List.getD_eq_getElem?_getD, List.getElem?_set_ne (by omega), ← List.getD_eq_getElem?_getD]
  exact i2 t (by omega)
 ·have hp := trim_pad r'
  have e : Pl.trim r' ++ List.replicate (N - (Pl.trim r').length) 0 = r' ++ List.replicate (N - r.length) 0 := by
   conv => rhs; rw [← hp]
   rw [List.append_assoc, List.replicate_append_replicate]
   congr 2
   omega
  rw [e]; exact i3
 ·rcases Nat.eq_or_lt_of_le (show r.length - b.length ≤ N - b.length by omega) with e | e
  ·rw [e, List.getD_eq_getElem?_getD, List.getElem?_set_self (by omega)]; exact hmul
  ·rw [List.getD_eq_getElem?_getD, List.getElem?_set_ne (by omega), ← List.getD_eq_getElem?_getD]
   exact tp.resolve_left (by omega)
theorem Dv_start {p b : List Int} (hp : Pl.pol q p) (hb : Pl.pol q b) (h : b.length ≤ p.length) (k : Int) : Pl.Dv q b k p.length (Pl.dvL q b k (p.length - b.length + 1) (List.replicate (p.length - b.length + 1) 0) p) (List.replicate (p.length - b.length + 1) 0) p := by
 refine ⟨hp, Nat.le_refl _, by rw [List.length_replicate], ⟨p.length - b.length + 1, by omega, fun t ht => ?_, by rw [Nat.sub_self, List.replicate_zero, List.append_nil]⟩, .inl rfl⟩
 rw [List.getD_eq_getElem?_getD, List.getElem?_replicate]; split <;> rfl
theorem Dv_end {p b o r : List Int} (hb : Pl.pol q b) (hb0 : 0 < b.length) (hpb : b.length ≤ p.length) (h : Pl.Dv q b (Pl.inv q (Pl.top b)) p.length (Pl.dvL q b (Pl.inv q (Pl.top b)) (p.length - b.length + 1) (List.replicate (p.length - b.length + 1) 0) p) o r) (hr : r.length < b.length) : Pl.ovr q p b = (o, r) := by
 obtain ⟨rp, rl, ol, ⟨i, i1, i2, i3⟩, tp⟩ := h
 unfold Pl.ovr
 rw [decide_eq_false (show ¬ p.length < b.length by omega), cond_false, ← i3, dvL_skip hq (inv_inQ hq _) hb.1 (pad_in hq rp.1 _) 0 i (Nat.zero_le _) (fun t _ t2 => ⟨pad_0 hq (by omega), i2 t t2⟩), Pl.dvL]
 simp only
 rw [trim_app r rp.2.2, trim_eq]
 intro _
 unfold Pl.top
 rw [ol]
 exact tp.resolve_left (by omega)
theorem ovr_ok {p b : List Int} (hp : Pl.pol q p) (hb : Pl.pol q b) (hb0 : 0 < b.length) : Pl.pol q (Pl.ovr q p b).2 ∧ (Pl.ovr q p b).2.length < b.length := by
 rcases Nat.lt_or_ge p.length b.length with h | h
 ·unfold Pl.ovr
  rw [decide_eq_true h, cond_true]
  exact ⟨hp, h⟩
 ·have key : ∀ n o r, r.length ≤ n → Pl.Dv q b (Pl.inv q (Pl.top b)) p.length (Pl.dvL q b (Pl.inv q (Pl.top b)) (p.length - b.length + 1) (List.replicate (p.length - b.length + 1) 0) p) o r → Pl.pol q (Pl.ovr q p b).2 ∧ (Pl.ovr q p b).2.length < b.length := by
   intro n
   induction n with
   | zero =>
    intro o r hr hD
    rw [Dv_end hq hb hb0 h hD (by omega)]
    exact ⟨hD.rp, by show r.length < _; omega⟩
   | succ n ih =>
    intro o r hr hD
    rcases Nat.lt_or_ge r.length b.length with h1 | h1
    ·rw [Dv_end hq hb hb0 h hD h1]
     exact ⟨hD.rp, h1⟩
    ·obtain ⟨hD', hlt⟩ := Dv_step hq hb hb0 hD h1
     exact ih _ _ (by omega) hD'
  exact key p.length _ _ (Nat.le_refl _) (Dv_start hq hp hb h _)
end
end Fd
end
