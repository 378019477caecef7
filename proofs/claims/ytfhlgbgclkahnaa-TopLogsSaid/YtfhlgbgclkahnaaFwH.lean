/- Rows of elements; the last quiet operations. -/
import Derived.Test.YtfhlgbgclkahnaaFwG
import Derived.Great.BuildSlice
set_option linter.unusedVariables false
set_option linter.unusedSimpArgs false
namespace Fw
open Go Go.RowKit

section
variable {P : Program} {T : Ctx} {w : World} {O : Nat → Prop} {h : Hp} {ι : Nat → Value} {base : Nat}

def RowRep (w : World) (O : Nat → Prop) (t : Ty) (xs : List t.El) (vs : List Value) : Prop :=
  vs.length = xs.length * t.size ∧ ∀ j (hj : j < xs.length), ERep w O t xs[j] (lat vs) (j * t.size)

theorem ERep.lat {t : Ty} {x : t.El} {us vs : List Value} {i i' : Nat} (h : ERep w O t x (lat us) i) (he : ∀ j, j < t.size → vs[i' + j]? = us[i + j]?) : ERep w O t x (lat vs) i' :=
  ERep.imp (Keeps.refl w O) t x _ _ _ _ (fun j u hj hu => by unfold Fw.lat at hu ⊢; rw [he j hj]; exact hu) h

theorem mul_lt {i j n s : Nat} (h : i < n) (hj : j < s) : i * s + j < n * s := by
  have : (i + 1) * s ≤ n * s := Nat.mul_le_mul_right s h
  rw [Nat.add_mul] at this
  omega

theorem RowRep.append {t : Ty} {xs ys : List t.El} {vs us : List Value} (h : RowRep w O t xs vs) (k : RowRep w O t ys us) : RowRep w O t (xs ++ ys) (vs ++ us) := by
  refine ⟨by simp [h.1, k.1, Nat.add_mul], fun j hj => ?_⟩
  rcases Nat.lt_or_ge j xs.length with hl | hl
  · rw [List.getElem_append_left hl]
    refine (h.2 j hl).lat fun i hi => ?_
    rw [List.getElem?_append_left (by rw [h.1]; exact mul_lt hl hi)]
  · rw [List.getElem_append_right hl]
    have hj' : j - xs.length < ys.length := by simp at hj; omega
    refine (k.2 _ hj').lat fun i hi => ?_
    have e : xs.length * t.size ≤ j * t.size := Nat.mul_le_mul_right _ hl
    rw [List.getElem?_append_right (by rw [h.1]; omega), h.1]
    congr 1
    rw [Nat.sub_mul]; omega

theorem RowRep.take {t : Ty} {xs : List t.El} {vs : List Value} (h : RowRep w O t xs vs) (n : Nat) (hn : n ≤ xs.length) : RowRep w O t (xs.take n) (vs.take (n * t.size)) := by
  have hle : n * t.size ≤ vs.length := by rw [h.1]; exact Nat.mul_le_mul_right _ hn
  refine ⟨by simp; rw [Nat.min_eq_left hle, Nat.min_eq_left hn], fun j hj => ?_⟩
  have hj' : j < n := by simp at hj; omega
  rw [List.getElem_take]
  refine (h.2 j (by omega)).lat fun i hi => ?_
  rw [List.getElem?_take, if_pos (mul_lt hj' hi)]

theorem RowRep.set {t : Ty} {xs : List t.El} {vs us : List Value} {y : t.El} {i : Nat} (h : RowRep w O t xs vs) (hi : i < xs.length) (hu : us.length = t.size) (hy : ERep w O t y (lat us) 0) :
    RowRep w O t (xs.set i y) (spl vs (i * t.size) us) := by
  have hle : i * t.size + us.length ≤ vs.length := by
    rw [h.1, hu]
    have : (i + 1) * t.size ≤ xs.length * t.size := Nat.mul_le_mul_right _ hi
    rw [Nat.add_mul] at this; omega
  refine ⟨by rw [spl_length hle, h.1]; simp, fun j hj => ?_⟩
  have hj' : j < xs.length := by simpa using hj
  by_cases e : i = j
  · subst e
    rw [List.getElem_set_self]
    refine hy.lat fun k hk => ?_
    simp only [spl, List.append_assoc, Nat.zero_add]
    have ht : (vs.take (i * t.size)).length = i * t.size := by simp; omega
    rw [List.getElem?_append_right (by rw [ht]; omega), ht, List.getElem?_append_left (by omega)]
    congr 1; omega
  · rw [List.getElem_set_ne e]
    refine (h.2 j hj').lat fun k hk => ?_
    have ht : (vs.take (i * t.size)).length = i * t.size := by simp; omega
    simp only [spl, List.append_assoc]
    rcases Nat.lt_or_gt_of_ne e with hlt | hgt
    · have : (i + 1) * t.size ≤ j * t.size := Nat.mul_le_mul_right _ hlt
      rw [Nat.add_mul] at this
      rw [List.getElem?_append_right (by rw [ht]; omega), List.getElem?_append_right (by rw [ht, hu]; omega), List.getElem?_drop, ht, hu]
      congr 1; omega
    · have := mul_lt hgt hk
      rw [List.getElem?_append_left (by rw [ht]; exact this), List.getElem?_take, if_pos this]

theorem RowRep.of_own {base e : Nat} {t : Ty} {xs : List t.El} {v : Value} {vs : List Value} (h : w.ownsRow base e t.size v xs.length vs) (he : ∀ j (hj : j < xs.length), ERep w O t xs[j] (lat vs) (j * t.size)) : RowRep w O t xs vs :=
  ⟨h.1, he⟩

theorem madeCells_get (z : Array Value) (m i : Nat) (hi : i < m) (hz : 0 < z.size) : (madeCells z m).toList[i]? = z.toList[i % z.size]? := by
  have hlt : i % z.size < z.size := Nat.mod_lt _ hz
  simp [madeCells, hi, hlt]

theorem RowRep.replicate {t : Ty} {z : t.El} {zs : Array Value} (hz : zs.size = t.size) (hp : 0 < t.size) (h : ERep w O t z (lat zs.toList) 0) (n : Nat) :
    RowRep w O t (List.replicate n z) (madeCells zs (n * t.size)).toList := by
  refine ⟨by simp [size_madeCells], fun j hj => ?_⟩
  have hj' : j < n := by simpa using hj
  rw [List.getElem_replicate]
  refine h.lat fun k hk => ?_
  rw [madeCells_get _ _ _ (mul_lt hj' hk) (by omega), hz]
  congr 1
  rw [Nat.add_comm, Nat.add_mul_mod_self_right, Nat.mod_eq_of_lt hk]
  omega

theorem RowRep.srep {t : Ty} {xs : List t.El} {vs : List Value} (h : RowRep w O t xs vs) {g c : Nat} (hc : xs.length ≤ c) (hg : ¬ O g) (hcell : ∀ i u, vs[i]? = some u → w.cell? ⟨g, i, none⟩ = some u) :
    SRep w O t xs (.slice (some ⟨g, 0, none⟩) xs.length c) := by
  refine ⟨_, c, rfl, hc, fun _ => ⟨_, rfl, fun j hj => ?_⟩⟩
  refine ERep.imp (Keeps.refl w O) t _ _ _ _ _ (fun i u hi hu => ?_) (h.2 j hj)
  rw [add_plain]
  refine ⟨hg, ?_⟩
  rw [Nat.zero_add]
  exact hcell _ _ hu

theorem fillE_spec {t : Ty} : ∀ (ps : List (Nat × D)) (vs : List (Nat × Value)) (xs xs' : List t.El) (cells : Array Value),
    fillE t xs ps = some xs' → RowRep w O t xs cells.toList → (ps.length = vs.length ∧ ∀ (i : Nat) (p : Nat × D) (q : Nat × Value), ps[i]? = some p → vs[i]? = some q → p.1 = q.1 ∧ VRep w O p.2 q.2) →
    ∃ cells', Instr.fill (fun i => some (i * t.size, t.size)) cells vs = some cells' ∧ RowRep w O t xs' cells'.toList ∧ xs'.length = xs.length
  | [], vs, xs, xs', cells, h, hl, hp => by
    have : vs = [] := List.eq_nil_of_length_eq_zero hp.1.symm
    subst this
    simp only [fillE, Option.some.injEq] at h
    subst h
    exact ⟨cells, rfl, hl, rfl⟩
  | (i, d) :: ps, vs, xs, xs', cells, h, hl, hp => by
    cases vs with
    | nil => simp at hp
    | cons q vs =>
      obtain ⟨h1, h2⟩ := hp.2 0 _ _ rfl rfl
      obtain ⟨i', v⟩ := q
      simp only at h1 h2
      subst h1
      simp only [fillE] at h
      cases hd : t.ofD d with
      | none => rw [hd] at h; cases h
      | some x =>
        rw [hd] at h
        simp only at h
        cases hb : Nat.blt i xs.length with
        | false => rw [hb] at h; cases h
        | true =>
          rw [hb] at h
          simp only [cond_true] at h
          have hi : i < xs.length := by
            have : i + 1 ≤ xs.length := by simpa [Nat.blt, Nat.ble_eq] using hb
            exact this
          obtain ⟨_, us, e1, e2, e3⟩ := ofD_spec hd h2
          subst e1
          have hlen : v.cells.size = t.size := by simpa using e2
          have hcl : cells.size = xs.length * t.size := by have := hl.1; simpa using this
          have hle : i * t.size + t.size ≤ xs.length * t.size := by
            have : (i + 1) * t.size ≤ xs.length * t.size := Nat.mul_le_mul_right _ hi
            rw [Nat.add_mul] at this; omega
          have hf : (v.cells.zipIdx.foldl (fun cs (c, j) => cs.setIfInBounds (i * t.size + j) c) cells).toList = spl cells.toList (i * t.size) v.cells.toList := by
            have := fold_spl v.cells.toList 0 (i * t.size) cells (by simp; omega)
            rw [← Array.foldl_toList, Array.toList_zipIdx]
            simpa using this
          have hl' : RowRep w O t (xs.set i x) (v.cells.zipIdx.foldl (fun cs (c, j) => cs.setIfInBounds (i * t.size + j) c) cells).toList := by
            rw [hf]; exact hl.set hi e2 e3
          obtain ⟨cells', f1, f2, f3⟩ := fillE_spec ps vs _ xs' _ h hl' ⟨by simpa using hp.1, fun j p q hj hq => hp.2 (j + 1) p q (by simpa using hj) (by simpa using hq)⟩
          refine ⟨cells', ?_, f2, by simpa using f3⟩
          unfold Instr.fill
          simp only
          have hno : ¬ (v.cells.size ≠ t.size ∨ i * t.size + v.cells.size > cells.size) := by
            rw [hlen, hcl]; omega
          rw [if_neg (by simpa using hno)]
          exact f1

theorem below_alloc' (w : World) (o : Go.Obj) : Below w.heap.size w (w.alloc o) := (Below.refl _ _).alloc (Nat.le_refl _) o
theorem cell_new (w : World) (cells : Array Value) (e : TypeId) (i : Nat) : (w.alloc (.cells cells e)).cell? ⟨w.heap.size, i, none⟩ = cells[i]? := by
  exact World.cell?_alloc_at cells e w.heap.size i rfl

theorem q_buildSlice (tt : ∀ t i, look T.tt t = some i → mkTI P t = some i) {env : Operand → AV} {ev : Operand → Value} (he : ∀ x, ARep w O ι (env x) (ev x)) {t len : Nat} {parts : Array (Nat × Operand)} {k : AV → Prop}
    (hO : ∀ b, O b → b < w.heap.size) (hk : qbuildSlice T t len (parts.toList.map fun p => (p.1, env p.2)) k) : Yields P w O h ι (Instr.buildSlice t len (parts.map fun (i, x) => (i, ev x))) k := by
  unfold qbuildSlice at hk
  split at hk
  · rename_i e ie hs
    obtain ⟨hu, hm⟩ := sliceE_spec tt hs
    obtain ⟨inf, h1, h2, h3, z, h4, h5⟩ := info_of hm
    generalize tyOf T.tt 6 e = ty at hk
    unfold qbs at hk
    split at hk
    · rename_i z0 hz0
      cases hc : (Nat.beq ie.size ty.size && Nat.blt 0 (len * ie.size) && Nat.ble (len * ie.size) 1000000) with
      | false => rw [hc] at hk; exact hk.elim
      | true =>
        rw [hc] at hk
        simp only [cond_true] at hk
        simp only [Bool.and_eq_true] at hc
        have hsz := Nat.eq_of_beq_eq_true hc.1.1
        have hpos := blt_pos hc.1.2
        have hsm := Nat.le_of_ble_eq_true hc.2
        split at hk
        · rename_i ds hds
          split at hk
          · rename_i xs hxs
            obtain ⟨p1, p2⟩ := partsD_spec he _ _ hds
            have hz : LRep w O ie.zero z.cells.toList := by rw [← h5]; exact constDs_rep w O _
            obtain ⟨us, ws, e1, e2, e3, e4⟩ := ofCells_spec ty _ _ _ _ hz0 hz
            have ew : ws = [] := by simpa [LRep] using e4
            subst ew
            simp only [List.append_nil] at e1
            subst e1
            have hzs : z.cells.size = ty.size := by simpa using e2
            have hpos' : 0 < ty.size := by rw [← hsz]; exact Nat.pos_of_ne_zero fun h => by rw [h] at hpos; simp at hpos
            have hrow := RowRep.replicate (n := len) hzs hpos' e3
            obtain ⟨cells, c1, c2, c3⟩ := fillE_spec (w := w) (O := O) ds (parts.toList.map fun p => (p.1, ev p.2)) _ xs (madeCells z.cells (len * ty.size)) hxs hrow ⟨by simp [p1], p2⟩
            have hlen : xs.length = len := by simpa using c3
            have hrun := run_buildSlice (P := P) w t e len (parts.map fun (i, x) => (i, ev x)) cells inf z hu h1 h4 (by rw [h2]; omega) (by rw [h2]; omega) (by
              rw [show (parts.map fun (i, x) => (i, ev x)).toList = parts.toList.map fun p => (p.1, ev p.2) by simp, h2, hsz]
              exact c1)
            refine ⟨.d (.slc true ty xs), _, _, hk, by simp [AV.ids], hrun, ?_, below_alloc' w _⟩
            have hb := below_alloc' w (.cells cells e)
            have c2' : RowRep (w.alloc (.cells cells e)) O ty xs cells.toList :=
              ⟨c2.1, fun j hj => ERep.imp (Keeps.of_below hb) ty _ _ _ _ _ (fun _ _ _ h => h) (c2.2 j hj)⟩
            have hs := c2'.srep (g := w.heap.size) (c := len) (by omega) (fun h => Nat.lt_irrefl _ (hO _ h)) (fun i u hu => by rw [cell_new]; simpa using hu)
            rw [hlen] at hs
            exact ⟨hs, fun _ => ⟨_, _, rfl⟩⟩
          · exact hk.elim
        · exact hk.elim
    · exact hk.elim
  · exact hk.elim

end
end Fw
