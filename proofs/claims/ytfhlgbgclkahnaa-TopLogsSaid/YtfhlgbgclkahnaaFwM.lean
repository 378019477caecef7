/- Every operation is sound. -/
import Derived.Test.YtfhlgbgclkahnaaFwL
set_option linter.unusedVariables false
set_option linter.unusedSimpArgs false
namespace Fw
open Go Go.RowKit

section
variable {P : Program} {T : Ctx} {w0 w : World} {O0 : Nat → Prop} {N : Nat} {A : AState} {ι : Nat → Value} {a : Act}

/-- What an operation that acts on objects comes to. -/
def Acts (P : Program) (w0 w : World) (O0 : Nat → Prop) (N : Nat) (A : AState) (ι : Nat → Value) (a : Act) (dst : Option Nat) (s : Sem Next) (k : WRes → Prop) : Prop :=
  ∃ r, k r ∧ ∃ ι' v w', (s.run P w = .ok (.value v) w' ∨ (s.run P w = .ok .skip w' ∧ v = undef)) ∧ Rel w0 O0 N (r.act A dst) ι' (a.put dst v) w' ∧ Keeps w (Own O0 A.heap ι) w' (Own O0 r.heap ι') ∧ w.heap.size ≤ w'.heap.size

theorem w_alloc (tok : Tok P T) (R : Rel w0 O0 N A ι a w) {dst : Option Nat} (hd : ∀ d, dst = some d → d < N) {d t : Nat} {i : TInf} (hfree : A.heap d = none) (hi : look T.tt t = some i) {k : WRes → Prop}
    (hk : k ⟨none, upd A.heap d (some (.box i.zero)), .ptr d 0⟩) : Acts P w0 w O0 N A ι a dst (do pure (.value (← Instr.alloc t true (.tuple #[])))) k := by
  obtain ⟨inf, h1, h2, h3, z, h4, h5⟩ := info_of (tok.tt _ _ hi)
  have hb := below_alloc' w (.cells z.cells t)
  obtain ⟨ι', R', K'⟩ := R.fresh hd hfree (o := .box i.zero) (hv := .pointer (some ⟨w.heap.size, 0, none⟩)) (v := .pointer (some ⟨w.heap.size, 0, none⟩)) (val := .ptr d 0) hb
    (fun O' k => ⟨_, z.cells, t, rfl, Nat.le_refl _, heap_alloc_new w _, by rw [← h5]; exact constDs_rep _ _ _⟩) (fun O' => ⟨w.heap.size, by rw [upd_eq, if_pos rfl], rfl⟩) (fun id hid => by simpa [AV.ids] using hid)
  refine ⟨_, hk, ι', _, _, .inl ?_, R', K', hb.size⟩
  simp [Instr.alloc, zeroValue, typeInfo, h1, h4, newVar, newRow]

theorem w_box (R : Rel w0 O0 N A ι a w) {dst : Option Nat} (hd : ∀ d, dst = some d → d < N) {d t : Nat} {x : D} {vx : Value} (hfree : A.heap d = none) (hs : x.solid = true) (hx : VRep w (Own O0 A.heap ι) x vx) {k : WRes → Prop}
    (hk : k ⟨none, upd A.heap d (some (.box x.cells)), .ptr d 0⟩) : Acts P w0 w O0 N A ι a dst (do pure (.value (← Instr.box t vx))) k := by
  have hb := below_alloc' w (.cells vx.cells t)
  obtain ⟨ι', R', K'⟩ := R.fresh hd hfree (o := .box x.cells) (hv := .pointer (some ⟨w.heap.size, 0, none⟩)) (v := .pointer (some ⟨w.heap.size, 0, none⟩)) (val := .ptr d 0) hb
    (fun O' k => ⟨_, vx.cells, t, rfl, Nat.le_refl _, heap_alloc_new w _, LRep.keeps k _ _ (D.cells_solid hx hs)⟩) (fun O' => ⟨w.heap.size, by rw [upd_eq, if_pos rfl], rfl⟩) (fun id hid => by simpa [AV.ids] using hid)
  refine ⟨_, hk, ι', _, _, .inl ?_, R', K', hb.size⟩
  simp [Instr.box, newVar, newRow]

theorem w_make (tok : Tok P T) (R : Rel w0 O0 N A ι a w) {dst : Option Nat} (hd : ∀ d, dst = some d → d < N) {d t : Nat} {l c : AV} {vl vc : Value} (hl : ARep w (Own O0 A.heap ι) ι l vl) (hc : ARep w (Own O0 A.heap ι) ι c vc) {k : WRes → Prop}
    (hk : wmake T t l c A.heap d k) : Acts P w0 w O0 N A ι a dst (do pure (.value (← Instr.makeSlice t vl vc))) k := by
  unfold wmake at hk
  split at hk
  · rename_i kl n kc m e ie hfree hs
    have hl' : vl = .int kl n := hl
    have hc' : vc = .int kc m := hc
    subst hl' hc'
    obtain ⟨hu, hm⟩ := sliceE_spec tok.tt hs
    obtain ⟨inf, h1, h2, h3, z, h4, h5⟩ := info_of hm
    generalize tyOf T.tt 6 e = ty at hk
    unfold wmk at hk
    split at hk
    · rename_i z0 hz0
      cases hcc : (Nat.beq ie.size ty.size && Nat.blt 0 ie.size && Nat.blt 0 ie.bytes) with
      | false => rw [hcc] at hk; exact hk.elim
      | true =>
        rw [hcc] at hk
        simp only [cond_true] at hk
        obtain ⟨hn, hnm, hbytes, hk⟩ := hk
        subst hnm
        simp only [Bool.and_eq_true] at hcc
        have hsz := Nat.eq_of_beq_eq_true hcc.1.1
        have hpos := blt_pos hcc.1.2
        have hbp := blt_pos hcc.2
        obtain ⟨n', rfl⟩ := Int.eq_ofNat_of_zero_le hn
        have hz : LRep w (Own O0 A.heap ι) ie.zero z.cells.toList := by rw [← h5]; exact constDs_rep w _ _
        obtain ⟨us, ws, e1, e2, e3, e4⟩ := ofCells_spec ty _ _ _ _ hz0 hz
        have ew : ws = [] := by simpa [LRep] using e4
        subst ew
        simp only [List.append_nil] at e1
        subst e1
        have hzs : z.cells.size = ty.size := by simpa using e2
        have hrow := RowRep.replicate (n := n') hzs (by omega) e3
        have hby : n' * ie.bytes ≤ 140737488355328 := by
          have : ((n' * ie.bytes : Nat) : Int) ≤ 140737488355328 := by push_cast; exact hbytes
          omega
        have hn47 : n' ≤ 140737488355328 := Nat.le_trans (Nat.le_mul_of_pos_right n' hbp) hby
        have hrun := run_make_full (P := P) w w.heap.size t e inf z ty.size hu h1 h4 (h2.trans hsz) kl kc n' (by rw [h3, Nat.mul_comm]; omega) (by unfold maxLen; omega) (Nat.le_refl _)
        obtain ⟨w', hr, hown, hg⟩ := hrun
        have hb : Below w.heap.size w w' := ⟨hg.os, hg.tape, hg.output, hg.size, fun k hk => hg.block k hk (by simp)⟩
        obtain ⟨ι', R', K'⟩ := R.fresh hd hfree (o := .row e ty (List.replicate n' z0)) (hv := .slice (some ⟨w.heap.size, 0, none⟩) n' n') (v := .slice (some ⟨w.heap.size, 0, none⟩) n' n') (val := .own d) hb
          (fun O' k => ⟨_, by simpa using hown, fun j hj => ERep.imp k ty _ _ _ _ _ (fun _ _ _ h => h) (hrow.2 j hj)⟩) (fun O' => by show _ = upd ι d _ d; rw [upd_eq, if_pos rfl]) (fun id hid => by simpa [AV.ids] using hid)
        exact ⟨_, hk, ι', _, _, .inl (by simp [hr]), R', K', hb.size⟩
    · exact hk.elim
  · exact hk.elim

/-! ### Stores -/
theorem spl_own {base e size n : Nat} {v : Value} {vs us : List Value} {g cap : Nat} (h : w.ownsRow base e size v n vs) (hv : v = .slice (some ⟨g, 0, none⟩) n cap) {off : Nat} (hle : off + us.length ≤ n * size)
    (h1 : ∀ u ∈ us, u.oneCell' = true) : ∃ w', (storeCells ⟨g, off, none⟩ us).run P w = .ok () w' ∧ w'.ownsRow base e size v n (spl vs off us) ∧
      (∀ k, k ≠ g → w'.heap[k]? = w.heap[k]?) ∧ w.heap.size ≤ w'.heap.size ∧ w'.os = w.os ∧ w'.tape = w.tape ∧ w'.output = w.output := by
  rcases h.2 with ⟨h2, _⟩ | ⟨g', cap', cur, h2, hg, hh, hnc, hcm, hcs, ht⟩
  · rw [hv] at h2; cases h2
  · rw [hv] at h2
    injection h2 with h3 h4 h5
    injection h3 with h3
    injection h3 with h3
    subst h3 h5
    have hfit : off + 0 + us.length ≤ cur.size := by
      have : n * size ≤ cap * size := Nat.mul_le_mul_right _ hnc
      omega
    have hst := run_storeCells_at P g off e us 0 cur w hh hfit h1
    simp only [Nat.add_zero] at hst
    refine ⟨_, hst, ⟨?_, .inr ⟨g, cap, _, hv, hg, setRow_heap w g cur _ e _ hh, hnc, hcm, ?_, ?_⟩⟩, fun k hk => setRow_other w g k _ hk, by simp, rfl, rfl, rfl⟩
    · rw [spl_length (by rw [h.1]; exact hle), h.1]
    · simp only [List.size_toArray, List.length_append, List.length_take, List.length_drop, Array.length_toList]
      omega
    · simp only [List.toList_toArray]
      have hvl : vs.length = n * size := h.1
      rw [← ht]
      unfold spl
      refine List.ext_getElem? fun i => ?_
      simp only [List.getElem?_take, List.getElem?_append, List.getElem?_drop, List.length_append, List.length_take, Array.length_toList]
      have e1 : min off cur.size = off := by omega
      have e2 : min off (min (n * size) cur.size) = off := by
        have : n * size ≤ cap * size := Nat.mul_le_mul_right _ hnc
        omega
      rw [e1, e2]
      by_cases hi : i < n * size
      · rw [if_pos hi]
        by_cases h1 : i < off + us.length
        · rw [if_pos h1, if_pos h1]
          by_cases h2 : i < off
          · rw [if_pos h2, if_pos h2, if_pos h2, if_pos h2, if_pos hi]
          · rw [if_neg h2, if_neg h2]
        · rw [if_neg h1, if_neg h1, if_pos (by omega)]
      · rw [if_neg hi, if_neg (by omega), if_neg (by omega)]

theorem spl_get {vs us : List Value} {off i : Nat} (h : off + us.length ≤ vs.length) : (spl vs off us)[i]? = if i < off then vs[i]? else if i < off + us.length then us[i - off]? else vs[i]? := by
  unfold spl
  have e1 : min off vs.length = off := by omega
  simp only [List.getElem?_append, List.length_append, List.length_take, List.getElem?_take, List.getElem?_drop, e1]
  by_cases h1 : i < off
  · simp [h1, show i < off + us.length by omega]
  · by_cases h2 : i < off + us.length
    · simp [h1, h2]
    · simp only [h1, h2, if_false]
      congr 1; omega
theorem spl_spl {vs us0 us : List Value} {p off : Nat} (h0 : p + us0.length ≤ vs.length) (h1 : off + us.length ≤ us0.length) (hget : ∀ m, m < us0.length → us0[m]? = vs[p + m]?) :
    spl vs p (spl us0 off us) = spl vs (p + off) us := by
  refine List.ext_getElem? fun i => ?_
  have hA := spl_get (vs := vs) (us := spl us0 off us) (off := p) (i := i) (by rw [spl_length h1]; exact h0)
  have hB := spl_get (vs := vs) (us := us) (off := p + off) (i := i) (by omega)
  have hC := spl_get (vs := us0) (us := us) (off := off) (i := i - p) h1
  rw [hA, hB, hC, spl_length h1]
  by_cases c1 : i < p
  · simp [c1, show i < p + off by omega]
  · rw [if_neg c1]
    by_cases c2 : i < p + us0.length
    · rw [if_pos c2]
      have e : p + (i - p) = i := by omega
      by_cases c3 : i < p + off
      · rw [if_pos (show i - p < off by omega), if_pos c3, hget _ (by omega), e]
      · rw [if_neg (show ¬ i - p < off by omega), if_neg c3]
        by_cases c4 : i < p + off + us.length
        · rw [if_pos (show i - p < off + us.length by omega), if_pos c4]
          congr 1; omega
        · rw [if_neg (show ¬ i - p < off + us.length by omega), if_neg c4, hget _ (by omega), e]
    · rw [if_neg c2, if_neg (by omega), if_neg (by omega)]

theorem w_store (tok : Tok P T) (R : Rel w0 O0 N A ι a w) {dst : Option Nat} (hd : ∀ d, dst = some d → d < N) {t : Nat} {i : TInf} {x y : AV} {vx vy : Value} (hx : ARep w (Own O0 A.heap ι) ι x vx) (hy : ARep w (Own O0 A.heap ι) ι y vy)
    (hi : look T.tt t = some i) {k : WRes → Prop} (hk : wstore x y A.heap i.size k) : Acts P w0 w O0 N A ι a dst (do Instr.storeAt t vx vy; pure .skip) k := by
  obtain ⟨inf, h1, h2, h3, z, h4, h5⟩ := info_of (tok.tt _ _ hi)
  unfold wstore at hk
  split at hk
  · rename_i v
    split at hk
    · rename_i id off
      split at hk
      · rename_i cs hid
        cases hc : (v.solid && v.cells.all D.one && Nat.beq v.cells.length i.size && Nat.ble (off + v.cells.length) cs.length) with
        | false => rw [hc] at hk; exact hk.elim
        | true =>
          rw [hc] at hk
          simp only [cond_true] at hk
          simp only [Bool.and_eq_true] at hc
          have hsz := Nat.eq_of_beq_eq_true hc.1.2
          have hle := Nat.le_of_ble_eq_true hc.2
          have hcells := D.cells_solid hy hc.1.1.1
          have hones := ones_rep hcells hc.1.1.2
          obtain ⟨b, hb, rfl⟩ := hx
          obtain ⟨b', vs, e, g1, g2, g3, g4⟩ := R.obj id _ hid
          have := ptr_inj hb g1
          subst this
          have hvl : vs.size = cs.length := by have := g4.length; simpa using this
          have hul : vy.cells.toList.length = v.cells.length := hcells.length
          have hst := run_storeCells_at P b off e vy.cells.toList 0 vs w g3 (by omega) hones
          simp only [Nat.add_zero] at hst
          have hrun : (Instr.storeAt t (.pointer (some ⟨b, off, none⟩)) vy).run P w = .ok () (w.setRow b (vs.toList.take off ++ vy.cells.toList ++ vs.toList.drop (off + vy.cells.toList.length)).toArray) := by
            have hsize : vy.cells.size = inf.size := by rw [h2, ← hsz]; simpa using hul
            simp [Instr.storeAt, Instr.sureAddr, storeVar, run_size h1, hsize]
            simpa [hsize] using hst
          have := R.change (dst := dst) hd hid (o' := .box (splice cs off v.cells)) (v := undef) (d := .val (.tuple #[])) (w' := w.setRow b (vs.toList.take off ++ vy.cells.toList ++ vs.toList.drop (off + vy.cells.toList.length)).toArray) (b := b)
            (by rw [g1]; simp [hblk]) (by rw [g1]; simp [hblk]) (fun k hk => setRow_other w b k _ hk) (by simp) rfl rfl rfl
            (fun O' kk => ⟨b, _, e, g1, g2, setRow_heap w b vs _ e _ g3, by
              have := (g4.splice hcells off)
              have := LRep.keeps kk _ _ this
              simpa [splice_eq, spl] using this⟩) (fun O' => rfl)
          exact ⟨_, hk, ι, undef, _, .inr ⟨by simp [hrun], rfl⟩, this.1, this.2, by simp⟩
      · exact hk.elim
    · rename_i id s ix off
      split at hk
      · rename_i e ty xs hid
        cases hc : (v.solid && v.cells.all D.one && Nat.beq s ty.size && Nat.beq v.cells.length i.size && Nat.ble (off + v.cells.length) ty.size) with
        | false => rw [hc] at hk; exact hk.elim
        | true =>
          rw [hc] at hk
          simp only [cond_true] at hk
          simp only [Bool.and_eq_true] at hc
          have hs := Nat.eq_of_beq_eq_true hc.1.1.2
          have hsz := Nat.eq_of_beq_eq_true hc.1.2
          have hle := Nat.le_of_ble_eq_true hc.2
          have hcells := D.cells_solid hy hc.1.1.1.1
          have hones := ones_rep hcells hc.1.1.1.2
          subst hs
          obtain ⟨h0, hlt, hk⟩ := hk
          obtain ⟨b, n, c, hb, rfl⟩ := hx
          obtain ⟨vs, o1, o2⟩ := R.obj id _ hid
          have hul : vy.cells.toList.length = v.cells.length := hcells.length
          have hj : ix.toNat < xs.length := by omega
          have hrd : rd ty xs ix = xs[ix.toNat] := by simp [rd, List.getD_eq_getElem?_getD, List.getElem?_eq_getElem hj]
          have hnx : ι id = .slice (some ⟨b, 0, none⟩) xs.length c := by
            rcases o1.2 with ⟨h9, _⟩ | ⟨g, cap, cur, h9, _⟩
            · rw [hb] at h9; cases h9
            · rw [hb] at h9 ⊢; injection h9 with q1 q2 q3; subst q2; rfl
          have hseg : ix.toNat * ty.size + ty.size ≤ xs.length * ty.size := by
            have : (ix.toNat + 1) * ty.size ≤ xs.length * ty.size := Nat.mul_le_mul_right _ hj
            rw [Nat.add_mul] at this; omega
          obtain ⟨w', hst, hown, hs1, hs2, hs3, hs4, hs5⟩ := spl_own (P := P) o1 hnx (off := ix.toNat * ty.size + off) (us := vy.cells.toList) (by omega) hones
          have hrun : (Instr.storeAt t (.pointer (some ⟨b, ix.toNat * ty.size + off, none⟩)) vy).run P w = .ok () w' := by
            have hsize : vy.cells.size = inf.size := by rw [h2, ← hsz]; simpa using hul
            simp [Instr.storeAt, Instr.sureAddr, storeVar, run_size h1, hsize, hst]
          -- the element that is there now
          have hrow : RowRep w (Own O0 A.heap ι) ty xs vs := ⟨o1.1, o2⟩
          split at hk
          · rename_i y hyv
            have hnewrow : RowRep w (Own O0 A.heap ι) ty (xs.set ix.toNat y) (spl vs (ix.toNat * ty.size + off) vy.cells.toList) := by
              cases hfull : Nat.beq i.size ty.size with
              | true =>
                rw [hfull] at hyv
                simp only [cond_true] at hyv
                have hfs := Nat.eq_of_beq_eq_true hfull
                have hoff : off = 0 := by omega
                subst hoff
                obtain ⟨us, ws, q1, q2, q3, q4⟩ := ofCells_spec ty _ _ _ _ hyv hcells
                have ew : ws = [] := by simpa [LRep] using q4
                subst ew
                simp only [List.append_nil] at q1
                rw [q1]
                exact hrow.set hj q2 q3
              | false =>
                rw [hfull] at hyv
                simp only [cond_false] at hyv
                obtain ⟨us0, p1, p2⟩ := ERep.cells ty _ _ _ (o2 _ hj)
                have hul0 : us0.length = ty.size := by rw [p1.length, cells_length]
                have hsp := p1.splice hcells off
                rw [← splice_eq] at hsp
                rw [hrd] at hyv
                obtain ⟨us, ws, q1, q2, q3, q4⟩ := ofCells_spec ty _ _ _ _ hyv hsp
                have ew : ws = [] := by simpa [LRep] using q4
                subst ew
                simp only [List.append_nil] at q1
                have hrow2 := hrow.set hj q2 q3
                have hsame : spl vs (ix.toNat * ty.size) us = spl vs (ix.toNat * ty.size + off) vy.cells.toList := by
                  rw [← q1]
                  have hvl : vs.length = xs.length * ty.size := o1.1
                  refine spl_spl (by omega) (by omega) fun m hm => ?_
                  have := p2 m us0[m] (List.getElem?_eq_getElem hm)
                  unfold Fw.lat at this
                  rw [this, List.getElem?_eq_getElem]
                rw [← hsame]; exact hrow2
            have := R.change (dst := dst) hd hid (o' := .row e ty (xs.set ix.toNat y)) (v := undef) (d := .val (.tuple #[])) (w' := w') (b := b)
              (by rw [hnx]; simp [hblk]) (by rw [hnx]; simp [hblk]) hs1 hs2 hs3 hs4 hs5
              (fun O' kk => ⟨_, by simpa using hown, (hnewrow.keeps kk).2⟩) (fun O' => rfl)
            exact ⟨_, hk, ι, undef, _, .inr ⟨by simp [hrun], rfl⟩, this.1, this.2, hs2⟩
          · exact hk.elim
      · exact hk.elim
    · exact hk.elim
  · exact hk.elim

end
end Fw
