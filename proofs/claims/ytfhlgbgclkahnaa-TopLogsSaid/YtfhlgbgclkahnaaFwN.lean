/- Every operation is sound: appends, copies, cuts; a step. -/
import Derived.Test.YtfhlgbgclkahnaaFwM
set_option linter.unusedVariables false
set_option linter.unusedSimpArgs false
namespace Fw
open Go Go.RowKit

section
variable {P : Program} {T : Ctx} {w0 w : World} {O0 : Nat → Prop} {N : Nat} {A : AState} {ι : Nat → Value} {a : Act}

theorem append_ty {ts tx ty e e2 : TypeId} (hs : P.underlying ts = some (.slice e)) (hx : P.underlying tx = some (.slice e2)) (b p : Option Addr) (n c m c' : Nat) :
    (Builtin.append_ #[ts, tx] ty #[.slice b n c, .slice p m c']).run P w = (Builtin.append_ #[ts, ts] ty #[.slice b n c, .slice p m c']).run P w := by
  unfold Builtin.append_
  simp [run_underlying hs, run_underlying hx]

theorem own_slice {base e size n : Nat} {v : Value} {vs : List Value} (h : w.ownsRow base e size v n vs) : ∃ b c, v = .slice b n c := by
  rcases h.2 with ⟨h1, h2⟩ | ⟨g, cap, cur, h1, _⟩
  · exact ⟨none, 0, by rw [h1, h2]⟩
  · exact ⟨_, _, h1⟩
theorem own_base {base base' e size n : Nat} {v : Value} {vs : List Value} (h : w.ownsRow base e size v n vs) (hb : base' ≤ base) : w.ownsRow base' e size v n vs := by
  refine ⟨h.1, h.2.imp id ?_⟩
  rintro ⟨g, cap, cur, h1, h2, h3⟩
  exact ⟨g, cap, cur, h1, Nat.le_trans hb h2, h3⟩

theorem run_append_zero {base ts ty e size n : Nat} {inf : TypeInfo} {v : Value} {vs : List Value} (hs : P.underlying ts = some (.slice e)) (hi : P.info? e = some inf) (hown : w.ownsRow base e size v n vs) (p : Option Addr) (c : Nat) :
    (Builtin.append_ #[ts, ts] ty #[v, .slice p 0 c]).run P w = .ok v w := by
  rcases hown.2 with ⟨rfl, rfl⟩ | ⟨g, cap, cur, rfl, _, _, hnc, _⟩
  · cases p <;> simp [Builtin.append_, run_underlying hs, Go.sizeOf, typeInfo, hi, Builtin.lenOf, Builtin.firstCells, loadCells, loadCellsFrom, storeCells]
  · cases p <;> simp [Builtin.append_, run_underlying hs, Go.sizeOf, typeInfo, hi, Builtin.lenOf, Builtin.firstCells, hnc, loadCells, loadCellsFrom, storeCells]

/-- An append to a row of the call's own, or to nil. -/
theorem run_append {base ts tx ty e e2 : TypeId} {ie : TInf} {t : Ty} {v : Value} {xs ys : List t.El} {vs us : List Value} {p : Option Addr} {c : Nat} {O : Nat → Prop} (hs : P.underlying ts = some (.slice e)) (hx : P.underlying tx = some (.slice e2)) (hm : mkTI P e = some ie)
    (hsz : ie.size = t.size) (hpos : 0 < ie.size) (hbp : 0 < ie.bytes) (hown : w.ownsRow base e t.size v xs.length vs) (hbase : base ≤ w.heap.size)
    (hrow : RowRep w O t ys us) (hsrc : 0 < ys.length → ∃ ad, p = some ad ∧ ∀ j u, us[j]? = some u → w.cell? (ad.add j) = some u)
    (hbytes : ((xs.length : Int) + ys.length) * ie.bytes ≤ 140737488355328) :
    ∃ v' w', (Builtin.append_ #[ts, tx] ty #[v, .slice p ys.length c]).run P w = .ok v' w' ∧ w'.ownsRow base e t.size v' (xs ++ ys).length (vs ++ us) ∧ w.grownBy w' v.ownBlock ∧
      (∀ b, hblk v' = some b → hblk v = some b ∨ w.heap.size ≤ b) := by
  obtain ⟨inf, h1, h2, h3, z, h4, h5⟩ := info_of hm
  by_cases h0 : 0 < ys.length
  · obtain ⟨ad, rfl, hcell⟩ := hsrc h0
    have hby : (xs.length + ys.length) * ie.bytes ≤ 140737488355328 := by
      have : (((xs.length + ys.length) * ie.bytes : Nat) : Int) ≤ 140737488355328 := by push_cast; exact hbytes
      omega
    have hle : xs.length + ys.length ≤ 140737488355328 := Nat.le_trans (Nat.le_mul_of_pos_right _ hbp) hby
    have hzs : z.cells.size = inf.size := mkTI_zero hm h1 h4
    have key : ∀ base, w.ownsRow base e t.size v xs.length vs → base ≤ w.heap.size → _ := fun base hown hbase =>
      run_append_own (P := P) w base ts ty e inf z t.size ie.bytes hs h1 h4 (h2.trans hsz) h3 (by rw [hzs, h2, hsz]) (by omega) v xs.length vs hown ad ys.length c us hrow.1 hcell (hrow.one (by omega)) (by unfold maxLen; omega) hby hbase
    rcases hown.2 with ⟨rfl, hn0⟩ | ⟨g, cap, cur, rfl, hbg, hg, hnc, hcm, hcs, htake⟩
    · obtain ⟨v', w', hr, ho, hgr, _⟩ := key w.heap.size ⟨hown.1, .inl ⟨rfl, hn0⟩⟩ (Nat.le_refl _)
      refine ⟨v', w', by rw [append_ty hs hx]; exact hr, by simpa using own_base ho hbase, hgr, fun b hb => .inr ?_⟩
      rcases ho.2 with ⟨rfl, _⟩ | ⟨g, cap, cur, rfl, h9, _⟩
      · simp [hblk] at hb
      · have : g = b := by simpa [hblk] using hb
        omega
    · obtain ⟨v', w', hr, ho, hgr, _⟩ := key base hown hbase
      refine ⟨v', w', by rw [append_ty hs hx]; exact hr, by simpa using ho, hgr, fun b hb => ?_⟩
      by_cases hroom : xs.length + ys.length ≤ cap
      · have hfit : xs.length * inf.size + us.length ≤ cur.size := by
          rw [hrow.1, hcs, h2, hsz, ← Nat.add_mul]; exact Nat.mul_le_mul_right _ hroom
        have hr2 := run_append_room (P := P) w ts ty e inf hs h1 g xs.length cap cur hg ad ys.length c us (by rw [hrow.1, h2, hsz]) hcell (hrow.one (by omega)) hroom hfit
        rw [hr2] at hr
        injection hr with hr3 hr4
        subst hr3
        exact .inl hb
      · have holds : ∀ j u, vs[j]? = some u → w.cell? ((⟨g, 0, none⟩ : Addr).add j) = some u := hown.cells (g := g) rfl
        have hr2 := run_append_grow (P := P) w ts ty e inf z hs h1 h4 ⟨g, 0, none⟩ xs.length cap vs (by rw [hown.1, h2, hsz]) holds ad ys.length c us (by rw [hrow.1, h2, hsz]) hcell (by omega) (by omega) (by rw [h3]; exact growslice_fits (by omega) hby)
        rw [hr2] at hr
        injection hr with hr3 hr4
        subst hr3
        right
        have : w.heap.size = b := by simpa [hblk] using hb
        omega
  · have hy : ys = [] := List.eq_nil_of_length_eq_zero (by omega)
    subst hy
    have hu : us = [] := List.eq_nil_of_length_eq_zero (by simpa using hrow.1)
    subst hu
    obtain ⟨b0, c0, rfl⟩ := own_slice hown
    refine ⟨_, w, by rw [append_ty hs hx]; exact run_append_zero hs h1 hown p c, by simpa using hown, ⟨rfl, rfl, rfl, Nat.le_refl _, fun _ _ _ => rfl⟩, fun b hb => .inl hb⟩

theorem own_hblk {v : Value} (h : ∃ b n c, v = .slice b n c) : hblk v = v.ownBlock := by
  obtain ⟨b, n, c, rfl⟩ := h
  cases b <;> rfl

theorem w_append (tok : Tok P T) (R : Rel w0 O0 N A ι a w) {dst : Option Nat} (hd : ∀ d, dst = some d → d < N) {d ts tx : Nat} {ty : TypeId} {cs : Array Bool} {s x : AV} {vs vx : Value} (hs : ARep w (Own O0 A.heap ι) ι s vs) (hx : ARep w (Own O0 A.heap ι) ι x vx) {k : WRes → Prop}
    (hk : wappend T ts tx s x A.heap d k) : Acts P w0 w O0 N A ι a dst (builtin .append #[ts, tx] ty cs #[vs, vx]) k := by
  unfold wappend at hk
  split at hk
  · rename_i e ie hse
    obtain ⟨hu, hm⟩ := sliceE_spec tok.tt hse
    cases hst : isSliceT T tx with
    | false => rw [hst] at hk; exact hk.elim
    | true =>
      rw [hst] at hk
      simp only [cond_true] at hk
      obtain ⟨e2, hux⟩ := isSliceT_spec tok.tt hst
      split at hk
      · rename_i id
        split at hk
        · rename_i e' t xs hid
          cases hc : (okId A.heap id d && Nat.beq e e' && Nat.beq ie.size t.size && Nat.blt 0 ie.size && Nat.blt 0 ie.bytes) with
          | false => rw [hc] at hk; exact hk.elim
          | true =>
            rw [hc] at hk
            simp only [cond_true] at hk
            simp only [Bool.and_eq_true] at hc
            have hee := Nat.eq_of_beq_eq_true hc.1.1.1.2
            have hsz := Nat.eq_of_beq_eq_true hc.1.1.2
            have hpos := blt_pos hc.1.2
            have hbp := blt_pos hc.2
            subst hee
            obtain ⟨ys, us, p, c, ⟨hbytes, hk⟩, rfl, hrow, hsrc⟩ := elems_spec R hx hk
            obtain ⟨ws, o1, o2⟩ := R.obj id _ hid
            have hvs : vs = ι id := hs
            subst hvs
            obtain ⟨v', w', hr, ho, hg, hnew⟩ := run_append (P := P) (ty := ty) (c := c) hu hux hm hsz hpos hbp o1 R.below.size hrow hsrc hbytes
            obtain ⟨b0, c0, hv0⟩ := own_slice o1
            have hob : hblk (ι id) = (ι id).ownBlock := own_hblk ⟨_, _, _, hv0⟩
            obtain ⟨ι', R', K'⟩ := R.consume hd hid hc.1.1.1.1 (o' := .row e t (xs ++ ys)) (hv := v') (v := v') (val := .own d) (w' := w')
              (fun k hk h => hg.block k hk (by rw [← hob]; exact fun e => h e.symm)) hg.size hg.os hg.tape hg.output
              (fun O' kk => ⟨_, ho, ((RowRep.append ⟨o1.1, o2⟩ hrow).keeps kk).2⟩) hnew (fun O' => by show _ = upd ι d _ d; rw [upd_eq, if_pos rfl]) (fun i hi => by simpa [AV.ids] using hi)
            exact ⟨_, hk, ι', v', w', .inl (by simp [builtin, hr]), R', K', hg.size⟩
        · exact hk.elim
      · split at hk
        · rename_i hfree
          generalize tyOf T.tt 6 e = t at hk
          unfold wapn at hk
          cases hc : (Nat.beq ie.size t.size && Nat.blt 0 ie.size && Nat.blt 0 ie.bytes) with
          | false => rw [hc] at hk; exact hk.elim
          | true =>
            rw [hc] at hk
            simp only [cond_true] at hk
            simp only [Bool.and_eq_true] at hc
            have hsz := Nat.eq_of_beq_eq_true hc.1.1
            have hpos := blt_pos hc.1.2
            have hbp := blt_pos hc.2
            obtain ⟨ys, us, p, c, ⟨hbytes, hk⟩, rfl, hrow, hsrc⟩ := elems_spec R hx hk
            have hvs : vs = .slice none 0 0 := hs
            subst hvs
            obtain ⟨v', w', hr, ho, hg, hnew⟩ := run_append (P := P) (ty := ty) (c := c) (xs := ([] : List t.El)) (vs := []) (base := w.heap.size) hu hux hm hsz hpos hbp (by exact ⟨by simp, .inl ⟨rfl, rfl⟩⟩) (Nat.le_refl _) hrow hsrc (by simpa using hbytes)
            have hb : Below w.heap.size w w' := ⟨hg.os, hg.tape, hg.output, hg.size, fun k hk => hg.block k hk (by simp [Value.ownBlock])⟩
            obtain ⟨ι', R', K'⟩ := R.fresh hd hfree (o := .row e t ys) (hv := v') (v := v') (val := .own d) hb
              (fun O' kk => ⟨_, by simpa using ho, (hrow.keeps kk).2⟩) (fun O' => by show _ = upd ι d _ d; rw [upd_eq, if_pos rfl]) (fun i hi => by simpa [AV.ids] using hi)
            exact ⟨_, hk, ι', v', w', .inl (by simp [builtin, hr]), R', K', hg.size⟩
        · exact hk.elim
      · exact hk.elim
  · exact hk.elim

end
end Fw
