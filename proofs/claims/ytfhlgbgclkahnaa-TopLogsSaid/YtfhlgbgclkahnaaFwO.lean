/- Every operation is sound: copies, cuts; a step; a step with its guard. -/
import Derived.Test.YtfhlgbgclkahnaaFwN
set_option linter.unusedVariables false
set_option linter.unusedSimpArgs false
namespace Fw
open Go Go.RowKit

section
variable {P : Program} {T : Ctx} {w0 w : World} {O0 : Nat → Prop} {N : Nat} {A : AState} {ι : Nat → Value} {a : Act}

theorem RowRep.drop {O : Nat → Prop} {t : Ty} {xs : List t.El} {vs : List Value} (h : RowRep w O t xs vs) (n : Nat) : RowRep w O t (xs.drop n) (vs.drop (n * t.size)) := by
  refine ⟨by simp [h.1, Nat.sub_mul], fun j hj => ?_⟩
  have hj' : n + j < xs.length := by simp at hj; omega
  rw [List.getElem_drop]
  refine (h.2 _ hj').lat fun i hi => ?_
  rw [List.getElem?_drop]
  congr 1
  rw [Nat.add_mul]; omega

theorem w_cut (tok : Tok P T) (R : Rel w0 O0 N A ι a w) {dst : Option Nat} (hd : ∀ d, dst = some d → d < N) {d t : Nat} {x : AV} {vx : Value} {lo hi mx : Option AV} {vlo vhi vmx : Option Value} (hx : ARep w (Own O0 A.heap ι) ι x vx)
    (hlo' : lo = none → vlo = none) (hhi : ∀ y, hi = some y → ∃ u, vhi = some u ∧ ARep w (Own O0 A.heap ι) ι y u) (hmx' : mx = none → vmx = none) {k : WRes → Prop}
    (hk : wcut T t x lo hi mx A.heap d k) : Acts P w0 w O0 N A ι a dst (do pure (.value (← Instr.sliceAt t vx vlo vhi vmx))) k := by
  unfold wcut at hk
  split at hk
  · rename_i kd n
    obtain rfl := hlo' rfl
    obtain rfl := hmx' rfl
    obtain ⟨u, rfl, hu⟩ := hhi _ rfl
    have hu' : u = .int kd n := hu
    subst hu'
    split at hk
    · rename_i id
      split at hk
      · rename_i e ty xs hid
        cases hse : sliceE T t with
        | none => rw [hse] at hk; exact hk.elim
        | some p =>
        obtain ⟨e1, ie⟩ := p
        rw [hse] at hk
        simp only at hk
        obtain ⟨hut, hm⟩ := sliceE_spec tok.tt hse
        obtain ⟨inf, h1, _⟩ := info_of hm
        cases hc : okId A.heap id d with
        | false => rw [hc] at hk; exact hk.elim
        | true =>
          rw [hc] at hk
          simp only [cond_true] at hk
          obtain ⟨h0, hle, hk⟩ := hk
          have hv : vx = ι id := hx
          subst hv
          obtain ⟨vs, o1, o2⟩ := R.obj id _ hid
          have hcap : ∃ b c, ι id = .slice b xs.length c ∧ xs.length ≤ c := by
            rcases o1.2 with ⟨h5, h6⟩ | ⟨g, cap, cur, h5, _, _, h6, _⟩
            · exact ⟨none, 0, by rw [h5, h6], by omega⟩
            · exact ⟨_, _, h5, h6⟩
          obtain ⟨b, c, hv, hxc⟩ := hcap
          have hrun : (Instr.sliceAt t (ι id) none (some (.int kd n)) none).run P w = .ok (.slice b n.toNat c) w := by
            rw [hv]
            have hbd : (Instr.sliceBound (.int kd n) c .sliceAcap).run P w = .ok n.toNat w := run_bound h0 (by omega)
            have hz : ∀ a : Option Addr, a.map (fun x => x.add 0) = a := fun a => by cases a <;> simp [Addr.add]
            simp [Instr.sliceAt, run_underlying hut, Instr.slice, Instr.sliceBounds, hbd, run_size h1, hz]
          have hn : n.toNat ≤ xs.length := by omega
          have hlen : (xs.take n.toNat).length = n.toNat := by simp; omega
          have hown : w.ownsRow w0.heap.size e ty.size (.slice b n.toNat c) (xs.take n.toNat).length (vs.take (n.toNat * ty.size)) := by
            rw [hlen]
            have hr := (RowRep.take (w := w) ⟨o1.1, o2⟩ n.toNat hn).1
            rw [hlen] at hr
            refine ⟨hr, ?_⟩
            rcases o1.2 with ⟨h5, h6⟩ | ⟨g, cap, cur, h5, h7, h8, h9, h10, h11, h12⟩
            · left
              rw [hv] at h5
              injection h5 with q1 q2 q3
              subst q1 q3
              have : n.toNat = 0 := by omega
              rw [this]; exact ⟨rfl, rfl⟩
            · right
              rw [hv] at h5
              injection h5 with q1 q2 q3
              subst q1 q3
              refine ⟨g, c, cur, rfl, h7, h8, by omega, h10, h11, ?_⟩
              rw [← h12, List.take_take, Nat.min_eq_left (Nat.mul_le_mul_right _ hn)]
          have hblk' : hblk (.slice b n.toNat c) = hblk (ι id) := by rw [hv]; cases b <;> rfl
          obtain ⟨ι', R', K'⟩ := R.consume hd hid hc (o' := .row e ty (xs.take n.toNat)) (hv := .slice b n.toNat c) (v := .slice b n.toNat c) (val := .own d) (w' := w)
            (fun _ _ _ => rfl) (Nat.le_refl _) rfl rfl rfl (fun O' kk => ⟨_, hown, ((RowRep.take (w := w) ⟨o1.1, o2⟩ n.toNat hn).keeps kk).2⟩)
            (fun b' hb' => .inl (by rw [← hblk']; exact hb')) (fun O' => by show _ = upd ι d _ d; rw [upd_eq, if_pos rfl]) (fun i hi => by simpa [AV.ids] using hi)
          exact ⟨_, hk, ι', _, _, .inl (by simp [hrun]), R', K', Nat.le_refl _⟩
      · exact hk.elim
    · exact hk.elim
  · exact hk.elim

theorem w_copy (tok : Tok P T) (R : Rel w0 O0 N A ι a w) {dst : Option Nat} (hd : ∀ d, dst = some d → d < N) {ts tx : Nat} {ty : TypeId} {cs : Array Bool} {s x : AV} {vs vx : Value} (hs : ARep w (Own O0 A.heap ι) ι s vs) (hx : ARep w (Own O0 A.heap ι) ι x vx) {k : WRes → Prop}
    (hk : wcopy T ts tx s x A.heap k) : Acts P w0 w O0 N A ι a dst (builtin .copy #[ts, tx] ty cs #[vs, vx]) k := by
  unfold wcopy at hk
  split at hk
  · rename_i e ie hse
    obtain ⟨hu, hm⟩ := sliceE_spec tok.tt hse
    obtain ⟨inf, h1, h2, h3, _⟩ := info_of hm
    cases hst : isSliceT T tx with
    | false => rw [hst] at hk; exact hk.elim
    | true =>
      rw [hst] at hk
      simp only [cond_true] at hk
      split at hk
      · rename_i id
        split at hk
        · rename_i e' t xs hid
          cases hc : (Nat.beq ie.size t.size && Nat.blt 0 ie.size) with
          | false => rw [hc] at hk; exact hk.elim
          | true =>
            rw [hc] at hk
            simp only [cond_true] at hk
            simp only [Bool.and_eq_true] at hc
            have hsz := Nat.eq_of_beq_eq_true hc.1
            have hpos := blt_pos hc.2
            obtain ⟨ys, us, p, c, hk, rfl, hrow, hsrc⟩ := elems_spec R hx hk
            obtain ⟨ws, o1, o2⟩ := R.obj id _ hid
            have hvs : vs = ι id := hs
            subst hvs
            have hxrow : RowRep w (Own O0 A.heap ι) t xs ws := ⟨o1.1, o2⟩
            -- how many
            have hn : ∃ n, n = Nat.min ys.length xs.length := ⟨_, rfl⟩
            obtain ⟨n, hn⟩ := hn
            have hn' : (ys.length ≤ xs.length ∧ n = ys.length) ∨ (xs.length < ys.length ∧ n = xs.length) := by
              have : n = min ys.length xs.length := hn
              omega
            have hn1 : n ≤ ys.length := by omega
            have hn2 : n ≤ xs.length := by omega
            have hlen : (us.take (n * t.size)).length = n * t.size := by
              have : n * t.size ≤ us.length := by rw [hrow.1]; exact Nat.mul_le_mul_right _ hn1
              simp; omega
            have hcells : (Builtin.firstCells inf.size n (.slice p ys.length c)).run P w = .ok (us.take (n * t.size)).toArray w := by
              by_cases h0 : 0 < ys.length
              · obtain ⟨ad, rfl, hcell⟩ := hsrc h0
                have := run_loadCells_list (P := P) (w := w) ad (us.take (n * t.size)) (fun j u hj => hcell j u (by rw [List.getElem?_take] at hj; split at hj <;> simp_all))
                rw [hlen] at this
                simpa [Builtin.firstCells, h2, hsz] using this
              · have hn0 : n = 0 := by omega
                subst hn0
                cases p <;> simp [Builtin.firstCells, loadCells, loadCellsFrom]
            have hnewrow : RowRep w (Own O0 A.heap ι) t (ys.take xs.length ++ xs.drop ys.length) (spl ws 0 (us.take (n * t.size))) := by
              have e1 : ys.take xs.length = ys.take n := by
                rcases hn' with ⟨h, h'⟩ | ⟨h, h'⟩
                · rw [List.take_of_length_le h, h', List.take_length]
                · rw [h']
              have e2 : xs.drop ys.length = xs.drop n := by
                rcases hn' with ⟨h, h'⟩ | ⟨h, h'⟩
                · rw [h']
                · rw [h', List.drop_of_length_le (by omega), List.drop_of_length_le (by omega)]
              rw [e1, e2]
              have := (hrow.take n hn1).append (hxrow.drop n)
              unfold spl
              rw [hlen]
              simpa using this
            have hval : (if ys.length ≤ xs.length then (ys.length : Int) else xs.length) = (n : Int) := by
              split <;> omega
            rcases o1.2 with ⟨h5, h6⟩ | ⟨g, cap, cur, h5, _⟩
            · -- nothing to copy to
              have hn0 : n = 0 := by omega
              have hrun : (builtin .copy #[ts, tx] ty cs #[ι id, .slice p ys.length c]).run P w = .ok (.value (goInt n)) w := by
                rw [h5]
                have hmin : Nat.min ys.length 0 = 0 := by simp
                have : (Builtin.firstCells inf.size 0 (.slice p ys.length c)).run P w = .ok #[] w := by rw [← hn0, hcells, hn0]; simp
                simp [builtin, Builtin.copy_, run_underlying hu, Builtin.lenOf, run_size h1, this, hn0]
              have := R.change (dst := dst) hd hid (o' := .row e' t (ys.take xs.length ++ xs.drop ys.length)) (v := goInt n) (d := .int .i64 (if ys.length ≤ xs.length then (ys.length : Int) else xs.length)) (w' := w) (b := 0)
                (by rw [h5]; simp [hblk]) (fun _ => rfl) (fun _ _ => rfl) (Nat.le_refl _) rfl rfl rfl
                (fun O' kk => ⟨spl ws 0 (us.take (n * t.size)), by
                  have hx0 : xs = [] := List.eq_nil_of_length_eq_zero h6
                  refine ⟨hnewrow.1, .inl ⟨h5, ?_⟩⟩
                  subst hx0; simp, (hnewrow.keeps kk).2⟩) (fun O' => by rw [hval]; rfl)
              exact ⟨_, hk, ι, _, _, .inl hrun, this.1, this.2, Nat.le_refl _⟩
            · obtain ⟨w', hstore, hown, hs1, hs2, hs3, hs4, hs5⟩ := spl_own (P := P) o1 h5 (off := 0) (us := us.take (n * t.size)) (by rw [hlen, Nat.zero_add]; exact Nat.mul_le_mul_right _ hn2)
                (fun u hu => hrow.one (by omega) u (List.mem_of_mem_take hu))
              have hrun : (builtin .copy #[ts, tx] ty cs #[ι id, .slice p ys.length c]).run P w = .ok (.value (goInt n)) w' := by
                rw [h5]
                simp only [builtin, Builtin.copy_]
                simp [run_underlying hu, Builtin.lenOf, run_size h1]
                rw [show ys.length.min xs.length = n from hn.symm, hcells]
                simp
                rw [hstore]
                simp
              have hlen2 : (ys.take xs.length ++ xs.drop ys.length).length = xs.length := by
                simp; omega
              have := R.change (dst := dst) hd hid (o' := .row e' t (ys.take xs.length ++ xs.drop ys.length)) (v := goInt n) (d := .int .i64 (if ys.length ≤ xs.length then (ys.length : Int) else xs.length)) (w' := w') (b := g)
                (by rw [h5]; simp [hblk]) (by rw [h5]; simp [hblk]) hs1 hs2 hs3 hs4 hs5
                (fun O' kk => ⟨spl ws 0 (us.take (n * t.size)), by rw [hlen2]; exact hown, (hnewrow.keeps kk).2⟩) (fun O' => by rw [hval]; rfl)
              exact ⟨_, hk, ι, _, _, .inl hrun, this.1, this.2, hs2⟩
        · exact hk.elim
      · exact hk.elim
  · exact hk.elim

end
end Fw
