import Derived.Lib.OthersKept
import Derived.Orders
import Derived.LoopN
import Derived.Test.YtfggmdgegfadkaaDoorProg
import Derived.Test.YtfggmdgegfadkaaDoorChecked
import Derived.Test.YtfggmdgegfadkaaDoorM1
section
/- Every operation is sound: copies, cuts; a step; a step with its guard. -/
set_option linter.unusedVariables false
set_option linter.unusedSimpArgs false
namespace Fw
open Go Go.RowKit

section
variable {P : Program} {T : Ctx} {F : Fr} {w0 w : World} {O0 : Nat → Prop} {N : Nat} {A : AState} {ι : Nat → Value} {a : Act}

theorem RowRep.drop {O : Nat → Prop} {t : Ty} {xs : List t.El} {vs : List Value} (h : RowRep w O t xs vs) (n : Nat) : RowRep w O t (xs.drop n) (vs.drop (n * t.size)) := by
  refine ⟨by simp [h.1, Nat.sub_mul], fun j hj => ?_⟩
  have hj' : n + j < xs.length := by simp at hj; omega
  rw [List.getElem_drop]
  refine (h.2 _ hj').lat fun i hi => ?_
  rw [List.getElem?_drop]
  congr 1
  rw [Nat.add_mul]; omega

theorem w_cut (tok : Tok P T) (R : Rel T F w0 O0 N A ι a w) {dst : Option Nat} (hd : ∀ d, dst = some d → d < N) {d t : Nat} (hdb : T.base ≤ d ∧ d < T.base + 2000000) {x : AV} {vx : Value} {lo hi mx : Option AV} {vlo vhi vmx : Option Value} (hx : ARep w (Own O0 A.heap ι) ι x vx)
    (hlo' : lo = none → vlo = none) (hhi : ∀ y, hi = some y → ∃ u, vhi = some u ∧ ARep w (Own O0 A.heap ι) ι y u) (hmx' : mx = none → vmx = none) {k : WRes → Prop}
    (hk : wcut T t x lo hi mx A.heap d k) : Acts P T F w0 w O0 N A ι a dst (do pure (.value (← Instr.sliceAt t vx vlo vhi vmx))) k := by
  unfold wcut at hk
  split at hk
  · rename_i kd n
    obtain rfl := hlo' rfl
    obtain rfl := hmx' rfl
    obtain ⟨u, rfl, hu⟩ := hhi _ rfl
    have hu' : u = .int kd n := hu
    subst hu'
    split at hk
    · rename_i id
      split at hk
      · rename_i e ty xs hid
        cases hse : sliceE T t with
        | none => rw [hse] at hk; exact hk.elim
        | some p =>
        obtain ⟨e1, ie⟩ := p
        rw [hse] at hk
        simp only at hk
        obtain ⟨hut, hm⟩ := sliceE_spec tok.tt hse
        obtain ⟨inf, h1, _⟩ := info_of hm
        cases hc : (Nat.ble T.base id && okId A.heap id d) with
        | false => rw [hc] at hk; exact hk.elim
        | true =>
          rw [hc] at hk
          simp only [cond_true] at hk
          simp only [Bool.and_eq_true] at hc
          obtain ⟨h0, hle, hk⟩ := hk
          have hv : vx = ι id := hx
          subst hv
          obtain ⟨vs, o1, o2⟩ := R.obj id _ hid
          have hcap : ∃ b c, ι id = .slice b xs.length c ∧ xs.length ≤ c := by
            rcases o1.2 with ⟨h5, h6⟩ | ⟨g, cap, cur, h5, _, _, h6, _⟩
            · exact ⟨none, 0, by rw [h5, h6], by omega⟩
            · exact ⟨_, _, h5, h6⟩
          obtain ⟨b, c, hv, hxc⟩ := hcap
          have hrun : (Instr.sliceAt t (ι id) none (some (.int kd n)) none).run P w = .ok (.slice b n.toNat c) w := by
            rw [hv]
            have hbd : (Instr.sliceBound (.int kd n) c .sliceAcap).run P w = .ok n.toNat w := run_bound h0 (by omega)
            have hz : ∀ a : Option Addr, a.map (fun x => x.add 0) = a := fun a => by cases a <;> simp [Addr.add]
            simp [Instr.sliceAt, run_underlying hut, Instr.slice, Instr.sliceBounds, hbd, run_size h1, hz]
          have hn : n.toNat ≤ xs.length := by omega
          have hlen : (xs.take n.toNat).length = n.toNat := by simp; omega
          have hown : w.ownsRow w0.heap.size e ty.size (.slice b n.toNat c) (xs.take n.toNat).length (vs.take (n.toNat * ty.size)) := by
            rw [hlen]
            have hr := (RowRep.take (w := w) ⟨o1.1, o2⟩ n.toNat hn).1
            rw [hlen] at hr
            refine ⟨hr, ?_⟩
            rcases o1.2 with ⟨h5, h6⟩ | ⟨g, cap, cur, h5, h7, h8, h9, h10, h11, h12⟩
            · left
              rw [hv] at h5
              injection h5 with q1 q2 q3
              subst q1 q3
              have : n.toNat = 0 := by omega
              rw [this]; exact ⟨rfl, rfl⟩
            · right
              rw [hv] at h5
              injection h5 with q1 q2 q3
              subst q1 q3
              refine ⟨g, c, cur, rfl, h7, h8, by omega, h10, h11, ?_⟩
              rw [← h12, List.take_take, Nat.min_eq_left (Nat.mul_le_mul_right _ hn)]
          have hblk' : hblk (.slice b n.toNat c) = hblk (ι id) := by rw [hv]; cases b <;> rfl
          obtain ⟨ι', R', K'⟩ := R.consume hd hid hc.2 (Nat.le_of_ble_eq_true hc.1) hdb (o' := .row e ty (xs.take n.toNat)) (hv := .slice b n.toNat c) (v := .slice b n.toNat c) (val := .own d) (w' := w)
            (fun _ _ _ => rfl) (Nat.le_refl _) rfl rfl rfl (fun O' kk => ⟨_, hown, ((RowRep.take (w := w) ⟨o1.1, o2⟩ n.toNat hn).keeps kk).2⟩)
            (fun b' hb' => .inl (by rw [← hblk']; exact hb')) (fun O' => by show _ = upd ι d _ d; rw [upd_eq, if_pos rfl]) (fun i hi => by simpa [AV.ids] using hi)
          exact ⟨_, hk, ι', _, _, .inl (by simp [hrun]), R', K', Nat.le_refl _⟩
      · exact hk.elim
    · exact hk.elim
  · exact hk.elim

theorem w_copy (tok : Tok P T) (R : Rel T F w0 O0 N A ι a w) {dst : Option Nat} (hd : ∀ d, dst = some d → d < N) {ts tx : Nat} {ty : TypeId} {cs : Array Bool} {s x : AV} {vs vx : Value} (hs : ARep w (Own O0 A.heap ι) ι s vs) (hx : ARep w (Own O0 A.heap ι) ι x vx) {k : WRes → Prop}
    (hk : wcopy T ts tx s x A.heap k) : Acts P T F w0 w O0 N A ι a dst (builtin .copy #[ts, tx] ty cs #[vs, vx]) k := by
  unfold wcopy at hk
  split at hk
  · rename_i e ie hse
    obtain ⟨hu, hm⟩ := sliceE_spec tok.tt hse
    obtain ⟨inf, h1, h2, h3, _⟩ := info_of hm
    cases hst : isSliceT T tx with
    | false => rw [hst] at hk; exact hk.elim
    | true =>
      rw [hst] at hk
      simp only [cond_true] at hk
      split at hk
      · rename_i id
        split at hk
        · rename_i e' t xs hid
          cases hc : (okM T id && Nat.beq ie.size t.size && Nat.blt 0 ie.size) with
          | false => rw [hc] at hk; exact hk.elim
          | true =>
            rw [hc] at hk
            simp only [cond_true] at hk
            simp only [Bool.and_eq_true] at hc
            have hsz := Nat.eq_of_beq_eq_true hc.1.2
            have hpos := blt_pos hc.2
            obtain ⟨ys, us, p, c, hk, rfl, hrow, hsrc⟩ := elems_spec R hx hk
            obtain ⟨ws, o1, o2⟩ := R.obj id _ hid
            have hvs : vs = ι id := hs
            subst hvs
            have hxrow : RowRep w (Own O0 A.heap ι) t xs ws := ⟨o1.1, o2⟩
            -- how many
            have hn : ∃ n, n = Nat.min ys.length xs.length := ⟨_, rfl⟩
            obtain ⟨n, hn⟩ := hn
            have hn' : (ys.length ≤ xs.length ∧ n = ys.length) ∨ (xs.length < ys.length ∧ n = xs.length) := by
              have : n = min ys.length xs.length := hn
              omega
            have hn1 : n ≤ ys.length := by omega
            have hn2 : n ≤ xs.length := by omega
            have hlen : (us.take (n * t.size)).length = n * t.size := by
              have : n * t.size ≤ us.length := by rw [hrow.1]; exact Nat.mul_le_mul_right _ hn1
              simp; omega
            have hcells : (Builtin.firstCells inf.size n (.slice p ys.length c)).run P w = .ok (us.take (n * t.size)).toArray w := by
              by_cases h0 : 0 < ys.length
              · obtain ⟨ad, rfl, hcell⟩ := hsrc h0
                have := run_loadCells_list (P := P) (w := w) ad (us.take (n * t.size)) (fun j u hj => hcell j u (by rw [List.getElem?_take] at hj; split at hj <;> simp_all))
                rw [hlen] at this
                simpa [Builtin.firstCells, h2, hsz] using this
              · have hn0 : n = 0 := by omega
                subst hn0
                cases p <;> simp [Builtin.firstCells, loadCells, loadCellsFrom]
            have hnewrow : RowRep w (Own O0 A.heap ι) t (ys.take xs.length ++ xs.drop ys.length) (spl ws 0 (us.take (n * t.size))) := by
              have e1 : ys.take xs.length = ys.take n := by
                rcases hn' with ⟨h, h'⟩ | ⟨h, h'⟩
                · rw [List.take_of_length_le h, h', List.take_length]
                · rw [h']
              have e2 : xs.drop ys.length = xs.drop n := by
                rcases hn' with ⟨h, h'⟩ | ⟨h, h'⟩
                · rw [h']
                · rw [h', List.drop_of_length_le (by omega), List.drop_of_length_le (by omega)]
              rw [e1, e2]
              have := (hrow.take n hn1).append (hxrow.drop n)
              unfold spl
              rw [hlen]
              simpa using this
            have hval : (if ys.length ≤ xs.length then (ys.length : Int) else xs.length) = (n : Int) := by
              split <;> omega
            rcases o1.2 with ⟨h5, h6⟩ | ⟨g, cap, cur, h5, _⟩
            · -- nothing to copy to
              have hn0 : n = 0 := by omega
              have hrun : (builtin .copy #[ts, tx] ty cs #[ι id, .slice p ys.length c]).run P w = .ok (.value (goInt n)) w := by
                rw [h5]
                have hmin : Nat.min ys.length 0 = 0 := by simp
                have : (Builtin.firstCells inf.size 0 (.slice p ys.length c)).run P w = .ok #[] w := by rw [← hn0, hcells, hn0]; simp
                simp [builtin, Builtin.copy_, run_underlying hu, Builtin.lenOf, run_size h1, this, hn0]
              have := R.change (dst := dst) hd hid hc.1.1 (o' := .row e' t (ys.take xs.length ++ xs.drop ys.length)) (v := goInt n) (val := .d (.int .i64 (if ys.length ≤ xs.length then (ys.length : Int) else xs.length))) rfl (w' := w) (b := 0)
                (by rw [h5]; simp [hblk]) (fun _ => rfl) (fun _ _ => rfl) (Nat.le_refl _) rfl rfl rfl
                (fun O' kk => ⟨spl ws 0 (us.take (n * t.size)), by
                  have hx0 : xs = [] := List.eq_nil_of_length_eq_zero h6
                  refine ⟨hnewrow.1, .inl ⟨h5, ?_⟩⟩
                  subst hx0; simp, (hnewrow.keeps kk).2⟩) (fun O' => by rw [hval]; rfl)
              exact ⟨_, hk, ι, _, _, .inl hrun, this.1, this.2, Nat.le_refl _⟩
            · obtain ⟨w', hstore, hown, hs1, hs2, hs3, hs4, hs5⟩ := spl_own (P := P) o1 h5 (off := 0) (us := us.take (n * t.size)) (by rw [hlen, Nat.zero_add]; exact Nat.mul_le_mul_right _ hn2)
                (fun u hu => hrow.one (by omega) u (List.mem_of_mem_take hu))
              have hrun : (builtin .copy #[ts, tx] ty cs #[ι id, .slice p ys.length c]).run P w = .ok (.value (goInt n)) w' := by
                rw [h5]
                simp only [builtin, Builtin.copy_]
                simp [run_underlying hu, Builtin.lenOf, run_size h1]
                rw [show ys.length.min xs.length = n from hn.symm, hcells]
                simp
                rw [hstore]
                simp
              have hlen2 : (ys.take xs.length ++ xs.drop ys.length).length = xs.length := by
                simp; omega
              have := R.change (dst := dst) hd hid hc.1.1 (o' := .row e' t (ys.take xs.length ++ xs.drop ys.length)) (v := goInt n) (val := .d (.int .i64 (if ys.length ≤ xs.length then (ys.length : Int) else xs.length))) rfl (w' := w') (b := g)
                (by rw [h5]; simp [hblk]) (by rw [h5]; simp [hblk]) hs1 hs2 hs3 hs4 hs5
                (fun O' kk => ⟨spl ws 0 (us.take (n * t.size)), by rw [hlen2]; exact hown, (hnewrow.keeps kk).2⟩) (fun O' => by rw [hval]; rfl)
              exact ⟨_, hk, ι, _, _, .inl hrun, this.1, this.2, hs2⟩
        · exact hk.elim
      · exact hk.elim
  · exact hk.elim

/-! ### Literals as rows of the call's own; iterators -/
theorem w_bs (tok : Tok P T) (R : Rel T F w0 O0 N A ι a w) {dst : Option Nat} (hd : ∀ d, dst = some d → d < N) {d t len : Nat} (hdb : T.base ≤ d ∧ d < T.base + 2000000) {e : Nat} {ie : TInf} {parts : Array (Nat × Operand)} {k : WRes → Prop}
    (hfree : A.heap d = none) (hs : sliceE T t = some (e, ie)) (hk : wbs (tyOf T.tt 6 e) e ie len (parts.toList.map fun p => (p.1, A.ev p.2)) A.heap d k) :
    Acts P T F w0 w O0 N A ι a dst (do pure (.value (← Instr.buildSlice t len (parts.map fun (i, x) => (i, a.eval x))))) k := by
  obtain ⟨hu, hm⟩ := sliceE_spec tok.tt hs
  obtain ⟨inf, h1, h2, h3, z, h4, h5⟩ := info_of hm
  generalize tyOf T.tt 6 e = ty at hk
  unfold wbs at hk
  split at hk
  · rename_i z0 hz0
    cases hc : (Nat.beq ie.size ty.size && Nat.blt 0 (len * ie.size) && Nat.ble (len * ie.size) 1000000) with
    | false => rw [hc] at hk; exact hk.elim
    | true =>
      rw [hc] at hk
      simp only [cond_true] at hk
      simp only [Bool.and_eq_true] at hc
      have hsz := Nat.eq_of_beq_eq_true hc.1.1
      have hpos := blt_pos hc.1.2
      have hsm := Nat.le_of_ble_eq_true hc.2
      split at hk
      · rename_i ds hds
        split at hk
        · rename_i xs hxs
          obtain ⟨p1, p2⟩ := partsD_spec R.ev _ _ hds
          have hz : LRep w (Own O0 A.heap ι) ie.zero z.cells.toList := by rw [← h5]; exact constDs_rep w _ _
          obtain ⟨us, ws, e1, e2, e3, e4⟩ := ofCells_spec ty _ _ _ _ hz0 hz
          have ew : ws = [] := by simpa [LRep] using e4
          subst ew
          simp only [List.append_nil] at e1
          subst e1
          have hzs : z.cells.size = ty.size := by simpa using e2
          have hpos' : 0 < ty.size := by rw [← hsz]; exact Nat.pos_of_ne_zero fun h => by rw [h] at hpos; simp at hpos
          have hrow := RowRep.replicate (n := len) hzs hpos' e3
          obtain ⟨cells, c1, c2, c3⟩ := fillE_spec (w := w) (O := Own O0 A.heap ι) ds (parts.toList.map fun p => (p.1, a.eval p.2)) _ xs (madeCells z.cells (len * ty.size)) hxs hrow ⟨by simp [p1], p2⟩
          have hlen : xs.length = len := by simpa using c3
          have hrun := run_buildSlice (P := P) w t e len (parts.map fun (i, x) => (i, a.eval x)) cells inf z hu h1 h4 (by rw [h2]; omega) (by rw [h2]; omega) (by
            rw [show (parts.map fun (i, x) => (i, a.eval x)).toList = parts.toList.map fun p => (p.1, a.eval p.2) by simp, h2, hsz]
            exact c1)
          have hb := below_alloc' w (.cells cells e)
          have hcs : cells.size = len * ty.size := by have := c2.1; rw [hlen] at this; simpa using this
          have hmax : len ≤ maxLen := by
            have : len * 1 ≤ len * ie.size := Nat.mul_le_mul_left _ (by rw [hsz]; exact hpos')
            unfold maxLen
            omega
          obtain ⟨ι', R', K'⟩ := R.fresh hd hfree hdb (o := .row e ty xs) (hv := .slice (some ⟨w.heap.size, 0, none⟩) len len) (v := .slice (some ⟨w.heap.size, 0, none⟩) len len) (val := .own d) hb
            (fun O' kk => ⟨cells.toList, ⟨by rw [c2.1], .inr ⟨w.heap.size, len, cells, by rw [hlen], Nat.le_refl _, heap_alloc_new w _, by omega, hmax, hcs, by
              rw [List.take_of_length_le (by rw [c2.1]; omega)]⟩⟩, (RowRep.keeps kk c2).2⟩)
            (fun O' => by show _ = upd ι d _ d; rw [upd_eq, if_pos rfl]) (fun i hi => by simpa [AV.ids] using hi)
          exact ⟨_, hk, ι', _, _, .inl (by simp [hrun]), R', K', hb.size⟩
        · exact hk.elim
      · exact hk.elim
  · exact hk.elim

theorem w_range (tok : Tok P T) (R : Rel T F w0 O0 N A ι a w) {dst : Option Nat} (hd : ∀ d, dst = some d → d < N) {d t : Nat} (hdb : T.base ≤ d ∧ d < T.base + 2000000) {i : TInf} {s : ByteArray} {vx : Value} {k : WRes → Prop}
    (hfree : A.heap d = none) (hi : look T.tt t = some i) (hdesc : i.desc = .str) (hx : ARep w (Own O0 A.heap ι) ι (.d (.str s)) vx) (hk : k ⟨none, upd A.heap d (some (.iter s 0)), .own d⟩) :
    Acts P T F w0 w O0 N A ι a dst (do pure (.value (← Instr.range t vx))) k := by
  obtain ⟨inf, d0, z, h1, h2, h3, h4, h5, h6, h7⟩ := mkTI_spec (tok.tt _ _ hi)
  rw [hdesc] at h6
  rw [tdOf_str h6] at h2
  have hx' : vx = .string s := hx
  subst hx'
  have hb : Below w.heap.size w (w.iter s 0) := below_alloc' w (.stringIter s 0)
  obtain ⟨ι', R', K'⟩ := R.fresh hd hfree hdb (o := .iter s 0) (hv := .pointer (some ⟨w.heap.size, 0, none⟩)) (v := .pointer (some ⟨w.heap.size, 0, none⟩)) (val := .own d) hb
    (fun O' k => ⟨_, rfl, Nat.le_refl _, heap_alloc_new w _⟩) (fun O' => by show _ = upd ι d _ d; rw [upd_eq, if_pos rfl]) (fun id hid => by simpa [AV.ids] using hid)
  exact ⟨_, hk, ι', _, _, .inl (by simp [run_range_string w t s h2]), R', K', hb.size⟩

theorem w_next (R : Rel T F w0 O0 N A ι a w) {dst : Option Nat} (hd : ∀ d, dst = some d → d < N) {x : AV} {vx : Value} {ty : TypeId} {k : WRes → Prop} (hx : ARep w (Own O0 A.heap ι) ι x vx) (hk : wnext T x A.heap k) :
    Acts P T F w0 w O0 N A ι a dst (do pure (.value (← Instr.next vx true ty))) k := by
  unfold wnext at hk
  split at hk
  · rename_i id
    split at hk
    · rename_i s pos hid
      cases hm : okM T id with
      | false => rw [hm] at hk; exact hk.elim
      | true =>
        rw [hm] at hk
        simp only [cond_true] at hk
        have hv : vx = ι id := hx
        subst hv
        obtain ⟨b, h1, h2, h3⟩ := R.obj id _ hid
        have hlt : b < w.heap.size := (Array.getElem?_eq_some_iff.1 h3).1
        cases hc : decide (pos < s.size) with
        | true =>
          rw [hc] at hk
          have hp := of_decide_eq_true hc
          obtain ⟨ha, hk⟩ := hk
          have hbt : bt s pos = ((s[pos]'hp).toNat : Int) := by unfold bt; rw [dif_pos (by simpa using hp)]; rfl
          have ha' : (s[pos]'hp).toNat < 128 := by rw [hbt] at ha; omega
          have hrun := Lib.run_next_ascii_at (P := P) w b s pos ty h3 hp ha'
          have := R.change (dst := dst) hd hid hm (o' := .iter s (pos + 1)) (v := .tuple #[.bool true, .int .i64 pos, .int .i32 (s[pos]'hp).toNat]) (val := .tup [.bool true, .int .i64 pos, .int .i32 (bt s pos)]) rfl (w' := w.iterAt b s (pos + 1)) (b := b)
            (fun b' hb' => by rw [h1] at hb'; simpa [hblk] using hb'.symm) (by rw [h1]; simp [hblk]) (fun k hk' => Lib.iterAt_other w b k s _ hk') (by rw [Lib.iterAt_size]; exact Nat.le_refl _) rfl rfl rfl
            (fun O' kk => ⟨b, h1, h2, Lib.iterAt_heap w b s pos _ h3⟩) (fun O' => ⟨_, rfl, _, _, rfl, rfl, _, _, rfl, rfl, _, _, rfl, by rw [hbt]; rfl, rfl⟩)
          obtain ⟨R', K'⟩ := this
          exact ⟨_, hk, ι, _, _, .inl (by rw [h1]; simp [hrun]), R', K', by rw [Lib.iterAt_size]; exact Nat.le_refl _⟩
        | false =>
          rw [hc] at hk
          have hp := of_decide_eq_false hc
          have hrun := Lib.run_next_end_at (P := P) w b s pos ty h3 hp
          have := R.change (dst := dst) hd hid hm (o' := .iter s pos) (v := .tuple #[.bool false]) (val := .tup [.bool false]) rfl (w' := w) (b := b)
            (fun b' hb' => by rw [h1] at hb'; simpa [hblk] using hb'.symm) (by rw [h1]; simp [hblk]) (fun _ _ => rfl) (Nat.le_refl _) rfl rfl rfl
            (fun O' kk => ⟨b, h1, h2, h3⟩) (fun O' => ⟨_, rfl, _, _, rfl, rfl, rfl⟩)
          obtain ⟨R', K'⟩ := this
          exact ⟨_, hk, ι, _, _, .inl (by rw [h1]; simp [hrun]), R', K', Nat.le_refl _⟩
    · exact hk.elim
  · exact hk.elim

end
end Fw
end
section
/- Steps: what they depend on, and that they come to one thing. -/
set_option linter.unusedVariables false
set_option linter.unusedSimpArgs false
namespace Fw
open Go Go.RowKit

/-- A transformer that comes to one thing, if to any. -/
def Prin {α : Type} (F : (α → Prop) → Prop) : Prop := ∀ k, F k → ∃ v, k v ∧ ∀ k', k' v → F k'
theorem Prin.one {α : Type} (v : α) : Prin (fun k => k v) := fun k h => ⟨v, h, fun k' h' => h'⟩
theorem Prin.no {α : Type} : Prin (fun _ : α → Prop => False) := fun k h => h.elim
theorem Prin.and {α : Type} {p : Prop} {F : (α → Prop) → Prop} (h : Prin F) : Prin (fun k => p ∧ F k) := fun k ⟨hp, hF⟩ => by
  obtain ⟨v, h1, h2⟩ := h k hF
  exact ⟨v, h1, fun k' h' => ⟨hp, h2 k' h'⟩⟩
theorem Prin.bif {α : Type} {b : Bool} {F G : (α → Prop) → Prop} (h : Prin F) (g : Prin G) : Prin (fun k => bif b then F k else G k) := by
  cases b
  · exact g
  · exact h
theorem Prin.br {α : Type} {b : Bool} {F G : (α → Prop) → Prop} (h : Prin F) (g : Prin G) : Prin (fun k => Br b (F k) (G k)) := by
  cases b
  · exact g
  · exact h
theorem Prin.arrBr {α : Type} {F : Nat → (α → Prop) → Prop} (h : ∀ j, Prin (F j)) : ∀ {n j : Nat} {i : Int}, Prin (fun k => arrBr n j i (fun j => F j k))
  | 0, j, i => .no
  | n + 1, j, i => by
    unfold Fw.arrBr
    exact .br (h j) (Prin.arrBr h)
theorem Prin.arr1 {α : Type} {v : Nat → α} {n j : Nat} {i : Int} : Prin (fun k => Fw.arrBr n j i (fun j => k (v j))) := Prin.arrBr (F := fun j k => k (v j)) fun j => .one _
theorem Prin.map {α β : Type} {F : (α → Prop) → Prop} (f : α → β) (h : Prin F) : Prin (fun k : β → Prop => F (fun x => k (f x))) := fun k hF => by
  obtain ⟨v, h1, h2⟩ := h _ hF
  exact ⟨f v, h1, fun k' h' => h2 _ h'⟩

theorem Prin.qcon (C : Con) (h : Hp) (args : List AV) : Prin (qcon C h args) := by
  unfold Fw.qcon
  split
  · split
    · exact .bif (.and (.one _)) .no
    · exact .no
  · exact .no
theorem Prin.qint (op : BinOp) (kd : IntKind) (x y : Int) : Prin (qint op kd x y) := by
  show Prin (fun k => Fw.qint op kd x y k)
  cases op <;> simp only [Fw.qint] <;> first | exact .one _ | exact .and (.one _)
theorem Prin.qbin (T : Ctx) (op : BinOp) (t : Nat) (x y : AV) : Prin (qbin T op t x y) := by
  unfold Fw.qbin
  split
  · exact .bif (Prin.map (F := Fw.qint op _ _ _) AV.d (.qint _ _ _ _)) .no
  · cases op <;> first | exact .no | exact .one _ | exact .and (.one _)
  · split
    · split
      · cases op <;> first | exact .no | exact .one _
      · split <;> first | exact .no | exact .one _
    · exact .no
theorem Prin.qpick (c a b : AV) : Prin (qpick c a b) := by
  unfold Fw.qpick
  split
  · split
    · exact .one _
    · exact .br (.one _) (.one _)
  · exact .no
theorem Prin.cellsAt (i : TInf) (cs : List D) : Prin (cellsAt i cs) := by
  unfold Fw.cellsAt
  refine .bif (.bif (.one _) .no) ?_
  split
  · exact .one _
  · exact .no
theorem Prin.qload (T : Ctx) (t : Nat) (a : AV) (h : Hp) : Prin (qload T t a h) := by
  unfold Fw.qload
  split
  · split
    · exact .cellsAt _ _
    · split
      · exact .cellsAt _ _
      · exact .no
    · split
      · exact .bif (.and (.and (.cellsAt _ _))) .no
      · exact .no
    · exact .no
  · exact .no
theorem Prin.qslice (T : Ctx) (t : Nat) (x : AV) (lo hi mx : Option AV) : Prin (qslice T t x lo hi mx) := by
  unfold Fw.qslice
  split
  · split
    · split
      · unfold Fw.cutOf
        split <;> first | exact .one _ | exact .and (.and (.one _)) | exact .and (.and (.and (.one _))) | exact .no
      · exact .no
    · split
      · refine .bif ?_ .no
        split
        · unfold Fw.cutOf
          split <;> first | exact .one _ | exact .and (.and (.one _)) | exact .and (.and (.and (.one _))) | exact .no
        · unfold Fw.cutOf3
          split <;> first | exact .and (.and (.and (.one _))) | exact .and (.and (.and (.and (.one _)))) | exact .no
        · exact .no
      · exact .no
    · exact .no
  · exact .no

theorem Prin.qstep (T : Ctx) (op : Op) (ρ : Env) (h : Hp) : Prin (qstep T op ρ h) := by
  show Prin (fun k => Fw.qstep T op ρ h k)
  cases op <;> simp only [Fw.qstep]
  case move x => exact .one _
  case assign x => exact .one _
  case pick c a b => exact .qpick _ _ _
  case load t a => exact .qload _ _ _ _
  case nilCheck x =>
    unfold qnil
    split
    · exact .one _
    · exact .no
  case binOp op t x y yt => exact .qbin _ _ _ _ _
  case unOp op t x => unfold qun; split <;> first | exact .one _ | exact .no
  case convert s t x =>
    unfold qconv
    split
    · split
      · exact .one _
      · split
        · split <;> first | exact .one _ | exact .no
        · exact .no
      · exact .no
    · exact .no
  case makeInterface t x =>
    split
    · split
      · exact .no
      · exact .one _
    · exact .no
  case makeFunc fn first caps =>
    unfold qmakeFunc
    split
    · split <;> first | exact .one _ | exact .no
    · split
      · exact .one _
      · exact .no
    · exact .no
  case build t parts =>
    unfold qbuild
    split
    · split
      · split
        · split
          · split
            · exact .one _
            · exact .no
          · exact .no
        · exact .no
      · split
        · split
          · split
            · exact .one _
            · exact .no
          · exact .no
        · exact .no
      · exact .no
    · exact .no
  case buildSlice t len parts =>
    unfold qbuildSlice
    split
    · unfold qbs
      split
      · refine .bif ?_ .no
        split
        · split
          · exact .one _
          · exact .no
        · exact .no
      · exact .no
    · exact .no
  case slice t x lo hi mx =>
    split
    · unfold qwin
      split
      · split
        · exact .bif (.and (.and (.and (.one _)))) .no
        · exact .no
      · exact .no
    · exact .qslice _ _ _ _ _ _
  case fieldAddr s x f =>
    unfold qfieldAddr
    split
    · split <;> first | exact .one _ | exact .no
    · exact .no
  case field t x f =>
    unfold qfield
    split
    · split
      · exact .cellsAt _ _
      · exact .no
    · exact .no
  case indexAddr t x ix =>
    unfold qindexAddr
    split
    · split
      · split
        · split
          · exact .bif (.and (.and (.one _))) .no
          · exact .no
        · split
          · exact .bif (.and (.and (.one _))) .no
          · exact .no
        · exact .bif (.and (.and (.one _))) .no
        · exact .no
      · split
        · split
          · exact .arr1
          · exact .arr1
          · exact .no
        · exact .no
    · exact .no
  case index t x ix =>
    unfold qindex
    split
    · split
      · split
        · exact .and (.and (.one _))
        · exact .no
      · exact .no
    · exact .no
  case extract t ix =>
    split
    · split
      · exact .one _
      · exact .no
    · exact .no
  case call c =>
    unfold qcall
    split
    · split
      · exact .qcon _ _ _
      · exact .no
    · unfold qcallv
      split
      · split
        · exact .qcon _ _ _
        · exact .no
      · split
        · exact .qcon _ _ _
        · split
          · split
            · exact .qcon _ _ _
            · exact .no
          · exact .no
      · exact .no
    · split
      · exact .qcon _ _ _
      · exact .no
    · unfold qbuiltin
      split
      · split
        · split
          · exact .one _
          · exact .no
        · exact .no
      · exact .bif (.one _) .no
      · exact .bif (.one _) .no
      · unfold qapf
        split
        · exact .bif (.and (.one _)) .no
        · exact .no
      · exact .no
  all_goals exact .no

theorem Prin.wstep (T : Ctx) (op : Op) (d : Nat) (ρ : Env) (h : Hp) : Prin (wstep T op d ρ h) := by
  show Prin (fun k => Fw.wstep T op d ρ h k)
  cases op <;> simp only [Fw.wstep]
  case alloc t =>
    split
    · exact .one _
    · exact .no
  case box t x =>
    split
    · exact .bif (.one _) .no
    · exact .no
  case makeSlice t l c =>
    unfold wmake
    split
    · unfold wmk
      split
      · exact .bif (.and (.and (.and (.one _)))) .no
      · exact .no
    · exact .no
  case store t a x =>
    split
    · unfold wstore
      split
      · split
        · split
          · exact .bif (.one _) .no
          · exact .no
        · split
          · refine .bif (.and (.and ?_)) .no
            split
            · exact .one _
            · exact .no
          · exact .no
        · exact .no
      · exact .no
    · exact .no
  case slice t x lo hi mx =>
    unfold wcut
    split
    · split
      · split
        · split
          · exact .bif (.and (.and (.one _))) .no
          · exact .no
        · exact .no
      · exact .no
    · exact .no
  case call c =>
    split
    · unfold wappend
      split
      · refine .bif ?_ .no
        split
        · split
          · exact .bif (by unfold Fw.elems; split <;> first | (split <;> first | exact .and (.one _) | exact .no) | exact .and (.one _) | exact .no) .no
          · exact .no
        · split
          · unfold wapn
            exact .bif (by unfold Fw.elems; split <;> first | (split <;> first | exact .and (.one _) | exact .no) | exact .and (.one _) | exact .no) .no
          · exact .no
        · exact .no
      · exact .no
    · unfold wcopy
      split
      · refine .bif ?_ .no
        split
        · split
          · exact .bif (by unfold Fw.elems; split <;> first | (split <;> first | exact .one _ | exact .no) | exact .one _ | exact .no) .no
          · exact .no
        · exact .no
      · exact .no
    · split
      · unfold wcallp
        refine .bif ?_ .no
        split
        · exact .and (.one _)
        · exact .no
      · exact .no
    · exact .no
  case buildSlice t len parts =>
    split
    · unfold wbs
      split
      · refine .bif ?_ .no
        split
        · split <;> first | exact .one _ | exact .no
        · exact .no
      · exact .no
    · exact .no
  case range t x =>
    split
    · split <;> first | exact .one _ | exact .no
    · exact .no
  case next x b =>
    refine .bif ?_ .no
    unfold wnext
    split
    · split
      · refine .bif ?_ .no
        exact .br (.and (.one _)) (.one _)
      · exact .no
    · exact .no
  all_goals exact .no

end Fw
end
section
/- Steps that may change places. -/
set_option linter.unusedVariables false
set_option linter.unusedSimpArgs false
namespace Fw
open Go Go.RowKit

theorem q_congr (T : Ctx) (op : Op) {ρ ρ' : Env} (h : Hp) (hρ : ∀ x ∈ op.operands, ρ x = ρ' x) : qstep T op ρ h = qstep T op ρ' h := by
  funext k
  have arr : ∀ xs : Array Operand, (∀ x ∈ xs, ρ x = ρ' x) → xs.toList.map ρ = xs.toList.map ρ' := fun xs hx => List.map_congr_left fun x hm => hx x (by simpa using hm)
  have parts : ∀ ps : Array (Nat × Operand), (∀ p ∈ ps, ρ p.2 = ρ' p.2) → (ps.toList.map fun p => (p.1, ρ p.2)) = ps.toList.map fun p => (p.1, ρ' p.2) := fun ps hx => List.map_congr_left fun p hm => by rw [hx p (by simpa using hm)]
  have o : ∀ z : Option Operand, (∀ x, z = some x → ρ x = ρ' x) → z.map ρ = z.map ρ' := fun z hz => by cases z with
    | none => rfl
    | some x => simp [hz x rfl]
  cases op <;> simp only [qstep] <;> simp only [Op.operands] at hρ
  case move x => rw [hρ x (by simp)]
  case assign x => rw [hρ x (by simp)]
  case pick c a b => rw [hρ c (by simp), hρ a (by simp), hρ b (by simp)]
  case load t a => rw [hρ a (by simp)]
  case nilCheck x => rw [hρ x (by simp)]
  case binOp op t x y yt => rw [hρ x (by simp), hρ y (by simp)]
  case unOp op t x => rw [hρ x (by simp)]
  case convert s t x => rw [hρ x (by simp)]
  case makeInterface t x => rw [hρ x (by simp)]
  case makeFunc fn first caps => rw [arr first fun x hx => hρ x (by simp [hx]), arr caps fun x hx => hρ x (by simp [hx])]
  case build t ps => rw [parts ps fun p hp => hρ p.2 (by simp; exact ⟨p.1, hp⟩)]
  case buildSlice t len ps => rw [parts ps fun p hp => hρ p.2 (by simp; exact ⟨p.1, hp⟩)]
  case slice t x lo hi mx => rw [hρ x (by simp), o lo fun x hx => hρ x (by simp [hx]), o hi fun x hx => hρ x (by simp [hx]), o mx fun x hx => hρ x (by simp [hx])]
  case fieldAddr s x f => rw [hρ x (by simp)]
  case field t x f => rw [hρ x (by simp)]
  case indexAddr t x ix => rw [hρ x (by simp), hρ ix (by simp)]
  case index t x ix => rw [hρ x (by simp), hρ ix (by simp)]
  case extract t ix => rw [hρ t (by simp)]
  case call c =>
    obtain ⟨callee, args, ats⟩ := c
    simp only [Call.operands] at hρ
    have ha := arr args fun x hx => hρ x (by simp [hx])
    unfold qcall
    cases callee with
    | builtin b => simp only [ha]
    | invoke r name => simp only [ha, hρ r (by simp)]
    | value f =>
      cases f with
      | func f => simp only [ha]
      | tmp t => simp only [ha, hρ (.tmp t) (by simp)]
      | const v => simp only [ha, hρ (.const v) (by simp)]
      | global g => simp only [ha, hρ (.global g) (by simp)]

theorem w_congr (T : Ctx) (op : Op) (d : Nat) {ρ ρ' : Env} (h : Hp) (hρ : ∀ x ∈ op.operands, ρ x = ρ' x) : wstep T op d ρ h = wstep T op d ρ' h := by
  funext k
  have o : ∀ z : Option Operand, (∀ x, z = some x → ρ x = ρ' x) → z.map ρ = z.map ρ' := fun z hz => by cases z with
    | none => rfl
    | some x => simp [hz x rfl]
  cases op <;> simp only [wstep] <;> simp only [Op.operands] at hρ
  case box t x => rw [hρ x (by simp)]
  case makeSlice t l c => rw [hρ l (by simp), hρ c (by simp)]
  case store t a x => rw [hρ a (by simp), hρ x (by simp)]
  case buildSlice t len ps =>
    have e : (ps.toList.map fun p => (p.1, ρ p.2)) = ps.toList.map fun p => (p.1, ρ' p.2) := List.map_congr_left fun p hm => by rw [hρ p.2 (by simp; exact ⟨p.1, by simpa using hm⟩)]
    rw [e]
  case range t x => rw [hρ x (by simp)]
  case next x b => rw [hρ x (by simp)]
  case slice t x lo hi mx => rw [hρ x (by simp), o lo fun x hx => hρ x (by simp [hx]), o hi fun x hx => hρ x (by simp [hx]), o mx fun x hx => hρ x (by simp [hx])]
  case call c =>
    obtain ⟨callee, args, ats⟩ := c
    simp only [Call.operands] at hρ
    simp only
    split
    · rename_i s x ts tx h2 h3
      have hm : ∀ y, y = s ∨ y = x → y ∈ args := fun y hy => by
        have : y ∈ args.toList := by rw [h2]; simpa using hy
        simpa using this
      rw [hρ s (by simp [hm s (.inl rfl)]), hρ x (by simp [hm x (.inr rfl)])]
    · rename_i s x ts tx h2 h3
      have hm : ∀ y, y = s ∨ y = x → y ∈ args := fun y hy => by
        have : y ∈ args.toList := by rw [h2]; simpa using hy
        simpa using this
      rw [hρ s (by simp [hm s (.inl rfl)]), hρ x (by simp [hm x (.inr rfl)])]
    · have e : args.toList.map ρ = args.toList.map ρ' := List.map_congr_left fun y hy => hρ y (by simp [show y ∈ args by simpa using hy])
      rw [e]
    · rfl

/-! ### What a quiet step sees of the heap -/
theorem capD_heap {h h' : Hp} {c : D ⊕ (Nat × Nat)} (hi : ∀ id ∈ capIds [c], h id = h' id) : capD h c = capD h' c := by
  cases c with
  | inl d => rfl
  | inr p => obtain ⟨id, off⟩ := p; simp only [capD]; rw [hi id (by simp [capIds])]
theorem caps_heap {h h' : Hp} : ∀ {cs : List (D ⊕ (Nat × Nat))}, (∀ id ∈ capIds cs, h id = h' id) → cs.map (capD h) = cs.map (capD h')
  | [], _ => rfl
  | .inl d :: cs, hi => by simp only [List.map_cons]; rw [caps_heap (cs := cs) hi]; rfl
  | .inr (id, off) :: cs, hi => by
    simp only [List.map_cons]
    rw [caps_heap (cs := cs) fun i h => hi i (by simp [capIds, h]), capD_heap (c := .inr (id, off)) fun i h => hi i (by simp [capIds] at h ⊢; exact .inl h)]
theorem viewD_heap {h h' : Hp} {x : AV} (hi : ∀ id ∈ x.ids, h id = h' id) : viewD h x = viewD h' x := by
  cases x with
  | own id => simp only [viewD]; rw [hi id (by simp [AV.ids])]
  | win id s lo n => simp only [viewD]; rw [hi id (by simp [AV.ids])]
  | ptr id off => simp only [viewD]; rw [hi id (by simp [AV.ids])]
  | clo f caps => simp only [viewD]; rw [caps_heap hi]
  | _ => rfl
theorem qcon_heap {C : Con} {h h' : Hp} {args : List AV} (hi : ∀ x ∈ args, ∀ id ∈ x.ids, h id = h' id) : qcon C h args = qcon C h' args := by
  funext k
  unfold qcon
  have : args.map (viewD h) = args.map (viewD h') := List.map_congr_left fun x hx => viewD_heap (hi x hx)
  rw [this]
theorem capAV_ids : ∀ {cs : List (D ⊕ (Nat × Nat))} {x : AV}, x ∈ cs.map capAV → ∀ id ∈ x.ids, id ∈ capIds cs
  | [], x, hx, id, hid => by simp at hx
  | .inl d :: cs, x, hx, id, hid => by
    simp only [List.map_cons, List.mem_cons] at hx
    rcases hx with rfl | hx
    · simp [capAV, AV.ids] at hid
    · exact capAV_ids (cs := cs) hx id hid
  | .inr (i, off) :: cs, x, hx, id, hid => by
    simp only [List.map_cons, List.mem_cons] at hx
    rcases hx with rfl | hx
    · simp [capAV, AV.ids] at hid; simp [capIds, hid]
    · simp [capIds, capAV_ids (cs := cs) hx id hid]

theorem q_heap (T : Ctx) (op : Op) {ρ : Env} {h h' : Hp} (hi : ∀ x ∈ op.operands, ∀ id ∈ (ρ x).ids, h id = h' id) : qstep T op ρ h = qstep T op ρ h' := by
  funext k
  cases op <;> simp only [qstep] <;> simp only [Op.operands] at hi
  case load t a =>
    have ha := hi a (by simp)
    unfold qload
    cases hx : ρ a with
    | ptr id off => rw [hx] at ha; simp only; rw [ha id (by simp [AV.ids])]
    | eptr id sz ix off => rw [hx] at ha; simp only; rw [ha id (by simp [AV.ids])]
    | d y => cases y <;> rfl
    | _ => rfl
  case convert s t x => rw [viewD_heap (hi x (by simp))]
  case slice t x lo hi mx =>
    have ha := hi x (by simp)
    cases hx : ρ x with
    | own id => rw [hx] at ha; simp only [qwin]; rw [ha id (by simp [AV.ids])]
    | _ => rfl
  case indexAddr t x ix =>
    have ha := hi x (by simp)
    unfold qindexAddr
    cases hx : ρ x with
    | own id => rw [hx] at ha; simp only; rw [ha id (by simp [AV.ids])]
    | win id s lo n => rw [hx] at ha; simp only; rw [ha id (by simp [AV.ids])]
    | d y => cases y <;> rfl
    | _ => rfl
  case call c =>
    obtain ⟨callee, args, ats⟩ := c
    simp only [Call.operands] at hi
    have ha : ∀ x ∈ args.toList.map ρ, ∀ id ∈ x.ids, h id = h' id := by
      intro x hx id hid
      obtain ⟨y, hy, rfl⟩ := List.mem_map.1 hx
      exact hi y (by simp at hy ⊢; exact .inr hy) id hid
    unfold qcall
    cases callee with
    | builtin b =>
      simp only
      rw [show (args.toList.map ρ).map (viewD h) = (args.toList.map ρ).map (viewD h') from List.map_congr_left fun x hx => viewD_heap (ha x hx)]
    | invoke r name =>
      simp only
      have hr := hi r (by simp)
      split
      · rw [qcon_heap fun x hx => by
          rcases List.mem_cons.1 hx with rfl | hx
          · exact hr
          · exact ha x hx]
      · rfl
    | value f =>
      have key : ∀ v : AV, (∀ id ∈ v.ids, h id = h' id) → qcallv T v (args.toList.map ρ) h k = qcallv T v (args.toList.map ρ) h' k := by
        intro v hv
        unfold qcallv
        cases v with
        | clo g caps =>
          simp only
          split
          · rw [qcon_heap fun x hx => by
              rcases List.mem_append.1 hx with hx | hx
              · exact ha x hx
              · exact fun id hid => hv id (by simp [AV.ids]; exact capAV_ids hx id hid)]
          · rfl
        | d dv =>
          simp only
          split
          · rw [qcon_heap fun x hx => by
              rcases List.mem_cons.1 hx with rfl | hx
              · exact fun id hid => by simp [AV.ids] at hid
              · exact ha x hx]
          · split
            · split
              · rw [qcon_heap fun x hx => by
                  rcases List.mem_append.1 hx with hx | hx
                  · exact ha x hx
                  · obtain ⟨y, hy, rfl⟩ := List.mem_map.1 hx
                    exact fun id hid => by simp [AV.ids] at hid]
              · rfl
            · rfl
        | _ => rfl
      cases f with
      | func f =>
        simp only
        split
        · rw [qcon_heap ha]
        · rfl
      | tmp t => exact key _ (hi (.tmp t) (by simp))
      | const v => exact key _ (hi (.const v) (by simp))
      | global g => exact key _ (hi (.global g) (by simp))

end Fw
end
section
/- Steps that may change places: they do. -/
set_option linter.unusedVariables false
set_option linter.unusedSimpArgs false
namespace Fw
open Go Go.RowKit

inductive Eff where
  | set (av : AV)
  | obj (r : WRes)
def Eff.app (e : Eff) (A : AState) (dst : Option Nat) : AState :=
  match e with
  | .set av => A.put dst av
  | .obj r => r.act A dst

def wantedA (ops : Array Oper) (o : Oper) (env : Nat → AV) : Option Bool :=
  match o.guard with
  | none => some true
  | some (j, want) => (match (ops[j]?).bind (·.dst) with
    | some dj => (match env dj with
      | .d (.bool b) => some (b == want)
      | x => bif isUndef x then some false else none)
    | none => none)

def GE (T : Ctx) (H : Hints) (ops : Array Oper) (o : Oper) (A : AState) : Eff → Prop
  | .set av => (wantedA ops o A.env = some false ∧ av = aundef) ∨ (wantedA ops o A.env = some true ∧ cls H o < 2 ∧ ∀ k : AV → Prop, k av → qstep T o.op A.ev A.heap k)
  | .obj r => wantedA ops o A.env = some true ∧ (2 ≤ cls H o ∧ Nat.blt (dstN o) 1000000 = true) ∧ ∀ k : WRes → Prop, k r → wstep T o.op (nid T o) A.ev A.heap k

section
variable {T : Ctx} {H : Hints} {ops : Array Oper}

theorem step_eff {o : Oper} {A : AState} {K : AState → Prop} (hw : wantedA ops o A.env = some true) (h : step T H o A K) : ∃ e, GE T H ops o A e ∧ K (e.app A o.dst) := by
  unfold step at h
  cases hc : Nat.ble 2 (cls H o) with
  | true =>
    rw [hc] at h
    simp only [cond_true] at h
    cases hd : Nat.blt (dstN o) 1000000 with
    | false => rw [hd] at h; exact h.elim
    | true =>
      rw [hd] at h
      simp only [cond_true] at h
      obtain ⟨r, h1, h2⟩ := Prin.wstep T o.op (nid T o) A.ev A.heap _ h
      exact ⟨.obj r, ⟨hw, ⟨Nat.le_of_ble_eq_true hc, hd⟩, h2⟩, h1⟩
  | false =>
    rw [hc] at h
    simp only [cond_false] at h
    obtain ⟨v, h1, h2⟩ := Prin.qstep T o.op A.ev A.heap _ h
    refine ⟨.set v, .inr ⟨hw, ?_, h2⟩, h1⟩
    rcases Nat.lt_or_ge (cls H o) 2 with h3 | h3
    · exact h3
    · rw [Nat.ble_eq_true_of_le h3] at hc; cases hc
theorem eff_step {o : Oper} {A : AState} {K : AState → Prop} {e : Eff} (hw : wantedA ops o A.env = some true) (h : GE T H ops o A e) (hK : K (e.app A o.dst)) : step T H o A K := by
  unfold step
  cases e with
  | set av =>
    rcases h with ⟨h1, _⟩ | ⟨_, h2, h3⟩
    · rw [hw] at h1; cases h1
    · have : Nat.ble 2 (cls H o) = false := by
        cases hb : Nat.ble 2 (cls H o) with
        | false => rfl
        | true => have := Nat.le_of_ble_eq_true hb; omega
      rw [this]
      exact h3 (fun v => K (A.put o.dst v)) hK
  | obj r =>
    obtain ⟨_, h2, h3⟩ := h
    rw [Nat.ble_eq_true_of_le h2.1, h2.2]
    exact h3 (fun r => K (r.act A o.dst)) hK

theorem put_same {A : AState} {d : Nat} {v : AV} (h : A.env d = v) : A.put (some d) v = A := by
  unfold AState.put
  cases A with
  | mk env heap =>
    simp only [AState.mk.injEq, and_true]
    funext t
    rw [upd_eq]
    split
    · rename_i e; subst e; exact h.symm
    · rfl

theorem gstep_iff {o : Oper} {A : AState} {K : AState → Prop} : gstep T H ops o A K ↔ ∃ e, GE T H ops o A e ∧ K (e.app A o.dst) := by
  have hstep : ∀ {X : Prop}, wantedA ops o A.env = some true → (X ↔ step T H o A K) → (X ↔ ∃ e, GE T H ops o A e ∧ K (e.app A o.dst)) := by
    intro X hw hx
    rw [hx]
    exact ⟨step_eff hw, fun ⟨e, h1, h2⟩ => eff_step hw h1 h2⟩
  have hskip : ∀ {X : Prop}, wantedA ops o A.env = some false → (X ↔ K (A.put o.dst aundef)) → (X ↔ ∃ e, GE T H ops o A e ∧ K (e.app A o.dst)) := by
    intro X hw hx
    rw [hx]
    constructor
    · intro h; exact ⟨.set aundef, .inl ⟨hw, rfl⟩, h⟩
    · rintro ⟨e, h1, h2⟩
      cases e with
      | set av =>
        rcases h1 with ⟨_, rfl⟩ | ⟨h3, _⟩
        · exact h2
        · rw [hw] at h3; cases h3
      | obj r => have h3 := h1.1; rw [hw] at h3; cases h3
  have hno : ∀ {X : Prop}, wantedA ops o A.env = none → (X ↔ False) → (X ↔ ∃ e, GE T H ops o A e ∧ K (e.app A o.dst)) := by
    intro X hw hx
    rw [hx]
    refine ⟨fun h => h.elim, ?_⟩
    rintro ⟨e, h1, _⟩
    cases e with
    | set av => rcases h1 with ⟨h3, _⟩ | ⟨h3, _⟩ <;> rw [hw] at h3 <;> cases h3
    | obj r => have h3 := h1.1; rw [hw] at h3; cases h3
  unfold gstep
  cases hg : o.guard with
  | none => exact hstep (by simp [wantedA, hg]) Iff.rfl
  | some p =>
    obtain ⟨j, want⟩ := p
    simp only
    cases hd : (ops[j]?).bind (·.dst) with
    | none => exact hno (by simp only [wantedA, hg]; rw [hd]) Iff.rfl
    | some dj =>
      simp only
      cases hx : A.env dj with
      | d x =>
        cases x with
        | bool b =>
          cases b with
          | true =>
            simp only [Br, put_same hx]
            cases want with
            | true => exact hstep (by simp only [wantedA, hg]; rw [hd]; simp [hx]) Iff.rfl
            | false => exact hskip (by simp only [wantedA, hg]; rw [hd]; simp [hx]) Iff.rfl
          | false =>
            simp only [Br, put_same hx]
            cases want with
            | true => exact hskip (by simp only [wantedA, hg]; rw [hd]; simp [hx]) Iff.rfl
            | false => exact hstep (by simp only [wantedA, hg]; rw [hd]; simp [hx]) Iff.rfl
        | val v =>
          simp only
          cases hu : isUndef (.d (.val v)) with
          | true => exact hskip (by simp only [wantedA, hg]; rw [hd]; simp [hx, hu]) Iff.rfl
          | false => exact hno (by simp only [wantedA, hg]; rw [hd]; simp [hx, hu]) Iff.rfl
        | _ => exact hno (by simp only [wantedA, hg]; rw [hd]; simp [hx, isUndef]) Iff.rfl
      | _ => exact hno (by simp only [wantedA, hg]; rw [hd]; simp [hx, isUndef]) Iff.rfl

/-! ### What changes nothing for a step -/
theorem memT_spec {d : Nat} : ∀ {l : List Operand}, memT d l = false → .tmp d ∉ l
  | [], _ => by simp
  | x :: l, h => by
    cases x with
    | tmp t =>
      simp only [memT] at h
      cases hb : Nat.beq t d with
      | true => rw [hb] at h; cases h
      | false =>
        rw [hb] at h
        simp only [List.mem_cons, not_or]
        exact ⟨fun e => by injection e with e; subst e; simp at hb, memT_spec h⟩
    | _ => simp only [memT] at h; simp [memT_spec h]

theorem apart_ev {x y : Oper} {d : Nat} (h : apart1 ops x y = true) (hd : x.dst = some d) {A : AState} {A' : AState} (hA : ∀ t, t ≠ d → A'.env t = A.env t) :
    (∀ z ∈ y.op.operands, A'.ev z = A.ev z) ∧ wantedA ops y A'.env = wantedA ops y A.env ∧ y.dst ≠ some d := by
  unfold apart1 at h
  rw [hd] at h
  simp only [Bool.and_eq_true, Bool.not_eq_true'] at h
  obtain ⟨h1, h2⟩ := h
  unfold looksN at h1
  simp only [Bool.or_eq_false_iff] at h1
  refine ⟨fun z hz => ?_, ?_, ?_⟩
  · cases z with
    | tmp t =>
      refine hA t fun e => ?_
      subst e
      exact memT_spec h1.1 (by simpa using hz)
    | _ => rfl
  · unfold wantedA
    cases hg : y.guard with
    | none => rfl
    | some p =>
      obtain ⟨j, want⟩ := p
      have h3 := h1.2
      rw [hg] at h3
      simp only at h3 ⊢
      cases hdj : (ops[j]?).bind (·.dst) with
      | none => rfl
      | some dj =>
        rw [hdj] at h3
        simp only at h3 ⊢
        rw [hA dj fun e => by subst e; simp at h3]
  · intro e
    rw [e] at h2
    simp at h2

theorem put_env {A : AState} {d t : Nat} {v : AV} (h : t ≠ d) : (A.put (some d) v).env t = A.env t := by
  show upd A.env d v t = _
  rw [upd_eq, if_neg h]
theorem put_comm' {A : AState} {x y : Option Nat} {v u : AV} (h : ∀ d, x = some d → y ≠ some d) : (A.put x v).put y u = (A.put y u).put x v := by
  cases x with
  | none => rfl
  | some d =>
    cases y with
    | none => rfl
    | some e =>
      have hne : d ≠ e := fun he => h d rfl (by rw [he])
      unfold AState.put
      simp only [AState.mk.injEq, and_true]
      funext t
      simp only [upd_eq]
      by_cases h1 : t = e
      · by_cases h2 : t = d
        · exact absurd (h2.symm.trans h1) hne
        · rw [if_pos h1, if_neg h2, if_pos h1]
      · rw [if_neg h1]
        by_cases h2 : t = d
        · rw [if_pos h2, if_pos h2]
        · rw [if_neg h2, if_neg h2, if_neg h1]

theorem bif31 {b : Bool} : ¬ ((bif b then 3 else 1) = 2) := by cases b <;> decide
theorem bif13 {b : Bool} : ¬ ((bif b then 1 else 3) = 2) := by cases b <;> decide

/-- An object's making does not hang on the other objects. -/
theorem make_spec {o : Oper} {ρ : Env} {h : Hp} {r : WRes} (hc : cls H o = 2) (hr : ∀ k : WRes → Prop, k r → wstep T o.op (nid T o) ρ h k) :
    ∃ d n ob val, o.dst = some d ∧ n = T.base + d ∧ h n = none ∧ r = ⟨none, upd h n (some ob), val⟩ ∧ (∀ id ∈ val.ids, id = n) ∧
      ∀ h' : Hp, h' n = none → ∀ k : WRes → Prop, k ⟨none, upd h' n (some ob), val⟩ → wstep T o.op (nid T o) ρ h' k := by
  have hr0 := hr (fun x => x = r) rfl
  obtain ⟨dst, op, type, pos, after, guard⟩ := o
  have hdst : ∃ d, dst = some d := by
    cases dst with
    | some d => exact ⟨d, rfl⟩
    | none =>
      exfalso
      cases op <;> simp [cls, cls.mk] at hc
      rename_i c
      split at hc <;> first | (simp at hc; done) | (exact bif31 hc) | (split at hc <;> first | (simp at hc; done) | (exact bif13 hc))
  obtain ⟨d, rfl⟩ := hdst
  refine ⟨d, T.base + d, ?_⟩
  have hn : nid T ⟨some d, op, type, pos, after, guard⟩ = T.base + d := rfl
  rw [hn] at hr0 ⊢
  clear hn hr
  generalize T.base + d = n at hr0 ⊢
  cases op <;> simp only [wstep] at hr0 ⊢ <;> try (exact hr0.elim)
  case alloc t =>
    split at hr0
    · rename_i i hd hi
      refine ⟨.box i.zero, .ptr n 0, trivial, trivial, hd, hr0.symm, by simp [AV.ids], fun h' hd' k hk => ?_⟩
      rw [hd', hi]; exact hk
    · exact hr0.elim
  case box t x =>
    split at hr0
    · rename_i v hd hx
      cases hs : v.solid with
      | false => rw [hs] at hr0; exact hr0.elim
      | true =>
        rw [hs] at hr0
        refine ⟨.box v.cells, .ptr n 0, trivial, trivial, hd, hr0.symm, by simp [AV.ids], fun h' hd' k hk => ?_⟩
        rw [hd', hx]; simp only [hs]; exact hk
    · exact hr0.elim
  case makeSlice t l c =>
    unfold wmake at hr0 ⊢
    split at hr0
    · rename_i kl n' kc m e ie hd hl hc' hse
      unfold wmk at hr0
      split at hr0
      · rename_i z hz
        cases hb : (Nat.beq ie.size (tyOf T.tt 6 e).size && Nat.blt 0 ie.size && Nat.blt 0 ie.bytes) with
        | false => rw [hb] at hr0; exact hr0.elim
        | true =>
          rw [hb] at hr0
          obtain ⟨h1, h2, h3, h4⟩ := hr0
          refine ⟨.row e _ (List.replicate n'.toNat z), .own n, trivial, trivial, hd, h4.symm, by simp [AV.ids], fun h' hd' k hk => ?_⟩
          rw [hd', hl, hc', hse]
          simp only
          unfold wmk
          simp only [hz]
          rw [hb]
          exact ⟨h1, h2, h3, hk⟩
      · exact hr0.elim
    · exact hr0.elim
  all_goals simp [cls] at hc
  all_goals first | (exact absurd hc bif31) | (split at hc <;> first | (simp at hc; done) | (exact absurd hc bif31) | (exact absurd hc bif13) | (split at hc <;> first | (simp at hc; done) | (exact absurd hc bif13)))

end
end Fw
end
section
/- Steps change places; every order of a region comes to what the order of the text comes to. -/
set_option linter.unusedVariables false
set_option linter.unusedSimpArgs false
namespace Fw
open Go Go.RowKit

section
variable {T : Ctx} {H : Hints} {ops : Array Oper}

def wfA (A : AState) : Prop := ∀ t id, id ∈ (A.env t).ids → A.heap id ≠ none

theorem wfA.ev {A : AState} (h : wfA A) (x : Operand) : ∀ id ∈ (A.ev x).ids, A.heap id ≠ none := by
  cases x with
  | tmp t => exact h t
  | _ => intro id hid; simp [AState.ev, AV.ids] at hid

theorem apart_ev' {x y : Oper} (h : apart1 ops x y = true) {A A' : AState} (hA : ∀ t, x.dst ≠ some t → A'.env t = A.env t) :
    (∀ z ∈ y.op.operands, A'.ev z = A.ev z) ∧ wantedA ops y A'.env = wantedA ops y A.env ∧ (∀ d, x.dst = some d → y.dst ≠ some d) := by
  cases hd : x.dst with
  | none =>
    have : A'.env = A.env := funext fun t => hA t (by rw [hd]; simp)
    refine ⟨fun z _ => ?_, by rw [this], fun d h => by cases h⟩
    cases z with
    | tmp t => exact congrFun this t
    | _ => rfl
  | some d =>
    obtain ⟨h1, h2, h3⟩ := apart_ev h hd (A := A) (A' := A') (fun t ht => hA t (by rw [hd]; simpa using fun e => ht e.symm))
    exact ⟨h1, h2, fun d' hd' => by injection hd' with hd'; subst hd'; exact h3⟩

theorem GE.move {o : Oper} {A A' : AState} {e : Eff} (hev : ∀ z ∈ o.op.operands, A'.ev z = A.ev z) (hw : wantedA ops o A'.env = wantedA ops o A.env) (hh : A'.heap = A.heap) (h : GE T H ops o A e) : GE T H ops o A' e := by
  cases e with
  | set av =>
    rcases h with ⟨h1, h2⟩ | ⟨h1, h2, h3⟩
    · exact .inl ⟨by rw [hw]; exact h1, h2⟩
    · exact .inr ⟨by rw [hw]; exact h1, h2, fun k hk => by rw [q_congr T o.op A'.heap hev, hh]; exact h3 k hk⟩
  | obj r =>
    obtain ⟨h1, h2, h3⟩ := h
    exact ⟨by rw [hw]; exact h1, h2, fun k hk => by rw [w_congr T o.op (nid T o) A'.heap hev, hh]; exact h3 k hk⟩
theorem GE.heap {o : Oper} {A A' : AState} {av : AV} (hev : ∀ z ∈ o.op.operands, A'.ev z = A.ev z) (hw : wantedA ops o A'.env = wantedA ops o A.env) (hh : ∀ z ∈ o.op.operands, ∀ id ∈ (A.ev z).ids, A.heap id = A'.heap id)
    (h : GE T H ops o A (.set av)) : GE T H ops o A' (.set av) := by
  rcases h with ⟨h1, h2⟩ | ⟨h1, h2, h3⟩
  · exact .inl ⟨by rw [hw]; exact h1, h2⟩
  · exact .inr ⟨by rw [hw]; exact h1, h2, fun k hk => by rw [q_congr T o.op A'.heap hev, ← q_heap T o.op hh]; exact h3 k hk⟩

theorem put_env' {A : AState} {dst : Option Nat} {v : AV} {t : Nat} (h : dst ≠ some t) : (A.put dst v).env t = A.env t := by
  cases dst with
  | none => rfl
  | some d => exact put_env fun e => h (by rw [e])
theorem act_env {A : AState} {dst : Option Nat} {r : WRes} {t : Nat} (h : dst ≠ some t) : (r.act A dst).env t = scrub r.kill A.env t := by
  cases dst with
  | none => rfl
  | some d =>
    show upd _ d _ t = _
    rw [upd_eq, if_neg fun e => h (by rw [e])]
theorem act_heap {A : AState} {dst : Option Nat} {r : WRes} : (r.act A dst).heap = r.heap := by cases dst <;> rfl
theorem put_heap {A : AState} {dst : Option Nat} {v : AV} : (A.put dst v).heap = A.heap := by cases dst <;> rfl

def scrubV (kill : Option Nat) (v : AV) : AV := match kill with
  | some id => scrub1 id v
  | none => v
theorem scrub_at (kill : Option Nat) (env : Nat → AV) (t : Nat) : scrub kill env t = scrubV kill (env t) := by cases kill <;> rfl

/-- A write and a value for another slot. -/
theorem act_put {A : AState} {x y : Option Nat} {r : WRes} {v : AV} (h : ∀ d, x = some d → y ≠ some d) : r.act (A.put x v) y = (r.act A y).put x (scrubV r.kill v) := by
  cases x with
  | none => rfl
  | some d =>
    cases y with
    | none =>
      unfold WRes.act AState.put
      simp only [AState.mk.injEq, and_true]
      funext t
      rw [scrub_at, upd_eq, upd_eq, scrub_at]
      split <;> rfl
    | some e =>
      have hne : d ≠ e := fun he => h d rfl (by rw [he])
      unfold WRes.act AState.put
      simp only [AState.mk.injEq, and_true]
      funext t
      rw [upd_eq, scrub_at, upd_eq, upd_eq, upd_eq, scrub_at]
      by_cases h1 : t = e
      · by_cases h2 : t = d
        · exact absurd (h2.symm.trans h1) hne
        · rw [if_pos h1, if_neg h2, if_pos h1]
      · rw [if_neg h1]
        by_cases h2 : t = d
        · rw [if_pos h2, if_pos h2]
        · rw [if_neg h2, if_neg h2, if_neg h1]

theorem wanted_scrub (o : Oper) (kill : Option Nat) (env : Nat → AV) : wantedA ops o (scrub kill env) = wantedA ops o env := by
  unfold wantedA
  cases o.guard with
  | none => rfl
  | some p =>
    obtain ⟨j, want⟩ := p
    simp only
    cases hd : (ops[j]?).bind (·.dst) with
    | none => rfl
    | some dj =>
      simp only
      rw [scrub_at]
      cases kill with
      | none => rfl
      | some id =>
        simp only [scrubV]
        cases env dj with
        | d x => rfl
        | own i => simp only [scrub1]; cases Nat.beq i id <;> rfl
        | ptr i o => simp only [scrub1]; cases Nat.beq i id <;> rfl
        | eptr i s ix o => simp only [scrub1]; cases Nat.beq i id <;> rfl
        | win i s ix o => simp only [scrub1]; cases Nat.beq i id <;> rfl
        | clo f c => rfl
        | tup l => rfl
        | bnd f l => rfl

theorem bif30 {b : Bool} : ¬ ((bif b then 3 else 1) = 0) := by cases b <;> decide

theorem bif10 {b : Bool} : ¬ ((bif b then 1 else 3) = 0) := by cases b <;> decide
/-- A move's value. -/
theorem move_spec {o : Oper} (hc : cls H o = 0) : ∃ x, (o.op = .move x ∨ o.op = .assign x ∨ ∃ ix, o.op = .extract x ix) := by
  obtain ⟨dst, op, type, pos, after, guard⟩ := o
  cases op <;> simp only [cls] at hc <;> try (cases hc; done)
  case move x => exact ⟨x, .inl rfl⟩
  case assign x => exact ⟨x, .inr (.inl rfl)⟩
  case extract x ix => exact ⟨x, .inr (.inr ⟨ix, rfl⟩)⟩
  case alloc t => cases dst <;> simp [cls.mk] at hc
  case box t x => cases dst <;> simp [cls.mk] at hc
  case makeSlice t l c => cases dst <;> simp [cls.mk] at hc
  case slice t x lo hi mx =>
    split at hc
    · rename_i d
      cases h9 : memN d H.dm <;> rw [h9] at hc <;> simp at hc
    · simp at hc
  case call c => split at hc <;> first | (simp at hc; done) | (exact absurd hc bif30) | (exact absurd hc bif10) | (split at hc <;> first | (simp at hc; done) | (exact absurd hc bif10))
  case buildSlice t len ps => cases dst <;> first | (exact absurd hc bif30) | (simp at hc)

theorem scrubV_tup {kill : Option Nat} {v : AV} {l : List D} : scrubV kill v = .tup l ↔ v = .tup l := by
  cases kill with
  | none => exact Iff.rfl
  | some id =>
    simp only [scrubV]
    cases v with
    | own i => simp only [scrub1]; cases Nat.beq i id <;> simp
    | ptr i o => simp only [scrub1]; cases Nat.beq i id <;> simp
    | eptr i s ix o => simp only [scrub1]; cases Nat.beq i id <;> simp
    | win i s ix o => simp only [scrub1]; cases Nat.beq i id <;> simp
    | d x => simp [scrub1]
    | clo f c => simp [scrub1]
    | tup l => simp [scrub1]
    | bnd f l => simp [scrub1]
theorem scrubV_d (kill : Option Nat) (d : D) : scrubV kill (.d d) = .d d := by cases kill <;> rfl
theorem q_extract_eq {T : Ctx} {x : Operand} {ix : Nat} {ρ : Env} {h : Hp} {k : AV → Prop} : qstep T (.extract x ix) ρ h k ↔ ∃ l d, ρ x = .tup l ∧ l[ix]? = some d ∧ k (.d d) := by
  simp only [qstep]
  constructor
  · intro hq
    split at hq
    · rename_i l hl
      split at hq
      · rename_i d hd
        exact ⟨l, d, hl, hd, hq⟩
      · exact hq.elim
    · exact hq.elim
  · rintro ⟨l, d, hl, hd, hk⟩
    rw [hl]
    simp only [hd]
    exact hk

/-- A move, behind a write to an object or ahead of it. -/
theorem move_act {o : Oper} (hc : cls H o = 0) {A : AState} {v : AV} (h : GE T H ops o A (.set v)) {kill : Option Nat} {A' : AState} (hev : ∀ z ∈ o.op.operands, A'.ev z = scrubV kill (A.ev z)) (hw : wantedA ops o A'.env = wantedA ops o A.env) :
    GE T H ops o A' (.set (scrubV kill v)) := by
  rcases h with ⟨h1, h2⟩ | ⟨h1, h2, h3⟩
  · subst h2
    exact .inl ⟨by rw [hw]; exact h1, by cases kill <;> rfl⟩
  · obtain ⟨x, hx⟩ := move_spec hc
    have hv := h3 (fun z => z = v) rfl
    refine .inr ⟨by rw [hw]; exact h1, h2, fun k hk => ?_⟩
    rcases hx with hx | hx | ⟨ix, hx⟩
    · rw [hx] at hv hev ⊢; simp only [qstep] at hv ⊢; rw [hev x (by simp [Op.operands]), hv]; exact hk
    · rw [hx] at hv hev ⊢; simp only [qstep] at hv ⊢; rw [hev x (by simp [Op.operands]), hv]; exact hk
    · rw [hx] at hv hev ⊢
      obtain ⟨l, d, h4, h5, h6⟩ := q_extract_eq.1 hv
      subst h6
      rw [scrubV_d] at hk
      exact q_extract_eq.2 ⟨l, d, by rw [hev x (by simp [Op.operands])]; exact scrubV_tup.2 h4, h5, hk⟩
/-- .. and back: what it has there comes from what it has here. -/
theorem move_back {o : Oper} (hc : cls H o = 0) {A : AState} {v : AV} {kill : Option Nat} {A' : AState} (hev : ∀ z ∈ o.op.operands, A'.ev z = scrubV kill (A.ev z)) (hw : wantedA ops o A'.env = wantedA ops o A.env)
    (h : GE T H ops o A' (.set v)) : ∃ v0, GE T H ops o A (.set v0) ∧ v = scrubV kill v0 := by
  rcases h with ⟨h1, h2⟩ | ⟨h1, h2, h3⟩
  · subst h2
    exact ⟨aundef, .inl ⟨by rw [← hw]; exact h1, rfl⟩, by cases kill <;> rfl⟩
  · obtain ⟨x, hx⟩ := move_spec hc
    have hv := h3 (fun z => z = v) rfl
    rcases hx with hx | hx | ⟨ix, hx⟩
    · refine ⟨A.ev x, .inr ⟨by rw [← hw]; exact h1, h2, fun k hk => by rw [hx]; exact hk⟩, ?_⟩
      rw [hx] at hv hev; simp only [qstep] at hv; rw [← hv, hev x (by simp [Op.operands])]
    · refine ⟨A.ev x, .inr ⟨by rw [← hw]; exact h1, h2, fun k hk => by rw [hx]; exact hk⟩, ?_⟩
      rw [hx] at hv hev; simp only [qstep] at hv; rw [← hv, hev x (by simp [Op.operands])]
    · rw [hx] at hv hev
      obtain ⟨l, d, h4, h5, h6⟩ := q_extract_eq.1 hv
      rw [hev x (by simp [Op.operands])] at h4
      refine ⟨.d d, .inr ⟨by rw [← hw]; exact h1, h2, fun k hk => by rw [hx]; exact q_extract_eq.2 ⟨l, d, scrubV_tup.1 h4, h5, hk⟩⟩, ?_⟩
      rw [scrubV_d, ← h6]

theorem scrub_none (v : AV) : scrubV none v = v := rfl

theorem comm {oi oj : Oper} (hp : pairOK H ops oi oj = true) {A : AState} (hwf : wfA A) {ei ej : Eff} (hi : GE T H ops oi A ei) (hj : GE T H ops oj (ei.app A oi.dst) ej) :
    ∃ ei' ej', GE T H ops oj A ej' ∧ GE T H ops oi (ej'.app A oj.dst) ei' ∧ ei'.app (ej'.app A oj.dst) oi.dst = ej.app (ei.app A oi.dst) oj.dst := by
  unfold pairOK at hp
  simp only [Bool.and_eq_true] at hp
  obtain ⟨⟨hij, hji⟩, hcl⟩ := hp
  cases ei with
  | set vi =>
    obtain ⟨e1, e2, e3⟩ := apart_ev' hij (A := A) (A' := A.put oi.dst vi) (fun t ht => put_env' ht)
    cases ej with
    | set vj =>
      have hj' : GE T H ops oj A (.set vj) := GE.move (fun z hz => (e1 z hz).symm) e2.symm put_heap.symm hj
      obtain ⟨f1, f2, f3⟩ := apart_ev' hji (A := A) (A' := A.put oj.dst vj) (fun t ht => put_env' ht)
      exact ⟨.set vi, .set vj, hj', GE.move f1 f2 put_heap hi, (put_comm' e3).symm⟩
    | obj rj =>
      have hj' : GE T H ops oj A (.obj rj) := GE.move (fun z hz => (e1 z hz).symm) e2.symm put_heap.symm hj
      obtain ⟨g1, g2, g3⟩ := hj'
      by_cases hc2 : cls H oj = 2
      · obtain ⟨d, n, ob, val, k1, k2, k3, k4, k5, k6⟩ := make_spec hc2 g3
        obtain ⟨f1, f2, f3⟩ := apart_ev' hji (A := A) (A' := rj.act A oj.dst) (fun t ht => by rw [act_env ht, k4]; rfl)
        refine ⟨.set vi, .obj rj, ⟨g1, g2, g3⟩, GE.heap f1 f2 (fun z hz id hid => ?_) hi, ?_⟩
        · rw [show (Eff.obj rj).app A oj.dst = rj.act A oj.dst from rfl, act_heap, k4]
          show A.heap id = upd A.heap n (some ob) id
          rw [upd_eq, if_neg]
          intro e
          subst e
          exact hwf.ev z _ hid k3
        · show (rj.act A oj.dst).put oi.dst vi = rj.act (A.put oi.dst vi) oj.dst
          rw [act_put e3, k4]; rfl
      · -- a move beside a write
        have hc0 : cls H oi = 0 := by
          unfold clsOK at hcl
          simp only [Bool.or_eq_true, Bool.and_eq_true] at hcl
          rcases hcl with (⟨h1, h2⟩ | ⟨h1, h2⟩) | ⟨h1, h2⟩
          · have := Nat.le_of_ble_eq_true h2; omega
          · exact Nat.eq_of_beq_eq_true h1
          · have := Nat.eq_of_beq_eq_true h2; omega
        have f1 : ∀ z ∈ oi.op.operands, (rj.act A oj.dst).ev z = scrubV rj.kill (A.ev z) := by
          intro z hz
          have f := (apart_ev' hji (A := ⟨scrub rj.kill A.env, rj.heap⟩) (A' := rj.act A oj.dst) (fun t ht => act_env ht)).1 z hz
          rw [f]
          cases z with
          | tmp t => exact scrub_at _ _ _
          | _ => cases rj.kill <;> rfl
        have f2 : wantedA ops oi (rj.act A oj.dst).env = wantedA ops oi A.env := by
          rw [(apart_ev' hji (A := ⟨scrub rj.kill A.env, rj.heap⟩) (A' := rj.act A oj.dst) (fun t ht => act_env ht)).2.1]
          exact wanted_scrub _ _ _
        exact ⟨.set (scrubV rj.kill vi), .obj rj, ⟨g1, g2, g3⟩, move_act hc0 hi f1 f2, (act_put e3).symm⟩
  | obj ri =>
    obtain ⟨g1, g2, g3⟩ := hi
    by_cases hc2 : cls H oi = 2
    · obtain ⟨d, n, ob, val, k1, k2, k3, k4, k5, k6⟩ := make_spec hc2 g3
      obtain ⟨e1, e2, e3⟩ := apart_ev' hij (A := A) (A' := ri.act A oi.dst) (fun t ht => by rw [act_env ht, k4]; rfl)
      cases ej with
      | set vj =>
        have hj' : GE T H ops oj A (.set vj) := GE.heap (fun z hz => (e1 z hz).symm) e2.symm (fun z hz id hid => by
          rw [act_heap, k4]
          show upd A.heap n (some ob) id = A.heap id
          rw [upd_eq, if_neg]
          intro e
          subst e
          rw [e1 z hz] at hid
          exact hwf.ev z _ hid k3) hj
        obtain ⟨f1, f2, f3⟩ := apart_ev' hji (A := A) (A' := A.put oj.dst vj) (fun t ht => put_env' ht)
        refine ⟨.obj ri, .set vj, hj', GE.move f1 f2 put_heap ⟨g1, g2, g3⟩, ?_⟩
        show ri.act (A.put oj.dst vj) oi.dst = (ri.act A oi.dst).put oj.dst vj
        rw [act_put f3, k4]; rfl
      | obj rj =>
        obtain ⟨l1, l2, l3⟩ := hj
        have hcj : cls H oj = 2 := by
          unfold clsOK at hcl
          simp only [Bool.or_eq_true, Bool.and_eq_true] at hcl
          rcases hcl with (⟨h1, h2⟩ | ⟨h1, h2⟩) | ⟨h1, h2⟩
          · have := Nat.le_of_ble_eq_true h2; omega
          · have := Nat.eq_of_beq_eq_true h1; omega
          · have := Nat.eq_of_beq_eq_true h1; omega
        obtain ⟨d', n', ob', val', m1, m2, m3, m4, m5, m6⟩ := make_spec hcj l3
        have hdd0 : d ≠ d' := fun e => e3 d k1 (by rw [m1, e])
        have hdd : n ≠ n' := by
          intro e
          apply hdd0
          exact Nat.add_left_cancel (k2.symm.trans (e.trans m2))
        have hA : (Eff.obj ri).app A oi.dst = ri.act A oi.dst := rfl
        rw [hA, act_heap, k4] at m3
        have m3' : A.heap n' = none := by
          rw [show (⟨none, upd A.heap n (some ob), val⟩ : WRes).heap = upd A.heap n (some ob) from rfl, upd_eq, if_neg (Ne.symm hdd)] at m3
          exact m3
        have hj' : GE T H ops oj A (.obj ⟨none, upd A.heap n' (some ob'), val'⟩) :=
          ⟨by rw [← e2]; exact l1, l2, fun k hk => by
            rw [← w_congr T oj.op (nid T oj) A.heap e1]
            exact m6 A.heap m3' k hk⟩
        obtain ⟨f1, f2, f3⟩ := apart_ev' hji (A := A) (A' := (⟨none, upd A.heap n' (some ob'), val'⟩ : WRes).act A oj.dst) (fun t ht => by rw [act_env ht]; rfl)
        refine ⟨.obj ⟨none, upd (upd A.heap n' (some ob')) n (some ob), val⟩, .obj ⟨none, upd A.heap n' (some ob'), val'⟩, hj', ⟨by rw [show (Eff.obj _).app A oj.dst = WRes.act _ A oj.dst from rfl, f2]; exact g1, g2, fun k hk => ?_⟩, ?_⟩
        · show wstep T oi.op (nid T oi) ((⟨none, upd A.heap n' (some ob'), val'⟩ : WRes).act A oj.dst).ev ((⟨none, upd A.heap n' (some ob'), val'⟩ : WRes).act A oj.dst).heap k
          rw [w_congr T oi.op (nid T oi) _ f1, act_heap]
          exact k6 _ (by show upd A.heap n' (some ob') n = none; rw [upd_eq, if_neg hdd]; exact k3) k hk
        · rw [m4, k4, k1, m1]
          show (⟨upd (upd A.env d' val') d val, _⟩ : AState) = ⟨upd (upd A.env d val) d' val', _⟩
          have sw : ∀ {α : Type} (f : Nat → α) (d d' : Nat) (hdd : d ≠ d') (x y : α), upd (upd f d' x) d y = upd (upd f d y) d' x := by
            intro α f d d' hdd x y
            funext t
            simp only [upd_eq]
            by_cases h1 : t = d
            · rw [if_pos h1]; subst h1; rw [if_neg hdd, if_pos rfl]
            · rw [if_neg h1, if_neg h1]
          simp only [AState.mk.injEq]
          refine ⟨sw _ _ _ hdd0 _ _, ?_⟩
          show upd (upd A.heap n' (some ob')) n (some ob) = upd (upd A.heap n (some ob)) n' (some ob')
          exact sw _ _ _ hdd _ _
    · -- a write ahead of a move
      have hc0 : cls H oj = 0 := by
        unfold clsOK at hcl
        simp only [Bool.or_eq_true, Bool.and_eq_true] at hcl
        rcases hcl with (⟨h1, h2⟩ | ⟨h1, h2⟩) | ⟨h1, h2⟩
        · have := Nat.le_of_ble_eq_true h1; omega
        · have := Nat.eq_of_beq_eq_true h1; omega
        · exact Nat.eq_of_beq_eq_true h2
      cases ej with
      | obj rj => have := hj.2.1.1; omega
      | set vj =>
        have f1 : ∀ z ∈ oj.op.operands, (ri.act A oi.dst).ev z = scrubV ri.kill (A.ev z) := by
          intro z hz
          have f := (apart_ev' hij (A := ⟨scrub ri.kill A.env, ri.heap⟩) (A' := ri.act A oi.dst) (fun t ht => act_env ht)).1 z hz
          rw [f]
          cases z with
          | tmp t => exact scrub_at _ _ _
          | _ => cases ri.kill <;> rfl
        have f2 : wantedA ops oj (ri.act A oi.dst).env = wantedA ops oj A.env := by
          rw [(apart_ev' hij (A := ⟨scrub ri.kill A.env, ri.heap⟩) (A' := ri.act A oi.dst) (fun t ht => act_env ht)).2.1]
          exact wanted_scrub _ _ _
        obtain ⟨v0, hv0, rfl⟩ := move_back hc0 f1 f2 hj
        obtain ⟨p1, p2, p3⟩ := apart_ev' hji (A := A) (A' := A.put oj.dst v0) (fun t ht => put_env' ht)
        exact ⟨.obj ri, .set v0, hv0, GE.move p1 p2 put_heap ⟨g1, g2, g3⟩, act_put p3⟩

end
end Fw
end
section
/- Every order of a region comes to what the order of the text comes to. -/
set_option linter.unusedVariables false
set_option linter.unusedSimpArgs false
namespace Fw
open Go Go.RowKit

section
variable {T : Ctx} {H : Hints} {ops : Array Oper}

theorem bif_elim {b : Bool} {X : Prop} (h : bif b then X else False) : X := by
  cases b
  · exact h.elim
  · exact h

theorem capOf_ids {h : Hp} : ∀ {xs : List AV} {cs : List (D ⊕ (Nat × Nat))}, optAll (xs.map qmakeFunc.capOf) = some cs → (∀ x ∈ xs, ∀ id ∈ x.ids, h id ≠ none) → ∀ id ∈ capIds cs, h id ≠ none
  | [], cs, hc, _, id, hid => by simp [optAll] at hc; subst hc; simp [capIds] at hid
  | x :: xs, cs, hc, hx, id, hid => by
    rw [List.map_cons] at hc
    obtain ⟨c, ys, e1, e2, e3⟩ := optAll_cons hc
    subst e3
    have ih := capOf_ids (h := h) e2 (fun y hy => hx y (by simp [hy]))
    cases x with
    | d y =>
      simp only [qmakeFunc.capOf, Option.some.injEq] at e1
      subst e1
      exact ih id hid
    | ptr i off =>
      simp only [qmakeFunc.capOf, Option.some.injEq] at e1
      subst e1
      simp only [capIds, List.mem_cons] at hid
      rcases hid with rfl | hid
      · exact hx (.ptr id off) (by simp) id (by simp [AV.ids])
      · exact ih id hid
    | _ => simp [qmakeFunc.capOf] at e1

/-- What a quiet step yields refers to objects that its operands refer to. -/
theorem q_ids {op : Op} {ρ : Env} {h : Hp} {v : AV} (ha : ∀ x : Operand, ∀ id ∈ (ρ x).ids, h id ≠ none) (hq : qstep T op ρ h (fun z => z = v)) : ∀ id ∈ v.ids, h id ≠ none := by
  have dat : ∀ {d : D}, AV.d d = v → ∀ id ∈ v.ids, h id ≠ none := fun hd id hid => by subst hd; simp [AV.ids] at hid
  have res : ∀ {C : Con} {args : List AV}, qcon C h args (fun z => z = v) → ∀ id ∈ v.ids, h id ≠ none := by
    intro C args hc id hid
    unfold qcon at hc
    split at hc
    · split at hc
      · rename_i x _
        replace hc := bif_elim hc
        have := hc.2; subst this; rw [resAV_ids] at hid; simp at hid
      · exact hc.elim
    · exact hc.elim
  have cel : ∀ {i : TInf} {cs : List D}, cellsAt i cs (fun z => z = v) → ∀ id ∈ v.ids, h id ≠ none := by
    intro i cs hc
    unfold cellsAt at hc
    cases hb : i.desc.agg <;> rw [hb] at hc
    · simp only [cond_false] at hc
      split at hc
      · exact dat hc
      · exact hc.elim
    · simp only [cond_true] at hc
      replace hc := bif_elim hc
      exact dat hc
  cases op <;> simp only [qstep] at hq <;> try (exact hq.elim)
  case move x => subst hq; exact ha x
  case assign x => subst hq; exact ha x
  case pick c a b =>
    unfold qpick at hq
    split at hq
    · split at hq
      · exact dat hq
      · unfold Br at hq
        split at hq
        · subst hq; exact ha a
        · subst hq; exact ha b
    · exact hq.elim
  case load t a =>
    unfold qload at hq
    split at hq
    · split at hq
      · exact cel hq
      · split at hq
        · exact cel hq
        · exact hq.elim
      · split at hq
        · rename_i sz ix off e t' xs _
          replace hq := bif_elim hq
          exact cel hq.2.2
        · exact hq.elim
      · exact hq.elim
    · exact hq.elim
  case nilCheck x =>
    unfold qnil at hq
    split at hq
    · subst hq; exact ha x
    · exact hq.elim
  case binOp op t x y yt =>
    unfold qbin at hq
    split at hq
    · rename_i kd a kd' b _ _
      replace hq := bif_elim hq
      
      cases op <;> simp only [qint] at hq <;> first | exact dat hq | exact dat hq.2
    · cases op <;> first | exact hq.elim | exact dat hq | exact dat hq.2
    · split at hq
      · split at hq
        · cases op <;> first | exact hq.elim | exact dat hq
        · split at hq <;> first | exact hq.elim | exact dat hq
      · exact hq.elim
  case unOp op t x => unfold qun at hq; split at hq <;> first | exact dat hq | exact hq.elim
  case convert s t x =>
    unfold qconv at hq
    split at hq
    · split at hq
      · exact dat hq
      · split at hq
        · split at hq <;> first | exact dat hq | exact hq.elim
        · exact hq.elim
      · exact hq.elim
    · exact hq.elim
  case makeInterface t x =>
    split at hq
    · split at hq
      · exact hq.elim
      · exact dat hq
    · exact hq.elim
  case makeFunc fn first caps =>
    unfold qmakeFunc at hq
    split at hq
    · split at hq
      · subst hq; simp [AV.ids]
      · exact hq.elim
    · split at hq
      · rename_i cs hcs
        unfold qmakeFunc.pack at hq
        split at hq
        · exact dat hq
        · subst hq
          refine capOf_ids hcs fun x hx => ?_
          obtain ⟨y, _, rfl⟩ := List.mem_map.1 hx
          exact ha y
      · exact hq.elim
    · exact hq.elim
  case build t parts =>
    unfold qbuild at hq
    repeat' (split at hq <;> try (exact hq.elim))
    all_goals exact dat hq
  case buildSlice t len parts =>
    unfold qbuildSlice at hq
    split at hq
    · rename_i e ie _
      unfold qbs at hq
      split at hq
      · cases hb : (Nat.beq ie.size (tyOf T.tt 6 e).size && Nat.blt 0 (len * ie.size) && Nat.ble (len * ie.size) 1000000) <;> rw [hb] at hq
        · exact hq.elim
        · simp only [cond_true] at hq
          split at hq
          · split at hq
            · exact dat hq
            · exact hq.elim
          · exact hq.elim
      · exact hq.elim
    · exact hq.elim
  case slice t x lo hi mx =>
    have hx := ha x
    split at hq
    · rename_i id he
      unfold qwin at hq
      split at hq
      · split at hq
        · replace hq := bif_elim hq
          have := hq.2.2.2
          subst this
          rw [he] at hx; simpa [AV.ids] using hx
        · exact hq.elim
      · exact hq.elim
    unfold qslice at hq
    split at hq
    · split at hq
      · split at hq
        · unfold cutOf at hq
          split at hq <;> first | exact dat hq | exact dat hq.2.2 | exact dat hq.2.2.2 | exact hq.elim
        · exact hq.elim
      · split at hq
        · rename_i t' xs _ _ ie _
          replace hq := bif_elim hq
          
          split at hq
          · unfold cutOf at hq
            split at hq <;> first | exact dat hq | exact dat hq.2.2 | exact dat hq.2.2.2 | exact hq.elim
          · unfold cutOf3 at hq
            split at hq <;> first | exact dat hq.2.2.2 | exact dat hq.2.2.2.2 | exact hq.elim
          · exact hq.elim
        · exact hq.elim
      · exact hq.elim
    · exact hq.elim
  case fieldAddr s x f =>
    unfold qfieldAddr at hq
    have hx := ha x
    split at hq
    · split at hq
      · exact dat hq
      · rename_i id o he; subst hq; rw [he] at hx; simpa [AV.ids] using hx
      · rename_i id sz i o he; subst hq; rw [he] at hx; simpa [AV.ids] using hx
      · exact hq.elim
    · exact hq.elim
  case field t x f =>
    unfold qfield at hq
    split at hq
    · split at hq
      · exact cel hq
      · exact hq.elim
    · exact hq.elim
  case indexAddr t x ix =>
    unfold qindexAddr at hq
    have hx := ha x
    split at hq
    · split at hq
      · rename_i e ie _
        split at hq
        · rename_i id he
          split at hq
          · rename_i e' t' xs hid
            replace hq := bif_elim hq
            have := hq.2.2
            subst this
            rw [he] at hx; simpa [AV.ids] using hx
          · exact hq.elim
        · rename_i id sz lo n he
          split at hq
          · rename_i e' t' xs hid
            replace hq := bif_elim hq
            have := hq.2.2
            subst this
            rw [he] at hx; simpa [AV.ids] using hx
          · exact hq.elim
        · rename_i f t' xs he
          replace hq := bif_elim hq
          exact dat hq.2.2
        · exact hq.elim
      · split at hq
        · split at hq
          · rename_i id off he
            obtain ⟨m, _, _, hq⟩ := arrBr_spec hq
            subst hq
            rw [he] at hx; simpa [AV.ids] using hx
          · obtain ⟨m, _, _, hq⟩ := arrBr_spec hq
            exact dat hq
          · exact hq.elim
        · exact hq.elim
    · exact hq.elim
  case index t x ix =>
    unfold qindex at hq
    split at hq
    · split at hq
      · split at hq
        · exact dat hq.2.2
        · exact hq.elim
      · exact hq.elim
    · exact hq.elim
  case extract t ix =>
    split at hq
    · split at hq
      · exact dat hq
      · exact hq.elim
    · exact hq.elim
  case call c =>
    unfold qcall at hq
    split at hq
    · split at hq
      · exact res hq
      · exact hq.elim
    · unfold qcallv at hq
      split at hq
      · split at hq
        · exact res hq
        · exact hq.elim
      · split at hq
        · exact res hq
        · split at hq
          · split at hq
            · exact res hq
            · exact hq.elim
          · exact hq.elim
      · exact hq.elim
    · split at hq
      · exact res hq
      · exact hq.elim
    · unfold qbuiltin at hq
      split at hq
      · split at hq
        · split at hq
          · exact dat hq
          · exact hq.elim
        · exact hq.elim
      · rename_i kd x kd' y _
        replace hq := bif_elim hq
        exact dat hq
      · rename_i kd x kd' y _
        replace hq := bif_elim hq
        exact dat hq
      · unfold qapf at hq
        split at hq
        · replace hq := bif_elim hq
          exact dat hq.2
        · exact hq.elim
      · exact hq.elim

/-- Objects stay, but for the one that goes. -/
theorem flat_ids {v : AV} (h : v.flat = true) : v.ids = [] := by cases v <;> first | rfl | cases h
def WOk (h : Hp) (r : WRes) : Prop := (∀ id, h id ≠ none → r.kill ≠ some id → r.heap id ≠ none) ∧ ∀ id ∈ r.val.ids, r.heap id ≠ none

theorem wok_set {h : Hp} {d : Nat} {o : Obj} {v : AV} (hv : ∀ id ∈ v.ids, id = d) : WOk h ⟨none, upd h d (some o), v⟩ := by
  refine ⟨fun id hid _ => ?_, fun id hid => ?_⟩
  · show upd h d (some o) id ≠ none
    rw [upd_eq]; split
    · simp
    · exact hid
  · show upd h d (some o) id ≠ none
    rw [upd_eq, if_pos (hv id hid)]; simp
theorem wok_move {h : Hp} {i d : Nat} {o : Obj} {v : AV} (hv : ∀ id ∈ v.ids, id = d) : WOk h ⟨some i, upd (upd h i none) d (some o), v⟩ := by
  refine ⟨fun id hid hk => ?_, fun id hid => ?_⟩
  · show upd (upd h i none) d (some o) id ≠ none
    rw [upd_eq, upd_eq]; split
    · simp
    · rw [if_neg fun e => hk (by rw [e])]; exact hid
  · show upd (upd h i none) d (some o) id ≠ none
    rw [upd_eq, if_pos (hv id hid)]; simp

theorem elems_ok {h h2 : Hp} {t : Ty} {x : AV} {r : WRes} {F : List t.El → Prop} (he : elems h t x F) (hF : ∀ ys, F ys → WOk h2 r) : WOk h2 r := by
  unfold elems at he
  split at he
  · split at he
    · exact hF _ he
    · exact he.elim
  · exact hF _ he
  · exact he.elim

theorem w_ids {op : Op} {d : Nat} {ρ : Env} {h : Hp} {r : WRes} (hw : wstep T op d ρ h (fun z => z = r)) : WOk h r := by
  cases op <;> simp only [wstep] at hw <;> try (exact hw.elim)
  case alloc t =>
    split at hw
    · subst hw; exact wok_set (by simp [AV.ids])
    · exact hw.elim
  case box t x =>
    split at hw
    · rename_i v _ _
      replace hw := bif_elim hw
      have hw' : _ = r := hw
      subst hw'; exact wok_set (by simp [AV.ids])
    · exact hw.elim
  case makeSlice t l c =>
    unfold wmake at hw
    split at hw
    · rename_i e ie _ _ _ _
      unfold wmk at hw
      split at hw
      · cases hb : (Nat.beq ie.size (tyOf T.tt 6 e).size && Nat.blt 0 ie.size && Nat.blt 0 ie.bytes) <;> rw [hb] at hw
        · exact hw.elim
        · have := hw.2.2.2
          subst this; exact wok_set (by simp [AV.ids])
      · exact hw.elim
    · exact hw.elim
  case store t a x =>
    split at hw
    · rename_i i _
      unfold wstore at hw
      split at hw
      · rename_i v _
        split at hw
        · rename_i id off _
          split at hw
          · rename_i cs _
            replace hw := bif_elim hw
            have hw' : _ = r := hw
            subst hw'; exact wok_set (by simp [AV.ids, aundef])
          · exact hw.elim
        · rename_i id s ix off _
          split at hw
          · rename_i e t' xs _
            replace hw := bif_elim hw
            have h3 := hw.2.2
            split at h3
            · subst h3; exact wok_set (by simp [AV.ids, aundef])
            · exact h3.elim
          · exact hw.elim
        · exact hw.elim
      · exact hw.elim
    · exact hw.elim
  case slice t x lo hi mx =>
    unfold wcut at hw
    split at hw
    · split at hw
      · rename_i id _
        split at hw
        · split at hw
          · cases hb : (Nat.ble T.base id && okId h id d) <;> rw [hb] at hw
            · exact hw.elim
            · have := hw.2.2
              subst this; exact wok_move (by simp [AV.ids])
          · exact hw.elim
        · exact hw.elim
      · exact hw.elim
    · exact hw.elim
  case call c =>
    split at hw
    · rename_i s x ts tx _ _
      unfold wappend at hw
      split at hw
      · rename_i e ie _
        replace hw := bif_elim hw
        
        split at hw
        · rename_i id _
          split at hw
          · rename_i e' t xs _
            replace hw := bif_elim hw
            exact elems_ok hw fun ys hy => by have := hy.2; subst this; exact wok_move (by simp [AV.ids])
          · exact hw.elim
        · split at hw
          · unfold wapn at hw
            replace hw := bif_elim hw
            exact elems_ok hw fun ys hy => by have := hy.2; subst this; exact wok_set (by simp [AV.ids])
          · exact hw.elim
        · exact hw.elim
      · exact hw.elim
    · rename_i s x ts tx _ _
      unfold wcopy at hw
      split at hw
      · rename_i e ie _
        replace hw := bif_elim hw
        
        split at hw
        · split at hw
          · rename_i e' t xs _
            replace hw := bif_elim hw
            exact elems_ok hw fun ys hy => by subst hy; exact wok_set (by simp [AV.ids])
          · exact hw.elim
        · exact hw.elim
      · exact hw.elim
    · split at hw
      · rename_i f args _ _ pt _
        unfold wcallp at hw
        replace hw := bif_elim hw
        split at hw
        · rename_i p v h' hfn
          obtain ⟨_, rfl⟩ := hw
          obtain ⟨k1, _, k3, _⟩ := pt.ok _ _ _ _ _ hfn
          exact ⟨fun id hid _ => (k1 id).2 hid, fun id hid => by rw [flat_ids k3] at hid; cases hid⟩
        · exact hw.elim
      · exact hw.elim
    · exact hw.elim
  case buildSlice t len parts =>
    split at hw
    · rename_i e ie hfree _
      unfold wbs at hw
      split at hw
      · replace hw := bif_elim hw
        split at hw
        · split at hw
          · have := hw; subst this; exact wok_set (by simp [AV.ids])
          · exact hw.elim
        · exact hw.elim
      · exact hw.elim
    · exact hw.elim
  case range t x =>
    split at hw
    · split at hw
      · have := hw; subst this; exact wok_set (by simp [AV.ids])
      · exact hw.elim
    · exact hw.elim
  case next x b =>
    replace hw := bif_elim hw
    unfold wnext at hw
    split at hw
    · split at hw
      · replace hw := bif_elim hw
        rename_i s pos _
        cases hc : decide (pos < s.size) <;> rw [hc] at hw
        · have hw' : _ = r := hw
          subst hw'; exact wok_set (by simp [AV.ids])
        · have hw' : _ = r := hw.2
          subst hw'; exact wok_set (by simp [AV.ids])
      · exact hw.elim
    · exact hw.elim

theorem ge_wf {o : Oper} {A : AState} {e : Eff} (hwf : wfA A) (h : GE T H ops o A e) : wfA (e.app A o.dst) := by
  cases e with
  | set av =>
    have hav : ∀ id ∈ av.ids, A.heap id ≠ none := by
      rcases h with ⟨_, rfl⟩ | ⟨_, _, h3⟩
      · simp [AV.ids, aundef]
      · exact q_ids hwf.ev (h3 (fun z => z = av) rfl)
    intro t id hid
    rw [show ((Eff.set av).app A o.dst).heap = A.heap from put_heap]
    by_cases hd : o.dst = some t
    · rw [show (Eff.set av).app A o.dst = A.put o.dst av from rfl, hd] at hid
      have : (A.put (some t) av).env t = av := by show upd A.env t av t = av; rw [upd_eq, if_pos rfl]
      rw [this] at hid
      exact hav id hid
    · rw [show (Eff.set av).app A o.dst = A.put o.dst av from rfl, put_env' hd] at hid
      exact hwf t id hid
  | obj r =>
    obtain ⟨_, _, h3⟩ := h
    obtain ⟨k1, k2⟩ := w_ids (h3 (fun z => z = r) rfl)
    intro t id hid
    rw [show ((Eff.obj r).app A o.dst).heap = r.heap from act_heap]
    by_cases hd : o.dst = some t
    · rw [show (Eff.obj r).app A o.dst = r.act A o.dst from rfl, hd] at hid
      have : (r.act A (some t)).env t = r.val := by show upd _ t r.val t = r.val; rw [upd_eq, if_pos rfl]
      rw [this] at hid
      exact k2 id hid
    · rw [show (Eff.obj r).app A o.dst = r.act A o.dst from rfl, act_env hd, scrub_at] at hid
      have hne : r.kill ≠ some id ∧ id ∈ (A.env t).ids := by
        cases hk : r.kill with
        | none => rw [hk] at hid; exact ⟨by simp, hid⟩
        | some i =>
          rw [hk] at hid
          simp only [scrubV] at hid
          cases hx : A.env t with
          | d x => rw [hx] at hid; simp [scrub1, AV.ids] at hid
          | own j =>
            rw [hx] at hid
            simp only [scrub1] at hid
            cases hb : Nat.beq j i <;> rw [hb] at hid
            · simp only [cond_false, AV.ids, List.mem_singleton] at hid
              subst hid
              exact ⟨fun e => by injection e with e; subst e; simp at hb, by simp [AV.ids]⟩
            · simp [AV.ids] at hid
          | ptr j o =>
            rw [hx] at hid
            simp only [scrub1] at hid
            cases hb : Nat.beq j i <;> rw [hb] at hid
            · simp only [cond_false, AV.ids, List.mem_singleton] at hid
              subst hid
              exact ⟨fun e => by injection e with e; subst e; simp at hb, by simp [AV.ids]⟩
            · simp [AV.ids] at hid
          | win j s ix o =>
            rw [hx] at hid
            simp only [scrub1] at hid
            cases hb : Nat.beq j i <;> rw [hb] at hid
            · simp only [cond_false, AV.ids, List.mem_singleton] at hid
              subst hid
              exact ⟨fun e => by injection e with e; subst e; simp at hb, by simp [AV.ids]⟩
            · simp [AV.ids] at hid
          | eptr j s ix o =>
            rw [hx] at hid
            simp only [scrub1] at hid
            cases hb : Nat.beq j i <;> rw [hb] at hid
            · simp only [cond_false, AV.ids, List.mem_singleton] at hid
              subst hid
              exact ⟨fun e => by injection e with e; subst e; simp at hb, by simp [AV.ids]⟩
            · simp [AV.ids] at hid
          | clo f c => rw [hx] at hid; simp [scrub1, AV.ids] at hid
          | tup l => rw [hx] at hid; simp [scrub1, AV.ids] at hid
          | bnd f l => rw [hx] at hid; simp [scrub1, AV.ids] at hid
      exact k1 id (hwf t id hne.2) hne.1

end
end Fw
end
section
/- Regions are sound. -/
set_option linter.unusedVariables false
set_option linter.unusedSimpArgs false
namespace Fw
open Go Go.RowKit

section
variable {P : Program} {T : Ctx} {H : Hints} {ops : Array Oper}

def aAny (T : Ctx) (H : Hints) (ops : Array Oper) (K : AState → Prop) : Nat → Array Bool → AState → Prop
  | 0, listed, A => Region.ready .any ops listed = [] ∧ K A
  | f + 1, listed, A => (Region.ready .any ops listed = [] → K A) ∧
      ∀ i ∈ Region.ready .any ops listed, ∀ o, ops[i]? = some o → gstep T H ops o A (aAny T H ops K f (listed.setIfInBounds i true))

theorem blt_lt {a b : Nat} (h : Nat.blt a b = true) : a < b := by
  unfold Nat.blt at h
  exact Nat.le_of_ble_eq_true h

theorem waits_spec {o : Oper} {i : Nat} (h : waits o i = false) : ∀ e ∈ o.after, Region.binds .any e = true → e.on ≠ i := by
  intro e he hb heq
  unfold waits at h
  have := List.any_eq_false.1 h e (by simpa using he)
  simp only [Bool.and_eq_true, not_and] at this
  exact this hb (by subst heq; simp)

/-- Who is listed has all listed that it waits for. -/
def Shut (ops : Array Oper) (listed : Array Bool) : Prop := ∀ (m : Nat) (om : Oper), ops[m]? = some om → listed.getD m false = true → ∀ e ∈ om.after, Region.binds .any e = true → listed.getD e.on false = true
theorem getD_mono {listed : Array Bool} {x j : Nat} (h : listed.getD x false = true) : (listed.setIfInBounds j true).getD x false = true := by
  rw [Array.getD_eq_getD_getElem?] at h ⊢
  rw [Array.getElem?_setIfInBounds]
  split
  · rename_i e
    split
    · rfl
    · rename_i hx
      subst e
      rw [Array.getElem?_eq_none (by omega)] at h
      cases h
  · exact h
theorem Shut.set {listed : Array Bool} (hS : Shut ops listed) {j : Nat} {oj : Oper} (hj : ops[j]? = some oj) (hall : ∀ e ∈ oj.after, Region.binds .any e = true → listed.getD e.on false = true) : Shut ops (listed.setIfInBounds j true) := by
  intro m om hm hl e he hb
  by_cases hmj : m = j
  · subst hmj
    rw [hj] at hm
    injection hm with hm
    subst hm
    exact getD_mono (hall e he hb)
  · refine getD_mono (hS m om hm ?_ e he hb)
    rwa [getD_set_ne false (Ne.symm hmj)] at hl
theorem waits_no {listed : Array Bool} {o : Oper} {i : Nat} (hi : listed.getD i true = false) (hall : ∀ e ∈ o.after, Region.binds .any e = true → listed.getD e.on false = true) : waits o i = false := by
  cases hw : waits o i with
  | false => rfl
  | true =>
    unfold waits at hw
    obtain ⟨e, he, h5⟩ := List.any_eq_true.1 hw
    simp only [Bool.and_eq_true] at h5
    have h1 := hall e (by simpa using he) h5.1
    have heq := Nat.eq_of_beq_eq_true h5.2
    rw [heq] at h1
    rcases Nat.lt_or_ge i listed.size with h' | h'
    · simp [h'] at hi h1; rw [hi] at h1; cases h1
    · simp [Array.getElem?_eq_none h'] at h1
theorem waitsT_no {listed : Array Bool} (hS : Shut ops listed) {i : Nat} (hi : listed.getD i true = false) : ∀ (f : Nat) (o : Oper), (∀ e ∈ o.after, Region.binds .any e = true → listed.getD e.on false = true) → waitsT ops f o i = false
  | 0, o, hall => waits_no hi hall
  | f + 1, o, hall => by
    unfold waitsT
    rw [waits_no hi hall, Bool.false_or]
    refine List.any_eq_false.2 fun e he => ?_
    cases hb : Region.binds .any e with
    | false => simp
    | true =>
      rw [Bool.true_and]
      cases ho : ops[e.on]? with
      | none => simp
      | some o' =>
        simp only
        rw [waitsT_no hS hi f o' fun e' he' hb' => hS e.on o' ho (hall e (by simpa using he) hb) e' he' hb']
        simp
def Keep (ops : Array Oper) (A0 A : AState) : Prop := ∀ t i off, notDst ops (.tmp t) = true → A0.env t = .ptr i off → A.env t = .ptr i off ∨ A.env t = .d .top
theorem notDst_spec {t : Nat} (h : notDst ops (.tmp t) = true) {i : Nat} {o : Oper} (ho : ops[i]? = some o) : o.dst ≠ some t := by
  intro hd
  rw [← Array.getElem?_toList] at ho
  have := List.all_eq_true.1 h o (List.mem_of_getElem? ho)
  rw [hd] at this
  simp at this
theorem Keep.app {A0 A : AState} (h : Keep ops A0 A) {j : Nat} {o : Oper} (ho : ops[j]? = some o) {e : Eff} : Keep ops A0 (e.app A o.dst) := by
  intro t i off ht h0
  have hne := notDst_spec ht ho
  cases e with
  | set v => rw [show (Eff.set v).app A o.dst = A.put o.dst v from rfl, put_env' hne]; exact h t i off ht h0
  | obj r =>
    rw [show (Eff.obj r).app A o.dst = r.act A o.dst from rfl, act_env hne, scrub_at]
    rcases h t i off ht h0 with h1 | h1
    · rw [h1]
      cases r.kill with
      | none => exact .inl rfl
      | some id =>
        show (bif Nat.beq i id then AV.d .top else .ptr i off) = _ ∨ (bif Nat.beq i id then AV.d .top else .ptr i off) = _
        cases Nat.beq i id with
        | true => exact .inr rfl
        | false => exact .inl rfl
    · rw [h1, scrubV_d]; exact .inr rfl
theorem bif_left {b : Bool} {X : Prop} (h : bif b then X else False) : X := by
  cases b with
  | false => exact h.elim
  | true => exact h
theorem store_far {t : Nat} {a x : Operand} {n : Nat} {ρ : Operand → AV} {h : Hp} {r : WRes} {i off : Nat} (hp : ρ a = .ptr i off) (hw : wstep T (.store t a x) n ρ h (fun z => z = r)) :
    r.kill = none ∧ ∀ j, j ≠ i → r.heap j = h j := by
  simp only [wstep] at hw
  split at hw
  · unfold wstore at hw
    rw [hp] at hw
    split at hw
    · simp only at hw
      split at hw
      · rename_i cs hcs
        have hw := bif_left hw
        subst hw
        exact ⟨rfl, fun j hj => by show upd _ _ _ j = _; rw [upd_eq, if_neg hj]⟩
      · exact hw.elim
    · exact hw.elim
  · exact hw.elim
theorem farPQ_spec {A0 A : AState} (hK : Keep ops A0 A) {p q : Operand} (h : farPQ ops A0 p q = true) : ∃ i j o1 o2, i ≠ j ∧ (A.ev p = .ptr i o1 ∨ A.ev p = .d .top) ∧ (A.ev q = .ptr j o2 ∨ A.ev q = .d .top) := by
  unfold farPQ at h
  simp only [Bool.and_eq_true] at h
  obtain ⟨⟨h1, h2⟩, h3⟩ := h
  cases p with
  | tmp p =>
    cases q with
    | tmp q =>
      rw [show A0.ev (.tmp p) = A0.env p from rfl, show A0.ev (.tmp q) = A0.env q from rfl] at h3
      cases hp : A0.env p with
      | ptr i o1 =>
        cases hq : A0.env q with
        | ptr j o2 =>
          rw [hp, hq] at h3
          have : i ≠ j := fun e => by subst e; simp [ptrId] at h3
          exact ⟨i, j, o1, o2, this, hK p i o1 h1 hp, hK q j o2 h2 hq⟩
        | _ => rw [hp, hq] at h3; cases h3
      | _ => rw [hp] at h3; cases h3
    | _ => cases h2
  | _ => cases h1
theorem load_top {t : Nat} {a : Operand} {ρ : Operand → AV} {h : Hp} {k : AV → Prop} (hp : ρ a = .d .top) : ¬ qstep T (.load t a) ρ h k := by
  intro hq
  simp only [qstep] at hq
  unfold qload at hq
  rw [hp] at hq
  split at hq <;> exact hq.elim
theorem store_top {t : Nat} {a x : Operand} {n : Nat} {ρ : Operand → AV} {h : Hp} {k : WRes → Prop} (hp : ρ a = .d .top) : ¬ wstep T (.store t a x) n ρ h k := by
  intro hw
  simp only [wstep] at hw
  split at hw
  · unfold wstore at hw
    rw [hp] at hw
    split at hw <;> exact hw.elim
  · exact hw.elim
theorem load_store {oi oj : Oper} {t t' : Nat} {p q x : Operand} (hoi : oi.op = .load t p) (hoj : oj.op = .store t' q x) (hij : apart1 ops oi oj = true) (hji : apart1 ops oj oi = true) {A : AState} {i j o1 o2 : Nat} (hne : i ≠ j) (hp : A.ev p = .ptr i o1 ∨ A.ev p = .d .top)
    (hq : A.ev q = .ptr j o2 ∨ A.ev q = .d .top) {vi : AV} {rj : WRes} (hj : GE T H ops oj A (.obj rj)) :
    (GE T H ops oi A (.set vi) ↔ GE T H ops oi (rj.act A oj.dst) (.set vi)) ∧ (rj.act A oj.dst).put oi.dst vi = rj.act (A.put oi.dst vi) oj.dst := by
  obtain ⟨g1, g2, g3⟩ := hj
  have h3 := g3 (fun z => z = rj) rfl
  rw [hoj] at h3
  have hq' : A.ev q = .ptr j o2 := by
    rcases hq with h | h
    · exact h
    · exact (store_top h h3).elim
  obtain ⟨k1, k2⟩ := store_far hq' h3
  obtain ⟨f1, f2, f3⟩ := apart_ev' hji (A := A) (A' := rj.act A oj.dst) (fun t ht => by rw [act_env ht, k1]; rfl)
  have hh : ∀ z ∈ oi.op.operands, ∀ id ∈ (A.ev z).ids, A.heap id = (rj.act A oj.dst).heap id := by
    intro z hz id hid
    rw [hoi] at hz
    have hz : z = p := by simpa [Op.operands] using hz
    subst hz
    rw [act_heap]
    rcases hp with h | h
    · rw [h] at hid
      have : id = i := by simpa [AV.ids] using hid
      subst this
      exact (k2 id hne).symm
    · rw [h] at hid
      simp [AV.ids] at hid
  refine ⟨⟨fun h => GE.heap f1 f2 hh h, fun h => GE.heap (fun z hz => (f1 z hz).symm) f2.symm (fun z hz id hid => ?_) h⟩, ?_⟩
  · rw [f1 z hz] at hid
    exact (hh z hz id hid).symm
  · obtain ⟨_, _, e3⟩ := apart_ev' hij (A := A) (A' := A.put oi.dst vi) (fun t ht => put_env' ht)
    rw [act_put e3, k1]; rfl
theorem noHeap_eq {op : Op} (hn : noHeap op = true) (ρ : Operand → AV) (h h' : Hp) (k : AV → Prop) : qstep T op ρ h k = qstep T op ρ h' k := by
  cases op <;> first | rfl | cases hn
theorem noHeap_cls {o : Oper} (hn : noHeap o.op = true) : cls H o = 1 := by
  unfold cls
  split <;> rename_i h <;> first | rfl | (rw [h] at hn; cases hn)
theorem store_kill {t : Nat} {a x : Operand} {n : Nat} {ρ : Operand → AV} {h : Hp} {r : WRes} (hw : wstep T (.store t a x) n ρ h (fun z => z = r)) : r.kill = none := by
  simp only [wstep] at hw
  split at hw
  · unfold wstore at hw
    split at hw
    · split at hw
      · split at hw
        · have hw := bif_left hw
          subst hw; rfl
        · exact hw.elim
      · split at hw
        · have hw := bif_left hw
          obtain ⟨_, _, hw⟩ := hw
          split at hw
          · subst hw; rfl
          · exact hw.elim
        · exact hw.elim
      · exact hw.elim
    · exact hw.elim
  · exact hw.elim
theorem quiet_store {oi oj : Oper} {t' : Nat} {q x : Operand} (hoi : noHeap oi.op = true) (hoj : oj.op = .store t' q x) (hij : apart1 ops oi oj = true) (hji : apart1 ops oj oi = true) {A : AState} {vi : AV} {rj : WRes} (hj : GE T H ops oj A (.obj rj)) :
    (GE T H ops oi A (.set vi) ↔ GE T H ops oi (rj.act A oj.dst) (.set vi)) ∧ (rj.act A oj.dst).put oi.dst vi = rj.act (A.put oi.dst vi) oj.dst := by
  obtain ⟨g1, g2, g3⟩ := hj
  have h3 := g3 (fun z => z = rj) rfl
  rw [hoj] at h3
  have k1 := store_kill h3
  obtain ⟨f1, f2, f3⟩ := apart_ev' hji (A := A) (A' := rj.act A oj.dst) (fun t ht => by rw [act_env ht, k1]; rfl)
  have tr : ∀ {A A' : AState}, (∀ z ∈ oi.op.operands, A'.ev z = A.ev z) → wantedA ops oi A'.env = wantedA ops oi A.env → GE T H ops oi A (.set vi) → GE T H ops oi A' (.set vi) := by
    intro A A' f1 f2 h
    rcases h with ⟨h1, h2⟩ | ⟨h1, h2, h3⟩
    · exact .inl ⟨by rw [f2]; exact h1, h2⟩
    · exact .inr ⟨by rw [f2]; exact h1, h2, fun k hk => by rw [q_congr T oi.op A'.heap f1, noHeap_eq hoi _ A'.heap A.heap]; exact h3 k hk⟩
  refine ⟨⟨fun h => tr f1 f2 h, fun h => tr (fun z hz => (f1 z hz).symm) f2.symm h⟩, ?_⟩
  obtain ⟨_, _, e3⟩ := apart_ev' hij (A := A) (A' := A.put oi.dst vi) (fun t ht => put_env' ht)
  rw [act_put e3, k1]; rfl
theorem comm2 {oi oj : Oper} {A0 : AState} (hp : farOK ops A0 oi oj = true) {A : AState} (hK : Keep ops A0 A) {ei ej : Eff} (hi : GE T H ops oi A ei) (hj : GE T H ops oj (ei.app A oi.dst) ej) :
    ∃ ei' ej', GE T H ops oj A ej' ∧ GE T H ops oi (ej'.app A oj.dst) ei' ∧ ei'.app (ej'.app A oj.dst) oi.dst = ej.app (ei.app A oi.dst) oj.dst := by
  unfold farOK at hp
  simp only [Bool.and_eq_true] at hp
  obtain ⟨⟨hij, hji⟩, hcl⟩ := hp
  have both : ∀ {vi vj : AV}, GE T H ops oi A (.set vi) → GE T H ops oj ((Eff.set vi).app A oi.dst) (.set vj) →
      ∃ ei' ej', GE T H ops oj A ej' ∧ GE T H ops oi (ej'.app A oj.dst) ei' ∧ ei'.app (ej'.app A oj.dst) oi.dst = (Eff.set vj).app ((Eff.set vi).app A oi.dst) oj.dst := by
    intro vi vj hi hj
    obtain ⟨e1, e2, e3⟩ := apart_ev' hij (A := A) (A' := A.put oi.dst vi) (fun t ht => put_env' ht)
    have hj' : GE T H ops oj A (.set vj) := GE.move (fun z hz => (e1 z hz).symm) e2.symm put_heap.symm hj
    obtain ⟨f1, f2, f3⟩ := apart_ev' hji (A := A) (A' := A.put oj.dst vj) (fun t ht => put_env' ht)
    exact ⟨.set vi, .set vj, hj', GE.move f1 f2 put_heap hi, (put_comm' e3).symm⟩
  split at hcl
  · rename_i t p t' q x hoi hoj
    obtain ⟨i, j, o1, o2, hne, hp1, hq1⟩ := farPQ_spec hK hcl
    cases ei with
    | obj ri =>
      have := hi.2.1.1
      rw [show cls H oi = 1 by unfold cls; rw [hoi]] at this
      omega
    | set vi =>
      cases ej with
      | set vj => exact both hi hj
      | obj rj =>
        obtain ⟨e1, e2, e3⟩ := apart_ev' hij (A := A) (A' := A.put oi.dst vi) (fun t ht => put_env' ht)
        have hj' : GE T H ops oj A (.obj rj) := GE.move (fun z hz => (e1 z hz).symm) e2.symm put_heap.symm hj
        obtain ⟨l1, l2⟩ := load_store (vi := vi) hoi hoj hij hji hne hp1 hq1 hj'
        exact ⟨.set vi, .obj rj, hj', l1.1 hi, l2⟩
  · rename_i t q x t' p hoi hoj
    obtain ⟨i, j, o1, o2, hne, hp1, hq1⟩ := farPQ_spec hK hcl
    cases ej with
    | obj rj =>
      have := hj.2.1.1
      rw [show cls H oj = 1 by unfold cls; rw [hoj]] at this
      omega
    | set vj =>
      cases ei with
      | set vi => exact both hi hj
      | obj ri =>
        obtain ⟨l1, l2⟩ := load_store (vi := vj) hoj hoi hji hij hne hp1 hq1 hi
        have hj' := l1.2 hj
        obtain ⟨f1, f2, f3⟩ := apart_ev' hji (A := A) (A' := A.put oj.dst vj) (fun t ht => put_env' ht)
        exact ⟨.obj ri, .set vj, hj', GE.move f1 f2 put_heap hi, l2.symm⟩
  · rename_i t q x hnn hoi
    cases ej with
    | obj rj =>
      have := hj.2.1.1
      rw [noHeap_cls hcl] at this
      omega
    | set vj =>
      cases ei with
      | set vi => exact both hi hj
      | obj ri =>
        obtain ⟨l1, l2⟩ := quiet_store (vi := vj) hcl (by assumption) hji hij hi
        have hj' := l1.2 hj
        obtain ⟨f1, f2, f3⟩ := apart_ev' hji (A := A) (A' := A.put oj.dst vj) (fun t ht => put_env' ht)
        exact ⟨.obj ri, .set vj, hj', GE.move f1 f2 put_heap hi, l2.symm⟩
  · rename_i t' q x hnn hoj
    cases ei with
    | obj ri =>
      have := hi.2.1.1
      rw [noHeap_cls hcl] at this
      omega
    | set vi =>
      cases ej with
      | set vj => exact both hi hj
      | obj rj =>
        obtain ⟨e1, e2, e3⟩ := apart_ev' hij (A := A) (A' := A.put oi.dst vi) (fun t ht => put_env' ht)
        have hj' : GE T H ops oj A (.obj rj) := GE.move (fun z hz => (e1 z hz).symm) e2.symm put_heap.symm hj
        obtain ⟨l1, l2⟩ := quiet_store (vi := vi) hcl (by assumption) hij hji hj'
        exact ⟨.set vi, .obj rj, hj', l1.1 hi, l2⟩
  · cases hcl
theorem aAny_first {K : AState → Prop} {i : Nat} {oi : Oper} (hi : ops[i]? = some oi) (A0 : AState) :
    ∀ (fuel : Nat) (listed : Array Bool) (A : AState), wfA A → Keep ops A0 A → Shut ops listed →
      (∀ j oj, ops[j]? = some oj → j ≠ i → listed.getD j true = false → waits oj i = false → waitsT ops 6 oj i = false → pairOK H ops oi oj = true ∨ farOK ops A0 oi oj = true) →
      i ∈ Region.ready .any ops listed → gstep T H ops oi A (aAny T H ops K fuel (listed.setIfInBounds i true)) → aAny T H ops K (fuel + 1) listed A := by
  intro fuel
  induction fuel with
  | zero =>
    intro listed A hwf hKp hS hfree hr h
    refine ⟨fun h0 => (by rw [h0] at hr; cases hr), fun j hj oj hoj => ?_⟩
    by_cases hji : j = i
    · subst hji
      rw [hi] at hoj
      injection hoj with hoj
      subst hoj
      exact h
    · obtain ⟨e, _, h2⟩ := gstep_iff.1 h
      have := ready_mono (md := .any) hj hji
      rw [h2.1] at this
      cases this
  | succ fuel ih =>
    intro listed A hwf hKp hS hfree hr h
    refine ⟨fun h0 => (by rw [h0] at hr; cases hr), fun j hj oj hoj => ?_⟩
    by_cases hji : j = i
    · subst hji
      rw [hi] at hoj
      injection hoj with hoj
      subst hoj
      exact h
    · obtain ⟨ei, g1, g2⟩ := gstep_iff.1 h
      obtain ⟨ej, g3, g4⟩ := gstep_iff.1 (g2.2 j (ready_mono hj hji) oj hoj)
      obtain ⟨hjun, oj', hoj', hall⟩ := mem_ready.1 hj
      rw [hoj] at hoj'
      injection hoj' with hoj'
      subst hoj'
      have hui := (mem_ready.1 hr).1
      obtain ⟨ei', ej', k1, k2, k3⟩ : ∃ ei' ej', GE T H ops oj A ej' ∧ GE T H ops oi (ej'.app A oj.dst) ei' ∧ ei'.app (ej'.app A oj.dst) oi.dst = ej.app (ei.app A oi.dst) oj.dst := by
        rcases hfree j oj hoj hji hjun (waits_no hui hall) (waitsT_no hS hui 6 oj hall) with hf | hf
        · exact comm hf hwf g1 g3
        · exact comm2 hf hKp g1 g3
      refine gstep_iff.2 ⟨ej', k1, ih (listed.setIfInBounds j true) _ (ge_wf hwf k1) (hKp.app hoj) (hS.set hoj hall) ?_ (ready_mono hr (Ne.symm hji)) (gstep_iff.2 ⟨ei', k2, ?_⟩)⟩
      · intro k ok hk hki hun hno hnt
        refine hfree k ok hk hki ?_ hno hnt
        by_cases hjk : j = k
        · subst hjk; exact hjun
        · rw [getD_set_ne true hjk] at hun; exact hun
      · rw [k3, Array.setIfInBounds_comm _ _ hji]
        exact g4

theorem gstep_mono {o : Oper} {A : AState} {K K' : AState → Prop} (h : gstep T H ops o A K) (hk : ∀ e, GE T H ops o A e → K (e.app A o.dst) → K' (e.app A o.dst)) : gstep T H ops o A K' := by
  obtain ⟨e, h1, h2⟩ := gstep_iff.1 h
  exact gstep_iff.2 ⟨e, h1, hk e h1 h2⟩

theorem aAny_lex {K : AState → Prop} (A0 : AState) : ∀ (l : List Oper) (k : Nat) (listed : Array Bool) (A : AState), (∀ j, l[j]? = ops[k + j]?) → k + l.length = ops.size → listed.size = ops.size → (∀ j (h : j < listed.size), listed[j] = decide (j < k)) →
    lexL H ops A0 k l = true → wfA A → Keep ops A0 A → Shut ops listed → aops T H ops l A K → aAny T H ops K l.length listed A
  | [], k, listed, A, hl, hlen, hsz, hls, _, _, _, _, h => by
    refine ⟨?_, h⟩
    cases hr : Region.ready .any ops listed with
    | nil => rfl
    | cons i r =>
      exfalso
      have : i ∈ Region.ready .any ops listed := by rw [hr]; simp
      obtain ⟨h1, o, ho, _⟩ := mem_ready.1 this
      have hi : i < ops.size := (Array.getElem?_eq_some_iff.1 ho).1
      rw [Array.getD_eq_getD_getElem?, Array.getElem?_eq_getElem (by omega), hls i (by omega)] at h1
      simp at hlen
      simp at h1
      omega
  | o :: l, k, listed, A, hl, hlen, hsz, hls, hB, hwf, hKp, hS, h => by
    have h0 : ops[k]? = some o := by simpa using (hl 0).symm
    have hk : k < ops.size := by simp at hlen; omega
    simp only [lexL, Bool.and_eq_true] at hB
    obtain ⟨⟨hr, hf⟩, hB'⟩ := hB
    have hready : k ∈ Region.ready .any ops listed := by
      refine mem_ready.2 ⟨?_, o, h0, fun e he hb => ?_⟩
      · rw [Array.getD_eq_getD_getElem?, Array.getElem?_eq_getElem (by omega), hls k (by omega)]; simp
      · have := List.all_eq_true.1 hr e (by simpa using he)
        simp only [hb, Bool.not_true, Bool.false_or] at this
        have hlt : e.on < k := by
          have : e.on + 1 ≤ k := by simpa [Nat.blt, Nat.ble_eq] using this
          exact this
        rw [Array.getD_eq_getD_getElem?, Array.getElem?_eq_getElem (by omega), hls e.on (by omega)]; simp [hlt]
    refine aAny_first h0 A0 l.length listed A hwf hKp hS ?_ hready ?_
    · intro j oj hj hjk hun hno hnt
      have hjs : j < ops.size := (Array.getElem?_eq_some_iff.1 hj).1
      have hge : k < j := by
        rw [Array.getD_eq_getD_getElem?, Array.getElem?_eq_getElem (by omega), hls j (by omega)] at hun
        simp at hun
        omega
      have hmem : oj ∈ l := by
        have := hl (j - k)
        rw [show k + (j - k) = j by omega, hj, show j - k = (j - k - 1) + 1 by omega, List.getElem?_cons_succ] at this
        exact List.mem_of_getElem? this
      have := List.all_eq_true.1 hf oj hmem
      rw [hno, hnt] at this
      simpa using this
    · refine gstep_mono h fun e he hK => ?_
      refine aAny_lex A0 l (k + 1) _ _ (fun j => by have := hl (j + 1); simpa [Nat.add_assoc, Nat.add_comm 1 j] using this) (by simp at hlen; omega) (by simpa using hsz) (fun j hj => ?_) hB' (ge_wf hwf he) (hKp.app h0) ?_ hK
      · have hj' : j < listed.size := by simpa using hj
        rw [Array.getElem_setIfInBounds hj']
        by_cases e2 : k = j
        · subst e2; simp
        · rw [if_neg e2, hls j (by simpa using hj)]
          congr 1
          simp only [eq_iff_iff]
          omega
      · obtain ⟨_, o', ho', hall⟩ := mem_ready.1 hready
        rw [h0] at ho'
        injection ho' with ho'
        subst ho'
        exact hS.set h0 hall

/-! ### In a frame -/
variable {F : Fr} {w0 w : World} {O0 : Nat → Prop} {N : Nat} {A : AState} {ι : Nat → Value} {a : Act}

theorem isUndef_rep {O : Nat → Prop} {x : AV} {v : Value} (h : ARep w O ι x v) (hu : isUndef x = true) : v = .tuple #[] := by
  unfold isUndef at hu
  split at hu
  · rename_i vs
    have hv : v = .tuple vs := h
    have : vs = #[] := by simpa using hu
    rw [hv, this]
  · cases hu

theorem wanted_rep (R : Rel T F w0 O0 N A ι a w) {o : Oper} {b : Bool} (h : wantedA ops o A.env = some b) : Region.wanted o (yielded ops a.tmps) = b := by
  unfold wantedA at h
  unfold Region.wanted
  cases hg : o.guard with
  | none => rw [hg] at h; simp at h; simp [h]
  | some p =>
    obtain ⟨j, want⟩ := p
    rw [hg] at h
    simp only at h ⊢
    cases hd : (ops[j]?).bind (·.dst) with
    | none => rw [hd] at h; cases h
    | some dj =>
      rw [hd] at h
      simp only at h
      have hr := R.env dj
      have hy : yielded ops a.tmps j = match a.tmps[dj]? with | some (.bool b) => some b | _ => none := by
        unfold yielded
        rw [hd]; rfl
      rw [hy]
      have hget : a.tmps.getD dj undef = (a.tmps[dj]?).getD undef := by simp [Array.getD_eq_getD_getElem?]
      rw [hget] at hr
      split at h
      · rename_i b' hb'
        rw [hb'] at hr
        have hv : (a.tmps[dj]?).getD undef = .bool b' := hr
        cases hx : a.tmps[dj]? with
        | none => rw [hx] at hv; cases hv
        | some v =>
          rw [hx] at hv
          simp at hv
          subst hv
          have h := Option.some.inj h
          rw [← h]
          cases b' <;> cases want <;> rfl
      · cases hu : isUndef (A.env dj) with
        | true =>
          rw [hu] at h
          simp at h
          subst h
          have hv := isUndef_rep hr hu
          cases hx : a.tmps[dj]? with
          | none => rfl
          | some v =>
            rw [hx] at hv
            simp at hv
            subst hv
            rfl
        | false => rw [hu] at h; cases h

/-- What follows an operation. -/
def After (T : Ctx) (F : Fr) (w0 : World) (O0 : Nat → Prop) (N : Nat) (w : World) (O : Nat → Prop) (a : Act) (D : List Nat) (A' : AState) (a' : Act) (w' : World) : Prop :=
  ∃ ι', Rel T F w0 O0 N A' ι' a' w' ∧ Keeps w O w' (Own O0 A'.heap ι') ∧ w.heap.size ≤ w'.heap.size ∧ ∀ s, s ∉ D → a'.tmps.getD s undef = a.tmps.getD s undef

theorem put_getD {a : Act} {dst : Option Nat} {v : Value} {s : Nat} (h : s ∉ dst.toList) : (a.put dst v).tmps.getD s undef = a.tmps.getD s undef := by
  cases dst with
  | none => rfl
  | some d => exact put_getD_ne fun e => h (by simp [e])

theorem Acts.congr {dst : Option Nat} {s s' : Sem Next} {k : WRes → Prop} (h : Acts P T F w0 w O0 N A ι a dst s k) (e : s'.run P w = s.run P w) : Acts P T F w0 w O0 N A ι a dst s' k := by
  obtain ⟨r, h1, ι', v, w', h2, h3⟩ := h
  exact ⟨r, h1, ι', v, w', by rw [e]; exact h2, h3⟩

/-- What a call by reference comes to. -/
def ActsE (P : Program) (T : Ctx) (F : Fr) (w0 w : World) (O0 : Nat → Prop) (N : Nat) (A : AState) (ι : Nat → Value) (a : Act) (dst : Option Nat) (s : Sem Next) (k : WRes → Prop) : Prop :=
  ∃ r, k r ∧ ∃ f vs, s.run P w = .ok (.enter f vs) w ∧ Calls P f vs w fun e w' => ∃ v, e = .returned v ∧ ∃ ι', Rel T F w0 O0 N (r.act A dst) ι' (a.put dst v) w' ∧ Keeps w (Own O0 A.heap ι) w' (Own O0 r.heap ι') ∧ w.heap.size ≤ w'.heap.size

theorem flat_iota {O : Nat → Prop} {ι ι' : Nat → Value} {x : AV} {v : Value} (hf : x.flat = true) (h : ARep w O ι x v) : ARep w O ι' x v := by
  cases x <;> first | exact h | cases hf

theorem w_callp (tok : Tok P T) (R : Rel T F w0 O0 N A ι a w) {dst : Option Nat} (hd : ∀ d, dst = some d → d < N) {f : FuncId} {pt : PT} (hpt : look T.pts f = some pt) {args : Array Operand} {s : Sem Next} {k : WRes → Prop}
    (hs : s.run P w = (callFunc f (args.map a.eval)).run P w) (hk : wcallp T pt (args.toList.map A.ev) A.heap k) : ActsE P T F w0 w O0 N A ι a dst s k := by
  obtain ⟨⟨fn, hfn, hbody, hname⟩, hS⟩ := tok.pts f pt hpt
  unfold wcallp at hk
  cases hc : (Nat.ble (Nat.add T.base 2000000) pt.base && pt.mods.all (okM T)) with
  | false => rw [hc] at hk; exact hk.elim
  | true =>
    rw [hc] at hk
    simp only [cond_true] at hk
    simp only [Bool.and_eq_true] at hc
    have hbase : T.base + 2000000 ≤ pt.base := Nat.le_of_ble_eq_true hc.1
    split at hk
    · rename_i p v h' hfn'
      obtain ⟨hp, hk⟩ := hk
      obtain ⟨k1, k2, k3, _⟩ := pt.ok _ _ _ _ _ hfn'
      have hargs := ALRep.map R.ev args.toList
      have hids : ∀ av ∈ args.toList.map A.ev, ∀ id ∈ av.ids, A.heap id ≠ none := by
        intro av hav id hid
        obtain ⟨x, _, rfl⟩ := List.mem_map.1 hav
        exact R.alive x id hid
      have := hS w0 O0 A.heap ι w ⟨R.below, R.o0, R.obj, R.dist⟩ (fun id hid => Nat.lt_of_lt_of_le (R.lim id hid) hbase) _ (args.map a.eval) (by simpa using hargs) hids p v h' hfn' hp
      refine ⟨_, hk, f, args.map a.eval, ?_, this.mono ?_⟩
      · rw [hs]; exact run_callFunc hfn hbody hname _
      · rintro e w' ⟨u, rfl, HR', hv, hkeep, hsz⟩
        refine ⟨u, rfl, ι, R.move hd HR'.below HR'.obj HR'.dist (fun id h => .inl ((k1 id).1 h)) (fun id h1 h2 => k2 id fun hm => ?_) (fun id _ h => by cases h) hkeep (fun id h _ => ⟨rfl, (k1 id).2 h⟩) (fun _ => ⟨hv, fun id hid => ?_⟩), hkeep, hsz⟩
        · rcases okM_spec (List.all_eq_true.1 hc.2 id hm) with h3 | h3
          · omega
          · exact h2 h3
        · have h4 : v.ids = [] := by cases v <;> first | rfl | cases k3
          have hid' : id ∈ v.ids := hid
          rw [h4] at hid'; cases hid'
    · exact hk.elim

theorem w_sound (tok : Tok P T) (R : Rel T F w0 O0 N A ι a w) {o : Oper} (hd : ∀ d, o.dst = some d → d < N) {k : WRes → Prop} (hlt : dstN o < 1000000) (hk : wstep T o.op (nid T o) A.ev A.heap k) : Acts P T F w0 w O0 N A ι a o.dst (execOp a.eval o) k ∨ ActsE P T F w0 w O0 N A ι a o.dst (execOp a.eval o) k := by
  obtain ⟨dst, op, type, pos, after, guard⟩ := o
  simp only at hd hk
  have hdb : T.base ≤ nid T ⟨dst, op, type, pos, after, guard⟩ ∧ nid T ⟨dst, op, type, pos, after, guard⟩ < T.base + 2000000 := by
    show T.base ≤ T.base + _ ∧ T.base + _ < _
    omega
  generalize nid T _ = d at hk hdb
  by_cases hcall : ∃ f args ats, op = .call ⟨.value (.func f), args, ats⟩
  · right
    obtain ⟨f, args, ats, rfl⟩ := hcall
    simp only [wstep] at hk
    split at hk
    · rename_i pt hpt
      refine w_callp tok R hd hpt ?_ hk
      have : a.eval (.func f) = .func (.func f) #[] #[] := rfl
      simp [execOp, resolve, invoke, this, Deferred.ofValue]
    · exact hk.elim
  left
  cases op <;> simp only [wstep] at hk <;> try (exact hk.elim)
  case alloc t =>
    split at hk
    · rename_i i hf hi
      exact w_alloc tok R hd hdb hf hi hk
    · exact hk.elim
  case box t x =>
    split at hk
    · rename_i v hf hv
      have hx := R.ev x
      rw [hv] at hx
      cases hs : v.solid with
      | false => rw [hs] at hk; exact hk.elim
      | true =>
        rw [hs] at hk
        exact w_box R hd hdb hf hs hx hk
    · exact hk.elim
  case buildSlice t len parts =>
    split at hk
    · rename_i e ie hf hs
      exact w_bs tok R hd hdb hf hs hk
    · exact hk.elim
  case range t x =>
    split at hk
    · rename_i i s hf hi hx
      have hr := R.ev x
      rw [hx] at hr
      split at hk
      · rename_i hdesc
        exact w_range tok R hd hdb hf hi hdesc hr hk
      · exact hk.elim
    · exact hk.elim
  case next x b =>
    cases b with
    | false => exact hk.elim
    | true => exact w_next R hd (R.ev x) hk
  case makeSlice t l c => exact w_make tok R hd hdb (R.ev l) (R.ev c) hk
  case store t x y =>
    split at hk
    · rename_i i hi
      exact w_store tok R hd (R.ev x) (R.ev y) hi hk
    · exact hk.elim
  case slice t x lo hi mx =>
    refine w_cut tok R hd hdb (R.ev x) (vlo := lo.map a.eval) (vhi := hi.map a.eval) (vmx := mx.map a.eval) ?_ ?_ ?_ hk
    · intro hy; cases lo <;> simp_all
    · intro y hy
      cases hi with
      | none => cases hy
      | some z => simp at hy; subst hy; exact ⟨_, rfl, R.ev z⟩
    · intro hy; cases mx <;> simp_all
  case call c =>
    obtain ⟨callee, args, ats⟩ := c
    simp only at hk
    split at hk
    · rename_i s x ts tx h2 h3
      have ha : args = #[s, x] := by simpa using congrArg List.toArray h2
      have ht : ats = #[ts, tx] := by simpa using congrArg List.toArray h3
      subst ha ht
      have := w_append tok R hd hdb (ty := type) (cs := #[s, x].map fun | .const _ => true | _ => false) (R.ev s) (R.ev x) hk
      refine this.congr ?_
      simp [execOp, resolve, invoke]
      rfl
    · rename_i s x ts tx h2 h3
      have ha : args = #[s, x] := by simpa using congrArg List.toArray h2
      have ht : ats = #[ts, tx] := by simpa using congrArg List.toArray h3
      subst ha ht
      have := w_copy tok R hd (ty := type) (cs := #[s, x].map fun | .const _ => true | _ => false) (R.ev s) (R.ev x) hk
      refine this.congr ?_
      simp [execOp, resolve, invoke]
      rfl
    · exact absurd ⟨_, _, _, rfl⟩ hcall
    · exact hk.elim

theorem ge_sound (tok : Tok P T) (R : Rel T F w0 O0 N A ι a w) {o : Oper} (hd : ∀ d, o.dst = some d → d < N) {e : Eff} (h : GE T H ops o A e) {K : Act → World → Prop} {Q : Exit → Act → World → Prop}
    (hK : ∀ a' w', After T F w0 O0 N w (Own O0 A.heap ι) a o.dst.toList (e.app A o.dst) a' w' → K a' w') :
    if Region.wanted o (yielded ops a.tmps) then o.wp P a w K Q else K (a.put o.dst undef) w := by
  have unwanted : wantedA ops o A.env = some false → e = .set aundef → if Region.wanted o (yielded ops a.tmps) then o.wp P a w K Q else K (a.put o.dst undef) w := by
    intro hw he
    rw [wanted_rep R hw]
    subst he
    refine hK _ _ ⟨ι, R.set hd (Below.refl _ _) rfl (by simp [AV.ids, aundef]), ?_, Nat.le_refl _, fun s hs => put_getD hs⟩
    rw [show ((Eff.set aundef).app A o.dst).heap = A.heap from put_heap]
    exact Keeps.refl _ _
  cases e with
  | set av =>
    rcases h with ⟨h1, h2⟩ | ⟨h1, h2, h3⟩
    · exact unwanted h1 (by rw [h2])
    · rw [wanted_rep R h1]
      simp only [if_true]
      obtain ⟨av', e1, e2, e3⟩ := q_sound tok R o (h3 (fun z => z = av) rfl)
      subst e1
      have fin : ∀ v w', ARep w' (Own O0 A.heap ι) ι av' v → Below w.heap.size w w' → K (a.put o.dst v) w' := by
        intro v w' hv hb
        refine hK _ _ ⟨ι, R.set hd hb hv e2, ?_, hb.size, fun s hs => put_getD hs⟩
        rw [show ((Eff.set av').app A o.dst).heap = A.heap from put_heap]
        exact Keeps.of_below hb
      unfold Oper.wp
      rcases e3 with ⟨v, w', hr, hv, hb⟩ | ⟨f, args, hr, hc⟩
      · rw [hr]
        exact fin v w' hv hb
      · rw [hr]
        refine hc.mono ?_
        rintro e w' ⟨v, rfl, hv, hb⟩
        exact fin v w' hv hb
  | obj r =>
    obtain ⟨h1, h2, h3⟩ := h
    rw [wanted_rep R h1]
    simp only [if_true]
    rcases w_sound tok R hd (blt_lt h2.2) (h3 (fun z => z = r) rfl) with ⟨r', e1, ι', v, w', hr, R', K', hsz⟩ | ⟨r', e1, f, vs, hr, hc⟩
    · subst e1
      have fin : K (a.put o.dst v) w' := by
        refine hK _ _ ⟨ι', R', ?_, hsz, fun s hs => put_getD hs⟩
        rw [show ((Eff.obj r').app A o.dst).heap = r'.heap from act_heap]; exact K'
      unfold Oper.wp
      rcases hr with hr | ⟨hr, rfl⟩
      · rw [hr]; exact fin
      · rw [hr]; exact fin
    · subst e1
      unfold Oper.wp
      rw [hr]
      refine hc.mono ?_
      rintro e w' ⟨v, rfl, ι', R', K', hsz⟩
      refine hK _ _ ⟨ι', R', ?_, hsz, fun s hs => put_getD hs⟩
      rw [show ((Eff.obj r').app A o.dst).heap = r'.heap from act_heap]; exact K'

/-! ### Steps that may end in the program's own panic -/
theorem pstep_sound (tok : Tok P T) (R : Rel T F w0 O0 N A ι a w) {o : Oper} (hd : ∀ d, o.dst = some d → d < N) {kp : Prop} {k : AV → Prop} (h : pstep T o A kp k)
    {K : Act → World → Prop} {Q : Exit → Act → World → Prop}
    (hK : ∀ v a' w', k v → After T F w0 O0 N w (Own O0 A.heap ι) a o.dst.toList (A.put o.dst v) a' w' → K a' w')
    (hP : ∀ w', kp → After T F w0 O0 N w (Own O0 A.heap ι) a o.dst.toList A a w' → Q (.panic (panChain T.pt)) a w') : o.wp P a w K Q := by
  have still : ∀ w', Below w.heap.size w w' → After T F w0 O0 N w (Own O0 A.heap ι) a o.dst.toList A a w' := by
    intro w' hb
    have := R.set (dst := none) (av := .d .top) (v := undef) (w' := w') (fun _ h => by cases h) hb trivial (by simp [AV.ids])
    exact ⟨ι, this, Keeps.of_below hb, hb.size, fun _ _ => rfl⟩
  obtain ⟨dst, op, type, pos, after, guard⟩ := o
  unfold pstep at h
  split at h
  · rename_i x hop
    simp only at hop
    subst hop
    have hr := R.ev x
    split at h
    · rename_i t hx
      rw [hx] at hr
      obtain ⟨u, hu, vs, rfl, hl⟩ := hr
      have hvs : vs.toList = [] := hl
      have : vs = #[] := by simpa using hvs
      subst this
      cases hb : Nat.beq t T.pt with
      | false => rw [hb] at h; exact h.elim
      | true =>
        rw [hb] at h
        have := Nat.eq_of_beq_eq_true hb
        subst this
        unfold Oper.wp
        have hrun : (execOp a.eval ⟨dst, .panic x, type, pos, after, guard⟩).run P w = .halt (.panic (.iface T.pt (.agg #[]))) w := by
          simp only [execOp, hu]
          simp [Instr.panic, go_sem]
        rw [hrun]
        exact hP w h (still w (Below.refl _ _))
    · exact h.elim
  · rename_i c hop
    simp only at hop
    subst hop
    obtain ⟨callee, args, ats⟩ := c
    simp only at h
    split at h
    · rename_i f
      split at h
      · rename_i C hC
        have hargs := ALRep.map R.ev args.toList
        obtain ⟨x, hpre, hbr, O, hO, hl, hback⟩ := qconP_spec R.obj h hargs R.okw
        obtain ⟨hrun, hcalls⟩ := tok.pan f C hC x hpre w O (args.map a.eval) hO (by simpa using hl)
        have hx : (execOp a.eval ⟨dst, .call ⟨.value (.func f), args, ats⟩, type, pos, after, guard⟩).run P w = .ok (.enter f (args.map a.eval)) w := by
          have he : a.eval (.func f) = .func (.func f) #[] #[] := rfl
          rw [← hrun]
          simp [execOp, resolve, invoke, he, Deferred.ofValue]
        unfold Oper.wp
        rw [hx]
        refine hcalls.mono ?_
        rintro e w' (⟨hp, rfl, hb⟩ | ⟨hp, v, rfl, hb, hv, _⟩)
        · rw [hp] at hbr
          exact hP w' hbr (still w' hb)
        · rw [hp] at hbr
          have hv' := hback v w' hv
          refine hK _ _ _ hbr ⟨ι, R.set hd hb hv' (by simp [resAV_ids]), ?_, hb.size, fun s hs => put_getD hs⟩
          rw [show (A.put dst _).heap = A.heap from put_heap]
          exact Keeps.of_below hb
      · exact h.elim
    · exact h.elim
  · exact h.elim

end
end Fw
end
section
/- Regions and code are sound. -/
set_option linter.unusedVariables false
set_option linter.unusedSimpArgs false
namespace Fw
open Go Go.RowKit

section
variable {P : Program} {T : Ctx} {H : Hints}
variable {F : Fr} {w0 w : World} {O0 : Nat → Prop} {N : Nat} {A : AState} {ι : Nat → Value} {a : Act}

theorem After.refl (R : Rel T F w0 O0 N A ι a w) (D : List Nat) : After T F w0 O0 N w (Own O0 A.heap ι) a D A a w :=
  ⟨ι, R, Keeps.refl _ _, Nat.le_refl _, fun _ _ => rfl⟩
theorem After.trans {O : Nat → Prop} {D D' : List Nat} {A1 A2 : AState} {ι1 : Nat → Value} {a1 a2 : Act} {w1 w2 : World}
    (K1 : Keeps w O w1 (Own O0 A1.heap ι1)) (S1 : w.heap.size ≤ w1.heap.size) (E1 : ∀ s, s ∉ D → a1.tmps.getD s undef = a.tmps.getD s undef)
    (k : After T F w0 O0 N w1 (Own O0 A1.heap ι1) a1 D' A2 a2 w2) (hd : ∀ d ∈ D', d ∈ D) : After T F w0 O0 N w O a D A2 a2 w2 := by
  obtain ⟨ι2, R2, K2, S2, E2⟩ := k
  exact ⟨ι2, R2, K1.trans K2 S1, Nat.le_trans S1 S2, fun s hs => (E2 s fun h => hs (hd s h)).trans (E1 s hs)⟩
theorem After.mono {O : Nat → Prop} {D D' : List Nat} {A1 : AState} {a1 : Act} {w1 : World} (h : After T F w0 O0 N w O a D A1 a1 w1) (hd : ∀ d ∈ D, d ∈ D') : After T F w0 O0 N w O a D' A1 a1 w1 := by
  obtain ⟨ι1, R1, K1, S1, E1⟩ := h
  exact ⟨ι1, R1, K1, S1, fun s hs => E1 s fun h => hs (hd s h)⟩

/-! ### Regions -/
theorem any_sound (tok : Tok P T) {ops : Array Oper} {D : List Nat} (hN : ∀ (i : Nat) o d, ops[i]? = some o → o.dst = some d → d < N ∧ d ∈ D)
    {Q : Exit → Act → World → Prop} {KA : AState → Prop} {w1 : World} {O1 : Nat → Prop} {a1 : Act}
    (hQ : ∀ A' a' w', KA A' → After T F w0 O0 N w1 O1 a1 D A' a' w' → Q .normal a' w') :
    ∀ (fuel : Nat) (listed : Array Bool) (A : AState) (a : Act) (w : World), aAny T H ops KA fuel listed A → After T F w0 O0 N w1 O1 a1 D A a w → wpAny P .any ops Q fuel listed a w
  | 0, listed, A, a, w, h, hA => ⟨h.1, hQ _ _ _ h.2 hA⟩
  | fuel + 1, listed, A, a, w, h, hA => by
    refine ⟨fun h0 => hQ _ _ _ (h.1 h0) hA, fun i hi => ?_⟩
    obtain ⟨_, o, ho, _⟩ := mem_ready.1 hi
    obtain ⟨e, g1, g2⟩ := gstep_iff.1 (h.2 i hi o ho)
    obtain ⟨ι, R, K, S, E⟩ := hA
    have key := ge_sound (P := P) (Q := Q) tok R (fun d hd => (hN i o d ho hd).1) g1 (K := wpAny P .any ops Q fuel (listed.setIfInBounds i true)) (fun a' w' haf =>
      any_sound tok hN hQ fuel _ _ a' w' g2 (After.trans K S E haf (fun d hd => (hN i o d ho (by cases hx : o.dst <;> simp_all)).2)))
    unfold wpOp
    rw [ho]
    simp only
    split
    · rename_i hw; rw [if_pos hw] at key; exact .inl key
    · rename_i hw; rw [if_neg hw] at key; exact key

theorem lex_sound (tok : Tok P T) {ops : Array Oper} {D : List Nat} (hN : ∀ (i : Nat) o d, ops[i]? = some o → o.dst = some d → d < N ∧ d ∈ D)
    {Q : Exit → Act → World → Prop} {KA : AState → Prop} {w1 : World} {O1 : Nat → Prop} {a1 : Act}
    (hQ : ∀ A' a' w', KA A' → After T F w0 O0 N w1 O1 a1 D A' a' w' → Q .normal a' w') :
    ∀ (l : List Oper) (k : Nat) (A : AState) (a : Act) (w : World), (∀ j, l[j]? = ops[k + j]?) → aops T H ops l A KA → After T F w0 O0 N w1 O1 a1 D A a w → wpOps P ops Q (List.range' k l.length) a w
  | [], k, A, a, w, hl, h, hA => hQ _ _ _ h hA
  | o :: l, k, A, a, w, hl, h, hA => by
    have ho : ops[k]? = some o := by simpa using (hl 0).symm
    obtain ⟨e, g1, g2⟩ := gstep_iff.1 h
    obtain ⟨ι, R, K, S, E⟩ := hA
    have key := ge_sound (P := P) (Q := Q) tok R (fun d hd => (hN k o d ho hd).1) g1 (K := wpOps P ops Q (List.range' (k + 1) l.length)) (fun a' w' haf =>
      lex_sound tok hN hQ l (k + 1) _ a' w' (fun j => by have := hl (j + 1); simpa [Nat.add_assoc, Nat.add_comm 1 j] using this) g2 (After.trans K S E haf (fun d hd => (hN k o d ho (by cases hx : o.dst <;> simp_all)).2)))
    rw [List.length_cons, List.range'_succ]
    simp only [wpOps, ho]
    split
    · rename_i hw; rw [if_pos hw] at key; exact .inl key
    · rename_i hw; rw [if_neg hw] at key; exact key

theorem lexP_sound (tok : Tok P T) {ops : Array Oper} {D : List Nat} (hN : ∀ (i : Nat) o d, ops[i]? = some o → o.dst = some d → d < N ∧ d ∈ D)
    {Q : Exit → Act → World → Prop} {KA : AX → AState → Prop} {w1 : World} {O1 : Nat → Prop} {a1 : Act}
    (hQ : ∀ A' a' w', KA .normal A' → After T F w0 O0 N w1 O1 a1 D A' a' w' → Q .normal a' w')
    (hP : ∀ A' a' w', KA .pan A' → After T F w0 O0 N w1 O1 a1 D A' a' w' → Q (.panic (panChain T.pt)) a' w') :
    ∀ (l : List Oper) (k : Nat) (A : AState) (a : Act) (w : World), (∀ j, l[j]? = ops[k + j]?) → aopsP T H ops l A KA → After T F w0 O0 N w1 O1 a1 D A a w → wpOps P ops Q (List.range' k l.length) a w
  | [], k, A, a, w, hl, h, hA => hQ _ _ _ h hA
  | o :: l, k, A, a, w, hl, h, hA => by
    have ho : ops[k]? = some o := by simpa using (hl 0).symm
    have hl' : ∀ j, l[j]? = ops[k + 1 + j]? := fun j => by have := hl (j + 1); simpa [Nat.add_assoc, Nat.add_comm 1 j] using this
    have hD : ∀ d ∈ o.dst.toList, d ∈ D := fun d hd => (hN k o d ho (by cases hx : o.dst <;> simp_all)).2
    obtain ⟨ι, R, K, S, E⟩ := hA
    rw [List.length_cons, List.range'_succ]
    simp only [wpOps, ho]
    unfold aopsP at h
    cases hb : panOp T o with
    | true =>
      rw [hb] at h
      simp only [cond_true] at h
      have hg : o.guard = none := by
        unfold panOp at hb
        split at hb <;> first | assumption | cases hb
      have hw : Region.wanted o (yielded ops a.tmps) = true := by
        unfold Region.wanted
        rw [hg]
      rw [if_pos hw]
      refine .inl (pstep_sound tok R (fun d hd => (hN k o d ho hd).1) h (fun v a' w' hk haf => ?_) (fun w' hk haf => ?_))
      · exact lexP_sound tok hN hQ hP l (k + 1) _ a' w' hl' hk (After.trans K S E haf hD)
      · exact hP _ _ _ hk (After.trans K S E haf hD)
    | false =>
      rw [hb] at h
      simp only [cond_false] at h
      obtain ⟨e, g1, g2⟩ := gstep_iff.1 h
      have key := ge_sound (P := P) (Q := Q) tok R (fun d hd => (hN k o d ho hd).1) g1 (K := wpOps P ops Q (List.range' (k + 1) l.length)) (fun a' w' haf =>
        lexP_sound tok hN hQ hP l (k + 1) _ a' w' hl' g2 (After.trans K S E haf hD))
      split
      · rename_i hw; rw [if_pos hw] at key; exact .inl key
      · rename_i hw; rw [if_neg hw] at key; exact key

theorem dstsIn_spec {N : Nat} {o : Oper} {d : Nat} (hd : o.dst = some d) : ∀ {l : List Oper}, dstsIn N l = true → o ∈ l → d < N := by
  intro l
  induction l with
  | nil => intro _ hm; cases hm
  | cons o' l ih =>
    intro h hm
    unfold dstsIn at h
    rw [Bool.and_eq_true] at h
    rcases List.mem_cons.1 hm with rfl | hm
    · have h1 := h.1
      rw [hd] at h1
      exact blt_lt h1
    · exact ih h.2 hm

theorem Rel.drew (R : Rel T F w0 O0 N A ι a w) (n : Nat) : Rel T F w0 O0 N A ι a { w with drawn := n } := by
  have := R.set (dst := none) (av := .d .top) (v := undef) (w' := { w with drawn := n }) (fun _ h => by cases h) ⟨rfl, rfl, rfl, Nat.le_refl _, fun _ _ => rfl⟩ trivial (by simp [AV.ids])
  exact this

/-! ### Objects become data -/
theorem own_upd {h : Hp} {id b : Nat} (hb : Own O0 (upd h id none) ι b) : Own O0 h ι b := by
  rcases hb with hb | ⟨i, hi, hb⟩
  · exact .inl hb
  · refine .inr ⟨i, ?_, hb⟩
    rw [upd_eq] at hi
    split at hi
    · exact absurd rfl hi
    · exact hi

theorem Rel.free (R : Rel T F w0 O0 N A ι a w) {id b : Nat} (hb : hblk (ι id) = some b) (hid : A.heap id ≠ none) : ¬ Own O0 (upd A.heap id none) ι b := by
  rintro (h | ⟨i, hi, h⟩)
  · cases ho : A.heap id with
    | none => exact hid ho
    | some o =>
      have h1 := (obj_blk (R.obj id o ho) hb).1
      have h2 := R.o0.1 b h
      omega
  · rw [upd_eq] at hi
    split at hi
    · exact absurd rfl hi
    · rename_i hne
      rcases R.dist i id hi hid hne with h1 | h1
      · rw [h1] at h; cases h
      · rw [h, hb] at h1; exact h1 rfl

theorem Rel.freeze1 (R : Rel T F w0 O0 N A ι a w) (id : Nat) (hbase : T.base ≤ id) : Rel T F w0 O0 N (freeze1 A id) ι a w ∧ ∀ b, Own O0 (freeze1 A id).heap ι b → Own O0 A.heap ι b := by
  unfold Fw.freeze1
  cases hid : A.heap id with
  | none => exact ⟨R, fun _ h => h⟩
  | some o =>
    have hsub : ∀ b, Own O0 (upd A.heap id none) ι b → Own O0 A.heap ι b := fun b h => own_upd h
    have hk : Keeps w (Own O0 A.heap ι) w (Own O0 (upd A.heap id none) ι) := Keeps.weaken hsub
    have hobj : ∀ i o', upd A.heap id none i = some o' → ObjRep w (Own O0 (upd A.heap id none) ι) w0.heap.size o' (ι i) := by
      intro i o' h
      rw [upd_eq] at h
      split at h
      · cases h
      · exact objRep_keeps hk (fun _ _ => rfl) (R.obj i o' h)
    have hdist : ∀ i j, upd A.heap id none i ≠ none → upd A.heap id none j ≠ none → i ≠ j → hblk (ι i) = none ∨ hblk (ι i) ≠ hblk (ι j) := by
      intro i j hi hj hne
      rw [upd_eq] at hi hj
      split at hi
      · exact absurd rfl hi
      · split at hj
        · exact absurd rfl hj
        · exact R.dist i j hi hj hne
    have hlive : ∀ i, i ≠ id → A.heap i ≠ none → upd A.heap id none i ≠ none := by
      intro i hi h
      rw [upd_eq, if_neg hi]
      exact h
    have hlim : ∀ i, upd A.heap id none i ≠ none → i < T.base + 2000000 := by
      intro i hi
      rw [upd_eq] at hi
      split at hi
      · exact absurd rfl hi
      · exact R.lim i hi
    have hfr : ∀ i, i < T.base → i ∉ T.mods → upd A.heap id none i = F.h0 i := by
      intro i h1 h2
      rw [upd_eq, if_neg (by omega)]
      exact R.fr i h1 h2
    have hst : ∀ i, i < T.base → F.h0 i ≠ none → upd A.heap id none i ≠ none ∧ ι i = F.ι0 i := by
      intro i h1 h2
      rw [upd_eq, if_neg (by omega)]
      exact R.st i h1 h2
    have hbeq : ∀ {i : Nat}, Nat.beq i id = false → i ≠ id := fun h e => by subst e; simp at h
    cases o with
    | iter s p => exact ⟨R, fun _ h => h⟩
    | row e t xs =>
      refine ⟨⟨R.below, R.o0, fun s => ?_, hobj, hdist, fun s i hi => ?_, R.size, R.defers, hlim, hfr, hst, R.nw⟩, hsub⟩
      · have h1 := R.env s
        show ARep w (Own O0 (upd A.heap id none) ι) ι (freeze1.fz1 id (.slc false t xs) .top (A.env s)) _
        cases hx : A.env s with
        | own i =>
          rw [hx] at h1
          simp only [freeze1.fz1]
          cases hb : Nat.beq i id with
          | false => exact h1
          | true =>
            have := Nat.eq_of_beq_eq_true hb
            subst this
            have h1' : a.tmps.getD s undef = ι i := h1
            show VRep w _ (.slc false t xs) _
            rw [h1']
            obtain ⟨vs, k1, k2⟩ := R.obj i _ hid
            refine ⟨?_, fun h => by cases h⟩
            rcases k1.2 with ⟨hv, h0⟩ | ⟨g, cap, cur, hv, hg, hh, hnc, hcm, hcs, ht⟩
            · exact ⟨none, 0, by rw [hv, h0], by omega, fun hp => by omega⟩
            · refine ⟨_, cap, hv, hnc, fun hp => ⟨_, rfl, fun j hj => ?_⟩⟩
              have hfree := R.free (id := i) (b := g) (by rw [hv]; rfl) (by rw [hid]; simp)
              refine ERep.imp hk t _ _ _ _ _ (fun m u hm hu => ?_) (k2 j hj)
              exact ⟨by rw [add_block]; exact hfree, k1.cells (g := g) (by rw [hv]; rfl) _ _ hu⟩
        | ptr i o =>
          rw [hx] at h1
          simp only [freeze1.fz1]
          cases hb : Nat.beq i id with
          | false => exact h1
          | true => trivial
        | eptr i o =>
          rw [hx] at h1
          simp only [freeze1.fz1]
          cases hb : Nat.beq i id with
          | false => exact h1
          | true => trivial
        | win i o =>
          rw [hx] at h1
          simp only [freeze1.fz1]
          cases hb : Nat.beq i id with
          | false => exact h1
          | true => trivial
        | clo f cs => trivial
        | d x => rw [hx] at h1; exact ARep.keeps hk _ _ h1
        | tup l => rw [hx] at h1; exact ARep.keeps hk _ _ h1
        | bnd f l => rw [hx] at h1; exact ARep.keeps hk _ _ h1
      · have h1 := R.wf s
        have hi' : i ∈ (freeze1.fz1 id (.slc false t xs) .top (A.env s)).ids := hi
        cases hx : A.env s with
        | own j =>
          rw [hx] at h1 hi'
          simp only [freeze1.fz1] at hi'
          cases hb : Nat.beq j id with
          | false =>
            rw [hb] at hi'
            simp only [cond_false, AV.ids, List.mem_singleton] at hi'
            subst hi'
            exact hlive _ (hbeq hb) (h1 _ (by simp [AV.ids]))
          | true => rw [hb] at hi'; simp [AV.ids] at hi'
        | ptr j o =>
          rw [hx] at h1 hi'
          simp only [freeze1.fz1] at hi'
          cases hb : Nat.beq j id with
          | false =>
            rw [hb] at hi'
            simp only [cond_false, AV.ids, List.mem_singleton] at hi'
            subst hi'
            exact hlive _ (hbeq hb) (h1 _ (by simp [AV.ids]))
          | true => rw [hb] at hi'; simp [AV.ids] at hi'
        | eptr j o =>
          rw [hx] at h1 hi'
          simp only [freeze1.fz1] at hi'
          cases hb : Nat.beq j id with
          | false =>
            rw [hb] at hi'
            simp only [cond_false, AV.ids, List.mem_singleton] at hi'
            subst hi'
            exact hlive _ (hbeq hb) (h1 _ (by simp [AV.ids]))
          | true => rw [hb] at hi'; simp [AV.ids] at hi'
        | win j o =>
          rw [hx] at h1 hi'
          simp only [freeze1.fz1] at hi'
          cases hb : Nat.beq j id with
          | false =>
            rw [hb] at hi'
            simp only [cond_false, AV.ids, List.mem_singleton] at hi'
            subst hi'
            exact hlive _ (hbeq hb) (h1 _ (by simp [AV.ids]))
          | true => rw [hb] at hi'; simp [AV.ids] at hi'
        | clo f cs => rw [hx] at hi'; simp [freeze1.fz1, AV.ids] at hi'
        | d x => rw [hx] at hi'; simp [freeze1.fz1, AV.ids] at hi'
        | tup l => rw [hx] at hi'; simp [freeze1.fz1, AV.ids] at hi'
        | bnd f l => rw [hx] at hi'; simp [freeze1.fz1, AV.ids] at hi'
    | box cs =>
      refine ⟨⟨R.below, R.o0, fun s => ?_, hobj, hdist, fun s i hi => ?_, R.size, R.defers, hlim, hfr, hst, R.nw⟩, hsub⟩
      · have h1 := R.env s
        show ARep w (Own O0 (upd A.heap id none) ι) ι (freeze1.fz2 id cs (A.env s)) _
        cases hx : A.env s with
        | own i =>
          rw [hx] at h1
          simp only [freeze1.fz2]
          cases hb : Nat.beq i id with
          | false => exact h1
          | true => trivial
        | ptr i o =>
          rw [hx] at h1
          simp only [freeze1.fz2]
          cases hb : Nat.beq i id with
          | false => exact h1
          | true =>
            have := Nat.eq_of_beq_eq_true hb
            subst this
            obtain ⟨b, k1, k2⟩ := h1
            show VRep w _ (.rptr (cs.drop o)) _
            obtain ⟨b', vs, e, k3, _, k4, k5⟩ := R.obj i _ hid
            have := ptr_inj k1 k3
            subst this
            have hfree := R.free (id := i) (b := b) (by rw [k1]; rfl) (by rw [hid]; simp)
            refine ⟨_, k2, ((LRep.keeps hk cs _ k5).drop o).prep fun j u hu => ⟨by rw [add_plain]; exact hfree, ?_⟩⟩
            rw [List.getElem?_drop] at hu
            rw [add_plain]
            simp only [World.cell?, k4, Nat.zero_add]
            simpa using hu
        | eptr i o =>
          rw [hx] at h1
          simp only [freeze1.fz2]
          cases hb : Nat.beq i id with
          | false => exact h1
          | true => trivial
        | win i o =>
          rw [hx] at h1
          simp only [freeze1.fz2]
          cases hb : Nat.beq i id with
          | false => exact h1
          | true => trivial
        | clo f cs => trivial
        | d x => rw [hx] at h1; exact ARep.keeps hk _ _ h1
        | tup l => rw [hx] at h1; exact ARep.keeps hk _ _ h1
        | bnd f l => rw [hx] at h1; exact ARep.keeps hk _ _ h1
      · have h1 := R.wf s
        have hi' : i ∈ (freeze1.fz2 id cs (A.env s)).ids := hi
        cases hx : A.env s with
        | own j =>
          rw [hx] at h1 hi'
          simp only [freeze1.fz2] at hi'
          cases hb : Nat.beq j id with
          | false =>
            rw [hb] at hi'
            simp only [cond_false, AV.ids, List.mem_singleton] at hi'
            subst hi'
            exact hlive _ (hbeq hb) (h1 _ (by simp [AV.ids]))
          | true => rw [hb] at hi'; simp [AV.ids] at hi'
        | ptr j o =>
          rw [hx] at h1 hi'
          simp only [freeze1.fz2] at hi'
          cases hb : Nat.beq j id with
          | false =>
            rw [hb] at hi'
            simp only [cond_false, AV.ids, List.mem_singleton] at hi'
            subst hi'
            exact hlive _ (hbeq hb) (h1 _ (by simp [AV.ids]))
          | true => rw [hb] at hi'; simp [AV.ids] at hi'
        | eptr j o =>
          rw [hx] at h1 hi'
          simp only [freeze1.fz2] at hi'
          cases hb : Nat.beq j id with
          | false =>
            rw [hb] at hi'
            simp only [cond_false, AV.ids, List.mem_singleton] at hi'
            subst hi'
            exact hlive _ (hbeq hb) (h1 _ (by simp [AV.ids]))
          | true => rw [hb] at hi'; simp [AV.ids] at hi'
        | win j o =>
          rw [hx] at h1 hi'
          simp only [freeze1.fz2] at hi'
          cases hb : Nat.beq j id with
          | false =>
            rw [hb] at hi'
            simp only [cond_false, AV.ids, List.mem_singleton] at hi'
            subst hi'
            exact hlive _ (hbeq hb) (h1 _ (by simp [AV.ids]))
          | true => rw [hb] at hi'; simp [AV.ids] at hi'
        | clo f cs => rw [hx] at hi'; simp [freeze1.fz2, AV.ids] at hi'
        | d x => rw [hx] at hi'; simp [freeze1.fz2, AV.ids] at hi'
        | tup l => rw [hx] at hi'; simp [freeze1.fz2, AV.ids] at hi'
        | bnd f l => rw [hx] at hi'; simp [freeze1.fz2, AV.ids] at hi'

theorem Rel.freezeAll (R : Rel T F w0 O0 N A ι a w) : ∀ (l : List Nat), Rel T F w0 O0 N (freezeAll T A l) ι a w ∧ ∀ b, Own O0 (freezeAll T A l).heap ι b → Own O0 A.heap ι b := by
  intro l
  induction l generalizing A with
  | nil => exact ⟨R, fun _ h => h⟩
  | cons id l ih =>
    unfold Fw.freezeAll
    cases hb : Nat.ble T.base id with
    | true =>
      obtain ⟨h1, h2⟩ := R.freeze1 id (Nat.le_of_ble_eq_true hb)
      obtain ⟨h3, h4⟩ := ih h1
      exact ⟨h3, fun b hb => h2 b (h4 b hb)⟩
    | false => exact ih R
theorem Rel.frozen (R : Rel T F w0 O0 N A ι a w) (H : Hints) (id : Nat) : Rel T F w0 O0 N (frozenAt T H A id) ι a w ∧ ∀ b, Own O0 (frozenAt T H A id).heap ι b → Own O0 A.heap ι b := by
  unfold frozenAt
  split
  · exact R.freezeAll _
  · exact ⟨R, fun _ h => h⟩

/-! ### Regions that draw their order, and may leave by a panic -/
theorem Rel.cast {T' : Ctx} (hb : T'.base = T.base) (hm : T'.mods = T.mods) (R : Rel T F w0 O0 N A ι a w) : Rel T' F w0 O0 N A ι a w :=
  ⟨R.below, R.o0, R.env, R.obj, R.dist, R.wf, R.size, R.defers, by rw [hb]; exact R.lim, by rw [hb, hm]; exact R.fr, by rw [hb]; exact R.st, by rw [hb, hm]; exact R.nw⟩
theorem After.cast {T' : Ctx} (hb : T'.base = T.base) (hm : T'.mods = T.mods) {w1 : World} {O1 : Nat → Prop} {a1 : Act} {D : List Nat} (h : After T F w0 O0 N w1 O1 a1 D A a w) : After T' F w0 O0 N w1 O1 a1 D A a w := by
  obtain ⟨ι, R, h1, h2, h3⟩ := h
  exact ⟨ι, R.cast hb hm, h1, h2, h3⟩
theorem look_app {α : Type} : ∀ (l l' : List (Nat × α)) (k : Nat), (∀ x, look l k = some x → look (l ++ l') k = some x) ∧ (look l k = none → look (l ++ l') k = look l' k)
  | [], l', k => ⟨fun x h => (by cases h), fun _ => rfl⟩
  | (m, x) :: l, l', k => by
    simp only [List.cons_append, look]
    cases Nat.beq m k with
    | true => exact ⟨fun _ h => h, fun h => (by cases h)⟩
    | false => exact look_app l l' k
theorem look_map {α β : Type} (g : α → β) : ∀ (l : List (Nat × α)) (k : Nat), look (l.map fun p => (p.1, g p.2)) k = (look l k).map g
  | [], k => rfl
  | (m, x) :: l, k => by
    simp only [List.map_cons, look]
    cases Nat.beq m k with
    | true => rfl
    | false => exact look_map g l k
theorem tok_none (tok : Tok P T) : Tok P (Tnone T) := by
  refine ⟨tok.mixed, tok.tt, fun f C h => ?_, tok.invs, tok.cv, tok.pts, tok.pan⟩
  have h' : look (T.pan.map (fun p => (p.1, panNone p.2)) ++ T.fs) f = some C := h
  have hm := look_map panNone T.pan f
  have ha := look_app (T.pan.map (fun p => (p.1, panNone p.2))) T.fs f
  cases hp : look T.pan f with
  | none => rw [hp] at hm; rw [ha.2 hm] at h'; exact tok.fs f C h'
  | some X =>
    rw [hp] at hm
    rw [ha.1 _ hm] at h'
    injection h' with h'
    subst h'
    intro x hx w O vs hO hl
    obtain ⟨h1, h2⟩ := tok.pan f X hp x hx.1 w O vs hO hl
    refine .inl ⟨h1, h2.mono ?_⟩
    rintro e w' (⟨k, _⟩ | ⟨_, k⟩)
    · rw [hx.2] at k; cases k
    · exact k
theorem look_all (f : FuncId) : (∀ X, look T.pan f = some X → look (Tall T).fs f = some (panAll X)) ∧ (look T.pan f = none → look (Tall T).fs f = look T.fs f) := by
  have hm := look_map panAll T.pan f
  have ha := look_app (T.pan.map (fun p => (p.1, panAll p.2))) T.fs f
  exact ⟨fun X hp => ha.1 _ (by rw [hm, hp]; rfl), fun hp => ha.2 (by rw [hm, hp]; rfl)⟩
theorem q_all {ρ : Env} {h : Hp} {k : AV → Prop} {o : Oper} (hok : okPan T H o = true) (hn : panOp T o = false) (hq : qstep (Tall T) o.op ρ h k) : qstep T o.op ρ h k := by
  obtain ⟨dst, op, type, pos, after, guard⟩ := o
  cases op with
  | call c =>
    obtain ⟨callee, args, ats⟩ := c
    unfold okPan at hok
    unfold panOp at hn
    unfold qstep qcall at hq ⊢
    simp only at hok hn hq ⊢
    cases callee with
    | value x =>
      cases x with
      | func f =>
        simp only at hok hn hq ⊢
        cases hp : look T.pan f with
        | none => rw [(look_all f).2 hp] at hq; exact hq
        | some X =>
          cases guard with
          | none => simp only [hp] at hn; cases hn
          | some y => simp only [hp] at hok; simp at hok
      | _ => cases hok
    | builtin b => exact hq
    | invoke r n => cases hok
  | _ => exact hq
theorem ge_all {ops : Array Oper} {o : Oper} {e : Eff} (hok : okPan T H o = true) (hn : panOp T o = false) (h : GE (Tall T) H ops o A e) : GE T H ops o A e := by
  cases e with
  | set av =>
    rcases h with h | ⟨h1, h2, h3⟩
    · exact .inl h
    · exact .inr ⟨h1, h2, fun k hk => q_all hok hn (h3 k hk)⟩
  | obj r =>
    obtain ⟨h1, h2, h3⟩ := h
    refine ⟨h1, h2, fun k hk => ?_⟩
    have := h3 k hk
    revert this
    generalize o.op = op
    cases op <;> exact id
theorem pan_all {ops : Array Oper} {o : Oper} (hok : okPan T H o = true) (hp : panOp T o = true) {A : AState} {K : AState → Prop} (h : gstep (Tall T) H ops o A K) : pstep T o A True (fun _ => False) := by
  obtain ⟨e, g1, _⟩ := gstep_iff.1 h
  unfold panOp at hp
  split at hp
  · rename_i x hgd hop
    exfalso
    cases e with
    | set av =>
      rcases g1 with ⟨g1, _⟩ | ⟨_, _, g3⟩
      · unfold wantedA at g1; rw [hgd] at g1; cases g1
      · have := g3 (fun _ => True) trivial
        rw [hop] at this
        exact this
    | obj r =>
      obtain ⟨_, _, g3⟩ := g1
      have := g3 (fun _ => True) trivial
      rw [hop] at this
      exact this
  · rename_i c hg hop
    split at hp
    · rename_i f hc
      split at hp
      · rename_i X hX
        have hq : qstep (Tall T) o.op A.ev A.heap (fun _ => True) := by
          cases e with
          | set av =>
            rcases g1 with ⟨g1, _⟩ | ⟨_, _, g3⟩
            · unfold wantedA at g1; rw [hg] at g1; cases g1
            · exact g3 _ trivial
          | obj r =>
            exfalso
            obtain ⟨_, ⟨g2, _⟩, _⟩ := g1
            unfold okPan at hok
            unfold cls at g2
            rw [hop] at hok g2
            obtain ⟨callee, args, ats⟩ := c
            simp only at hc
            subst hc
            simp only [hX] at hok g2
            simp only [Bool.and_eq_true, Bool.not_eq_true'] at hok
            rw [hok.2] at g2
            simp at g2
        rw [hop] at hq
        unfold pstep
        rw [hop]
        unfold qstep qcall at hq
        simp only [hc, hX] at hq ⊢
        rw [(look_all f).1 X hX] at hq
        simp only at hq
        unfold qcon at hq
        unfold qconP
        split at hq
        · rename_i ds hds
          simp only [hds]
          split at hq
          · rename_i x hx
            have hx' : decs X.con.args ds = some x := hx
            simp only [hx']
            have hx2 : bif (List.all (List.map A.ev c.args.toList) AV.isA || List.all X.con.res Ar.scalar) then (X.con.pre x ∧ X.pan x = true) ∧ True else False := hq
            cases hb : (List.all (List.map A.ev c.args.toList) AV.isA || List.all X.con.res Ar.scalar) with
            | false => rw [hb] at hx2; exact hx2.elim
            | true =>
              rw [hb] at hx2
              simp only [cond_true] at hx2 ⊢
              refine ⟨hx2.1.1, ?_⟩
              rw [hx2.1.2]; trivial
          · exact hq.elim
        · exact hq.elim
      · cases hp
    · cases hp
  · cases hp

theorem ready_some {ops : Array Oper} {listed : Array Bool} (hs : listed.size = ops.size) (ha : ∀ (i : Nat) o, ops[i]? = some o → ∀ e ∈ o.after, Region.binds .any e = true → e.on < i) :
    ∀ (n i : Nat), i ≤ n → listed.getD i true = false → Region.ready .any ops listed ≠ [] := by
  intro n
  induction n with
  | zero =>
    intro i hi hl h0
    have hlt : i < ops.size := by
      rcases Nat.lt_or_ge i listed.size with h | h
      · omega
      · rw [Array.getD_eq_getD_getElem?, Array.getElem?_eq_none h] at hl; cases hl
    have : i ∈ Region.ready .any ops listed := mem_ready.2 ⟨hl, ops[i], Array.getElem?_eq_getElem hlt, fun e he hb => by
      have := ha i _ (Array.getElem?_eq_getElem hlt) e he hb
      omega⟩
    rw [h0] at this; cases this
  | succ n ih =>
    intro i hi hl h0
    have hlt : i < ops.size := by
      rcases Nat.lt_or_ge i listed.size with h | h
      · omega
      · rw [Array.getD_eq_getD_getElem?, Array.getElem?_eq_none h] at hl; cases hl
    have : i ∈ Region.ready .any ops listed := mem_ready.2 ⟨hl, ops[i], Array.getElem?_eq_getElem hlt, fun e he hb => by
      have hon := ha i _ (Array.getElem?_eq_getElem hlt) e he hb
      cases hx : listed.getD e.on false with
      | true => rfl
      | false =>
        exact absurd h0 (ih e.on (by omega) (by
          rw [Array.getD_eq_getD_getElem?, Array.getElem?_eq_getElem (by omega)] at hx ⊢
          exact hx))⟩
    rw [h0] at this; cases this

theorem any_soundP (tok : Tok P T) {ops : Array Oper} {D : List Nat} (hN : ∀ (i : Nat) o d, ops[i]? = some o → o.dst = some d → d < N ∧ d ∈ D)
    {Q : Exit → Act → World → Prop} {w1 : World} {O1 : Nat → Prop} {a1 : Act} (hok : ∀ (i : Nat) o, ops[i]? = some o → okPan T H o = true)
    (hP : ∀ A' a' w', After T F w0 O0 N w1 O1 a1 D A' a' w' → Q (.panic (panChain T.pt)) a' w')
    {p : Nat} {op : Oper} (hp : ops[p]? = some op) (hpan : panOp T op = true) (ha : ∀ (i : Nat) o, ops[i]? = some o → ∀ e ∈ o.after, Region.binds .any e = true → e.on < i) :
    ∀ (fuel : Nat) (listed : Array Bool) (A : AState) (a : Act) (w : World), listed.size = ops.size → listed.getD p true = false → aAny (Tall T) H ops (fun _ => True) fuel listed A →
      After T F w0 O0 N w1 O1 a1 D A a w → wpAny P .any ops Q fuel listed a w
  | 0, listed, A, a, w, hs, hl, h, hA => absurd h.1 (ready_some hs ha p p (Nat.le_refl _) hl)
  | fuel + 1, listed, A, a, w, hs, hl, h, hA => by
    refine ⟨fun h0 => absurd h0 (ready_some hs ha p p (Nat.le_refl _) hl), fun i hi => ?_⟩
    obtain ⟨_, o, ho, _⟩ := mem_ready.1 hi
    have hg := h.2 i hi o ho
    obtain ⟨ι, R, K, S, E⟩ := hA
    unfold wpOp
    rw [ho]
    simp only
    cases hpo : panOp T o with
    | true =>
      have hps := pan_all (hok i o ho) hpo hg
      have hw : Region.wanted o (yielded ops a.tmps) = true := by
        have : o.guard = none := by
          unfold panOp at hpo
          split at hpo
          · assumption
          · assumption
          · cases hpo
        unfold Region.wanted
        rw [this]
      rw [if_pos hw]
      refine .inl (pstep_sound tok R (fun d hd => (hN i o d ho hd).1) hps (fun v a' w' hv => hv.elim) (fun w' _ haf => ?_))
      exact hP _ _ _ (After.trans K S E haf (fun d hd => (hN i o d ho (by cases hx : o.dst <;> simp_all)).2))
    | false =>
      obtain ⟨e, g1, g2⟩ := gstep_iff.1 hg
      have hip : i ≠ p := fun e => by subst e; rw [hp] at ho; injection ho with ho; subst ho; rw [hpan] at hpo; cases hpo
      have key := ge_sound (P := P) (Q := Q) tok R (fun d hd => (hN i o d ho hd).1) (ge_all (hok i o ho) hpo g1) (K := wpAny P .any ops Q fuel (listed.setIfInBounds i true)) (fun a' w' haf =>
        any_soundP tok hN hok hP hp hpan ha fuel _ _ a' w' (by simpa using hs) (by rw [getD_set_ne true hip]; exact hl) g2 (After.trans K S E haf (fun d hd => (hN i o d ho (by cases hx : o.dst <;> simp_all)).2)))
      split
      · rename_i hw; rw [if_pos hw] at key; exact .inl key
      · rename_i hw; rw [if_neg hw] at key; exact key

theorem allR_mem : ∀ {l : List Nat} {k : Nat → Prop}, allR l k → ∀ i ∈ l, k i
  | [], _, _, i, hi => by cases hi
  | [j], k, h, i, hi => by
    have : i = j := by simpa using hi
    subst this; exact h
  | j :: j' :: l, k, h, i, hi => by
    rcases List.mem_cons.1 hi with e | hi
    · rw [e]; exact h.1
    · exact allR_mem h.2 i hi
theorem rdy_ready {ops : Array Oper} {l : List Nat} {listed : Array Bool} (hs : listed.size = ops.size) (h1 : ∀ i, i < ops.size → listed.getD i true = memN i l) (h2 : ∀ i, memN i l = true → i < ops.size) {i : Nat}
    (h : i ∈ Region.ready .any ops listed) : i ∈ (List.range ops.size).filter (rdy ops l) := by
  obtain ⟨k1, o, k2, k3⟩ := mem_ready.1 h
  have hi := (Array.getElem?_eq_some_iff.1 k2).1
  refine List.mem_filter.2 ⟨List.mem_range.2 hi, ?_⟩
  unfold rdy
  rw [k2, ← h1 i hi, k1]
  simp only [Bool.not_false, Bool.true_and]
  refine List.all_eq_true.2 fun e he => ?_
  cases hb : Region.binds .any e with
  | false => rfl
  | true =>
    have := k3 e (by simpa using he) hb
    have hlt : e.on < ops.size := by
      rcases Nat.lt_or_ge e.on listed.size with h | h
      · omega
      · rw [Array.getD_eq_getD_getElem?, Array.getElem?_eq_none h] at this; cases this
    have h3 := h1 e.on hlt
    rw [Array.getD_eq_getD_getElem?, Array.getElem?_eq_getElem (by omega)] at this h3
    simp only [Option.getD_some] at this h3
    rw [← h3, this]; rfl
theorem ready_rdy {ops : Array Oper} {l : List Nat} {listed : Array Bool} (hs : listed.size = ops.size) (h1 : ∀ i, i < ops.size → listed.getD i true = memN i l) (h2 : ∀ i, memN i l = true → i < ops.size) {i : Nat}
    (h : i ∈ (List.range ops.size).filter (rdy ops l)) : i ∈ Region.ready .any ops listed := by
  obtain ⟨k1, k2⟩ := List.mem_filter.1 h
  have hi : i < ops.size := List.mem_range.1 k1
  unfold rdy at k2
  rw [Array.getElem?_eq_getElem hi] at k2
  simp only [Bool.and_eq_true, Bool.not_eq_true'] at k2
  refine mem_ready.2 ⟨by rw [h1 i hi]; exact k2.1, ops[i], Array.getElem?_eq_getElem hi, fun e he hb => ?_⟩
  have := List.all_eq_true.1 k2.2 e (by simpa using he)
  rw [hb] at this
  simp only [Bool.not_true, Bool.false_or] at this
  have hlt := h2 _ this
  have h3 := h1 e.on hlt
  rw [Array.getD_eq_getD_getElem?, Array.getElem?_eq_getElem (by omega)] at h3 ⊢
  rw [this] at h3
  exact h3
theorem memN_cons {i j : Nat} {l : List Nat} : memN j (i :: l) = if j = i then true else memN j l := by
  simp only [memN]
  by_cases h : j = i
  · subst h; simp
  · have : Nat.beq j i = false := by
      cases hb : Nat.beq j i with
      | false => rfl
      | true => exact absurd (Nat.eq_of_beq_eq_true hb) h
    rw [this, if_neg h]; rfl
theorem anyC_any {ops : Array Oper} {K : AState → Prop} : ∀ (f : Nat) (l : List Nat) (listed : Array Bool) (A : AState), listed.size = ops.size → (∀ i, i < ops.size → listed.getD i true = memN i l) → (∀ i, memN i l = true → i < ops.size) →
    aAnyC T H ops K f l A → aAny T H ops K f listed A
  | 0, l, listed, A, hs, h1, h2, h => by
    unfold aAnyC at h
    cases hb : (List.range ops.size).any (rdy ops l) with
    | true => rw [hb] at h; exact h.elim
    | false =>
      rw [hb] at h
      refine ⟨?_, h⟩
      cases hr : Region.ready .any ops listed with
      | nil => rfl
      | cons i r =>
        have := rdy_ready hs h1 h2 (i := i) (by rw [hr]; simp)
        have := List.mem_filter.1 this
        have hf := List.any_eq_false.1 hb i this.1
        rw [this.2] at hf
        exact absurd rfl hf
  | f + 1, l, listed, A, hs, h1, h2, h => by
    unfold aAnyC at h
    cases hb : (List.range ops.size).any (rdy ops l) with
    | false =>
      rw [hb] at h
      simp only [cond_false] at h
      have key : ∀ i ∈ Region.ready .any ops listed, False := fun i hi => by
        have := List.mem_filter.1 (rdy_ready hs h1 h2 hi)
        have hf := List.any_eq_false.1 hb i this.1
        rw [this.2] at hf
        exact absurd rfl hf
      exact ⟨fun _ => h, fun i hi => (key i hi).elim⟩
    | true =>
      rw [hb] at h
      simp only [cond_true] at h
      refine ⟨fun h0 => ?_, fun i hi o ho => ?_⟩
      · obtain ⟨i, hi1, hi2⟩ := List.any_eq_true.1 hb
        have := ready_rdy hs h1 h2 (List.mem_filter.2 ⟨hi1, hi2⟩)
        rw [h0] at this; cases this
      · have := allR_mem h i (rdy_ready hs h1 h2 hi)
        rw [ho] at this
        simp only at this
        refine gstep_mono this fun e he hK => anyC_any f (i :: l) _ _ (by simpa using hs) (fun j hj => ?_) (fun j hj => ?_) hK
        · by_cases hij : i = j
          · subst hij
            rw [Array.getD_eq_getD_getElem?, Array.getElem?_eq_getElem (by simpa [hs] using hj)]
            simp [memN_cons]
          · rw [getD_set_ne true hij, h1 j hj, memN_cons, if_neg (Ne.symm hij)]
        · rw [memN_cons] at hj
          split at hj
          · rename_i e
            rw [e]
            exact (Array.getElem?_eq_some_iff.1 ho).1
          · exact h2 j hj

theorem region_sound (tok : Tok P T) (R : Rel T F w0 O0 N A ι a w) {id : Nat} {ops : Array Oper} {draw : Bool} {K : AX → AState → Prop} {Q : Exit → Act → World → Prop}
    (h : bif dstsIn N ops.toList then (bif draw then (bif lexL H ops (frozenAt T H A id) 0 ops.toList then (bif ops.toList.any (panOp T) then (bif ops.toList.all (okPan T H) then
        (((∀ A', K .pan A') ∧ aops (Tall T) H ops ops.toList (frozenAt T H A id) (fun _ => True)) ∨ aops (Tnone T) H ops ops.toList (frozenAt T H A id) (K .normal)) else False)
        else aops T H ops ops.toList (frozenAt T H A id) (K .normal)) else (bif ops.toList.any (panOp T) then False else aAnyC T H ops (K .normal) ops.size [] (frozenAt T H A id))) else aopsP T H ops ops.toList (frozenAt T H A id) K) else False)
    (hQ : ∀ A' a' w', K .normal A' → After T F w0 O0 N w (Own O0 A.heap ι) a (ops.toList.filterMap (·.dst)) A' a' w' → Q .normal a' w')
    (hP : ∀ A' a' w', K .pan A' → After T F w0 O0 N w (Own O0 A.heap ι) a (ops.toList.filterMap (·.dst)) A' a' w' → Q (.panic (panChain T.pt)) a' w') : (Code.region id ops draw).wp P Q a w := by
  cases hd : dstsIn N ops.toList with
  | false => rw [hd] at h; exact h.elim
  | true =>
    rw [hd] at h
    simp only [cond_true] at h
    have hN : ∀ (i : Nat) o d, ops[i]? = some o → o.dst = some d → d < N ∧ d ∈ ops.toList.filterMap (·.dst) := by
      intro i o d ho hod
      have hm : o ∈ ops.toList := by
        rw [← Array.getElem?_toList] at ho
        exact List.mem_of_getElem? ho
      exact ⟨dstsIn_spec hod hd hm, List.mem_filterMap.2 ⟨o, hm, hod⟩⟩
    obtain ⟨Rf, hsub⟩ := R.frozen H id
    have base : ∀ n, After T F w0 O0 N w (Own O0 A.heap ι) a (ops.toList.filterMap (·.dst)) (frozenAt T H A id) a { w with drawn := n } := fun n =>
      ⟨ι, Rf.drew n, ⟨fun _ _ _ => rfl, fun b _ hn ho => hn (hsub b ho)⟩, Nat.le_refl _, fun _ _ => rfl⟩
    cases draw with
    | false =>
      refine wp_region ?_
      rw [List.range_eq_range', ← Array.length_toList]
      simp only [cond_false] at h
      exact lexP_sound tok hN hQ hP ops.toList 0 _ a w (by simp) h (base w.drawn)
    | true =>
      simp only [cond_true] at h
      refine wp_region_any tok.mixed ?_
      cases hl : lexL H ops (frozenAt T H A id) 0 ops.toList with
      | false =>
        rw [hl] at h
        simp only [cond_false] at h
        cases hpn : ops.toList.any (panOp T) with
        | true => rw [hpn] at h; exact h.elim
        | false =>
          rw [hpn] at h
          simp only [cond_false] at h
          exact any_sound tok hN hQ _ _ _ _ _ (anyC_any _ _ _ _ (by simp) (fun i hi => by rw [Array.getD_eq_getD_getElem?, Array.getElem?_eq_getElem (by simpa using hi)]; simp [memN]) (fun i hi => by cases hi) h) (base _)
      | true =>
      rw [hl] at h
      simp only [cond_true] at h
      have start : ∀ {T' : Ctx} {K' : AState → Prop} (hb : T'.base = T.base) (hm : T'.mods = T.mods), aops T' H ops ops.toList (frozenAt T H A id) K' →
          aAny T' H ops K' ops.size (Array.replicate ops.size false) (frozenAt T H A id) := fun {T' K'} hb hm h => by
        have := aAny_lex (T := T') (H := H) (ops := ops) (frozenAt T H A id) ops.toList 0 (Array.replicate ops.size false) (frozenAt T H A id) (by simp) (by simp) (by simp) (fun j hj => by simp) hl Rf.wf (fun t i off _ h0 => .inl h0) (fun m om hm hlm => by
          exfalso
          rw [Array.getD_eq_getD_getElem?, Array.getElem?_replicate] at hlm
          split at hlm <;> simp at hlm) h
        rw [Array.length_toList] at this
        exact this
      cases hpn : ops.toList.any (panOp T) with
      | false =>
        rw [hpn] at h
        simp only [cond_false] at h
        exact any_sound tok hN hQ _ _ _ _ _ (start rfl rfl h) (base _)
      | true =>
        rw [hpn] at h
        simp only [cond_true] at h
        cases hok : ops.toList.all (okPan T H) with
        | false => rw [hok] at h; exact h.elim
        | true =>
          rw [hok] at h
          simp only [cond_true] at h
          rcases h with ⟨hk, h⟩ | h
          · obtain ⟨op, hop, hpan⟩ := List.any_eq_true.1 hpn
            obtain ⟨p, hp⟩ := List.getElem?_of_mem hop
            rw [Array.getElem?_toList] at hp
            have hat : ∀ (l : List Oper) (k : Nat), lexL H ops (frozenAt T H A id) k l = true → ∀ (i : Nat) o, l[i]? = some o → ∀ e ∈ o.after, Region.binds .any e = true → e.on < k + i := by
              intro l
              induction l with
              | nil => intro k _ i o hi; cases hi
              | cons x l ih =>
                intro k hk i o hi e he hb
                simp only [lexL, Bool.and_eq_true] at hk
                cases i with
                | zero =>
                  injection hi with hi
                  subst hi
                  have := List.all_eq_true.1 hk.1.1 e (by simpa using he)
                  simp only [hb, Bool.not_true, Bool.false_or] at this
                  exact blt_lt this
                | succ i =>
                  have := ih (k + 1) hk.2 i o (by simpa using hi) e he hb
                  omega
            refine any_soundP tok hN (fun i o ho => ?_) (fun A' a' w' haf => hP A' a' w' (hk A') haf) hp hpan (fun i o ho e he hb => ?_) _ _ _ _ _ (by simp) ?_ (start rfl rfl h) (base _)
            · rw [← Array.getElem?_toList] at ho
              exact List.all_eq_true.1 hok o (List.mem_of_getElem? ho)
            · have := hat ops.toList 0 hl i o (by rw [Array.getElem?_toList]; exact ho) e he hb
              omega
            · have hlt := (Array.getElem?_eq_some_iff.1 hp).1
              rw [Array.getD_eq_getD_getElem?, Array.getElem?_eq_getElem (by simpa using hlt)]
              simp
          · have hQ' : ∀ A' a' w', K .normal A' → After (Tnone T) F w0 O0 N w (Own O0 A.heap ι) a (ops.toList.filterMap (·.dst)) A' a' w' → Q .normal a' w' :=
              fun A' a' w' hk haf => hQ A' a' w' hk (After.cast (T := Tnone T) (T' := T) rfl rfl haf)
            exact any_sound (tok_none tok) hN hQ' _ _ _ _ _ (start rfl rfl h) (After.cast (T := T) (T' := Tnone T) rfl rfl (base _))

end
end Fw
end
section
/- Loops and code are sound. -/
set_option linter.unusedVariables false
set_option linter.unusedSimpArgs false
namespace Fw
open Go Go.RowKit

/-! ### What holds at a loop's head -/
def EX (b : Nat) (S : AState) : (vars : List (Nat × Sh)) → List Nat → Shs vars → Prop
  | [], _, _ => True
  | (s, .ty t) :: l, used, x => (∃ d, S.env s = .d d ∧ t.ofD d = some x.1) ∧ EX b S l used x.2
  | (s, .own e t) :: l, used, x => (∃ id, S.env s = .own id ∧ S.heap id = some (.row e t x.1) ∧ (b ≤ id ∧ id ∉ used) ∧ EX b S l (id :: used) x.2) ∨
      (S.env s = .d (.val (.slice none 0 0)) ∧ x.1 = [] ∧ EX b S l used x.2)
  | (s, .box t) :: l, used, x => ∃ id cs, S.env s = .ptr id 0 ∧ S.heap id = some (.box cs) ∧ decs t cs = some x.1 ∧ (b ≤ id ∧ id ∉ used) ∧ EX b S l (id :: used) x.2
  | (g, .obj e t) :: l, used, x => S.heap g = some (.row e t x.1) ∧ EX b S l used x.2
  | (s, .iter) :: l, used, x => ∃ id, S.env s = .own id ∧ S.heap id = some (.iter x.1.1 x.1.2) ∧ (b ≤ id ∧ id ∉ used) ∧ EX b S l (id :: used) x.2

theorem memN_spec {n : Nat} : ∀ {l : List Nat}, memN n l = false → n ∉ l
  | [], _ => by simp
  | m :: l, h => by
    unfold memN at h
    cases hb : Nat.beq n m with
    | true => rw [hb] at h; cases h
    | false =>
      rw [hb] at h
      simp only [List.mem_cons, not_or]
      exact ⟨fun e => by subst e; simp at hb, memN_spec h⟩
theorem memN_mem {n : Nat} : ∀ {l : List Nat}, memN n l = true → n ∈ l
  | [], h => by cases h
  | m :: l, h => by
    unfold memN at h
    cases hb : Nat.beq n m with
    | true => exact List.mem_cons.2 (.inl (Nat.eq_of_beq_eq_true hb))
    | false => rw [hb] at h; exact List.mem_cons.2 (.inr (memN_mem h))

theorem ext_EX (b : Nat) (S : AState) : ∀ (vars : List (Nat × Sh)) (used : List Nat) (k : Shs vars → Prop), ext b S vars used k → ∃ x, k x ∧ EX b S vars used x
  | [], used, k, h => ⟨(), h, trivial⟩
  | (s, .ty t) :: l, used, k, h => by
    simp only [ext] at h
    cases hv : viewD S.heap (S.env s) with
    | none => rw [hv] at h; exact h.elim
    | some d =>
      rw [hv] at h
      simp only at h
      cases hd : t.ofD d with
      | none => rw [hd] at h; exact h.elim
      | some x =>
        rw [hd] at h
        simp only at h
        cases hi : AV.isD (S.env s) with
        | false => rw [hi] at h; exact h.elim
        | true =>
          rw [hi] at h
          simp only [cond_true] at h
          obtain ⟨xs, h1, h2⟩ := ext_EX b S l used _ h
          refine ⟨(x, xs), h1, ⟨d, ?_, hd⟩, h2⟩
          cases he : S.env s with
          | d y => rw [he] at hv; simp [viewD] at hv; rw [hv]
          | _ => rw [he] at hi; simp [AV.isD] at hi
  | (s, .own e t) :: l, used, k, h => by
    simp only [ext] at h
    split at h
    · rename_i id he
      split at h
      · rename_i e' t' xs hh
        split at h
        · rename_i ys hc
          obtain ⟨rfl, hys⟩ := castL_spec hc
          simp only at hys
          subst hys
          cases hb : (Nat.beq e e' && Nat.ble b id && !memN id used) with
          | false => rw [hb] at h; exact h.elim
          | true =>
            rw [hb] at h
            simp only [cond_true] at h
            simp only [Bool.and_eq_true, Bool.not_eq_true'] at hb
            have := Nat.eq_of_beq_eq_true hb.1.1
            subst this
            obtain ⟨zs, h1, h2⟩ := ext_EX b S l (id :: used) _ h
            exact ⟨(ys, zs), h1, .inl ⟨id, he, hh, ⟨Nat.le_of_ble_eq_true hb.1.2, memN_spec hb.2⟩, h2⟩⟩
        · exact h.elim
      · exact h.elim
    · rename_i he
      obtain ⟨zs, h1, h2⟩ := ext_EX b S l used _ h
      exact ⟨([], zs), h1, .inr ⟨he, rfl, h2⟩⟩
    · exact h.elim
  | (s, .box t) :: l, used, k, h => by
    simp only [ext] at h
    split at h
    · rename_i id he
      split at h
      · rename_i cs hh
        split at h
        · rename_i x hc
          cases hb : (Nat.ble b id && !memN id used) with
          | false => rw [hb] at h; exact h.elim
          | true =>
            rw [hb] at h
            simp only [cond_true] at h
            simp only [Bool.and_eq_true, Bool.not_eq_true'] at hb
            obtain ⟨zs, h1, h2⟩ := ext_EX b S l (id :: used) _ h
            exact ⟨(x, zs), h1, id, cs, he, hh, hc, ⟨Nat.le_of_ble_eq_true hb.1, memN_spec hb.2⟩, h2⟩
        · exact h.elim
      · exact h.elim
    · exact h.elim
  | (g, .obj e t) :: l, used, k, h => by
    simp only [ext] at h
    split at h
    · rename_i e' t' xs hh
      split at h
      · rename_i ys hc
        obtain ⟨rfl, hys⟩ := castL_spec hc
        simp only at hys
        subst hys
        cases hb : Nat.beq e e' with
        | false => rw [hb] at h; exact h.elim
        | true =>
          rw [hb] at h
          simp only [cond_true] at h
          have := Nat.eq_of_beq_eq_true hb
          subst this
          obtain ⟨zs, h1, h2⟩ := ext_EX b S l used _ h
          exact ⟨(ys, zs), h1, hh, h2⟩
      · exact h.elim
    · exact h.elim
  | (s, .iter) :: l, used, k, h => by
    simp only [ext] at h
    split at h
    · rename_i id he
      split at h
      · rename_i str pos hh
        cases hb : (Nat.ble b id && !memN id used) with
        | false => rw [hb] at h; exact h.elim
        | true =>
          rw [hb] at h
          simp only [cond_true] at h
          simp only [Bool.and_eq_true, Bool.not_eq_true'] at hb
          obtain ⟨zs, h1, h2⟩ := ext_EX b S l (id :: used) _ h
          exact ⟨((str, pos), zs), h1, id, he, hh, ⟨Nat.le_of_ble_eq_true hb.1, memN_spec hb.2⟩, h2⟩
      · exact h.elim
    · exact h.elim

/-- The object in a slot of a loop's head. -/
def EO (b : Nat) (S : AState) (used : List Nat) (s : Nat) (o : Obj) : Prop :=
  (∃ id, (b ≤ id ∧ id ∉ used) ∧ S.env s = .own id ∧ S.heap id = some o) ∨
  (∃ e t, S.env s = .d (.val (.slice none 0 0)) ∧ o = .row e t []) ∨
  (∃ id cs t y, (b ≤ id ∧ id ∉ used) ∧ S.env s = .ptr id 0 ∧ S.heap id = some (.box cs) ∧ decs t cs = some y ∧ o = .box (encs t y))
theorem EO.mono {b : Nat} {S : AState} {used used' : List Nat} {s : Nat} {o : Obj} (h : EO b S used s o) (hu : ∀ i ∈ used', i ∈ used) : EO b S used' s o := by
  rcases h with ⟨id, h1, h2⟩ | h | ⟨id, cs, t, y, h1, h2⟩
  · exact .inl ⟨id, ⟨h1.1, fun h => h1.2 (hu _ h)⟩, h2⟩
  · exact .inr (.inl h)
  · exact .inr (.inr ⟨id, cs, t, y, ⟨h1.1, fun h => h1.2 (hu _ h)⟩, h2⟩)

def idOf : AV → Option Nat
  | .own id => some id
  | .ptr id _ => some id
  | _ => none
theorem EO.fresh {b : Nat} {S : AState} {used : List Nat} {s : Nat} {o : Obj} (h : EO b S used s o) {id : Nat} (hi : idOf (S.env s) = some id) : b ≤ id ∧ id ∉ used := by
  rcases h with ⟨id', h1, h2, _⟩ | ⟨e, t, h1, _⟩ | ⟨id', cs, t, y, h1, h2, _⟩
  · rw [h2] at hi; simp [idOf] at hi; subst hi; exact h1
  · rw [h1] at hi; simp [idOf] at hi
  · rw [h2] at hi; simp [idOf] at hi; subst hi; exact h1

theorem EX.obj {b : Nat} {S : AState} : ∀ (vars : List (Nat × Sh)) (used : List Nat) (x : Shs vars), EX b S vars used x → ∀ s o, heapOf vars x s = some o → EO b S used s o
  | [], _, _, _, s, o, h => by simp [heapOf] at h
  | (t, .ty ty) :: l, used, x, hx, s, o, h => EX.obj l used x.2 hx.2 s o (by simpa [heapOf] using h)
  | (t, .own e ty) :: l, used, x, hx, s, o, h => by
    simp only [heapOf] at h
    cases hb : Nat.beq t s with
    | true =>
      rw [hb] at h
      simp only [cond_true, Option.some.injEq] at h
      have := Nat.eq_of_beq_eq_true hb
      subst this h
      rcases hx with ⟨id, h1, h2, h3, _⟩ | ⟨h1, h2, _⟩
      · exact .inl ⟨id, h3, h1, h2⟩
      · exact .inr (.inl ⟨e, ty, h1, by rw [h2]⟩)
    | false =>
      rw [hb] at h
      simp only [cond_false] at h
      rcases hx with ⟨id, h1, h2, h3, h4⟩ | ⟨h1, h2, h4⟩
      · exact (EX.obj l _ x.2 h4 s o h).mono fun i hi => List.mem_cons.2 (.inr hi)
      · exact EX.obj l _ x.2 h4 s o h
  | (t, .box ty) :: l, used, x, hx, s, o, h => by
    simp only [heapOf] at h
    obtain ⟨id, cs, h1, h2, h3, h4, h5⟩ := hx
    cases hb : Nat.beq t s with
    | true =>
      rw [hb] at h
      simp only [cond_true, Option.some.injEq] at h
      have := Nat.eq_of_beq_eq_true hb
      subst this h
      exact .inr (.inr ⟨id, cs, ty, x.1, h4, h1, h2, h3, rfl⟩)
    | false =>
      rw [hb] at h
      simp only [cond_false] at h
      exact (EX.obj l _ x.2 h5 s o h).mono fun i hi => List.mem_cons.2 (.inr hi)
  | (g, .obj e t) :: l, used, x, hx, s, o, h => EX.obj l used x.2 hx.2 s o (by simpa [heapOf] using h)
  | (t, .iter) :: l, used, x, hx, s, o, h => by
    simp only [heapOf] at h
    obtain ⟨id, h1, h2, h3, h4⟩ := hx
    cases hb : Nat.beq t s with
    | true =>
      rw [hb] at h
      simp only [cond_true, Option.some.injEq] at h
      have := Nat.eq_of_beq_eq_true hb
      subst this h
      exact .inl ⟨id, h3, h1, h2⟩
    | false =>
      rw [hb] at h
      simp only [cond_false] at h
      exact (EX.obj l _ x.2 h4 s o h).mono fun i hi => List.mem_cons.2 (.inr hi)

theorem EX.dist {b : Nat} {S : AState} : ∀ (vars : List (Nat × Sh)) (used : List Nat) (x : Shs vars), EX b S vars used x → ∀ s s' o o', heapOf vars x s = some o → heapOf vars x s' = some o' → s ≠ s' →
    ∀ id, idOf (S.env s) = some id → idOf (S.env s') ≠ some id
  | [], _, _, _, s, s', o, o', h, _, _ => by simp [heapOf] at h
  | (t, .ty ty) :: l, used, x, hx, s, s', o, o', h, h', hne => EX.dist l used x.2 hx.2 s s' o o' (by simpa [heapOf] using h) (by simpa [heapOf] using h') hne
  | (t, .own e ty) :: l, used, x, hx, s, s', o, o', h, h', hne => by
    intro id hi hi'
    simp only [heapOf] at h h'
    cases hb : Nat.beq t s with
    | true =>
      have := Nat.eq_of_beq_eq_true hb
      subst this
      have hb' : Nat.beq t s' = false := by
        cases hb' : Nat.beq t s' with
        | false => rfl
        | true => exact absurd (Nat.eq_of_beq_eq_true hb') hne
      rw [hb'] at h'
      simp only [cond_false] at h'
      rcases hx with ⟨id1, h1, h2, h3, h4⟩ | ⟨h1, h2, h4⟩
      · rw [h1] at hi
        simp [idOf] at hi
        subst hi
        exact ((EX.obj l _ x.2 h4 s' o' h').fresh hi').2 (by simp)
      · rw [h1] at hi; simp [idOf] at hi
    | false =>
      rw [hb] at h
      simp only [cond_false] at h
      cases hb' : Nat.beq t s' with
      | true =>
        have := Nat.eq_of_beq_eq_true hb'
        subst this
        rcases hx with ⟨id1, h1, h2, h3, h4⟩ | ⟨h1, h2, h4⟩
        · rw [h1] at hi'
          simp [idOf] at hi'
          subst hi'
          exact ((EX.obj l _ x.2 h4 s o h).fresh hi).2 (by simp)
        · rw [h1] at hi'; simp [idOf] at hi'
      | false =>
        rw [hb'] at h'
        simp only [cond_false] at h'
        rcases hx with ⟨id1, h1, h2, h3, h4⟩ | ⟨h1, h2, h4⟩
        · exact EX.dist l _ x.2 h4 s s' o o' h h' hne id hi hi'
        · exact EX.dist l _ x.2 h4 s s' o o' h h' hne id hi hi'
  | (t, .box ty) :: l, used, x, hx, s, s', o, o', h, h', hne => by
    intro id hi hi'
    simp only [heapOf] at h h'
    obtain ⟨id1, cs, h1, h2, h3, h3', h4⟩ := hx
    cases hb : Nat.beq t s with
    | true =>
      have := Nat.eq_of_beq_eq_true hb
      subst this
      have hb' : Nat.beq t s' = false := by
        cases hb' : Nat.beq t s' with
        | false => rfl
        | true => exact absurd (Nat.eq_of_beq_eq_true hb') hne
      rw [hb'] at h'
      simp only [cond_false] at h'
      rw [h1] at hi
      simp [idOf] at hi
      subst hi
      exact ((EX.obj l _ x.2 h4 s' o' h').fresh hi').2 (by simp)
    | false =>
      rw [hb] at h
      simp only [cond_false] at h
      cases hb' : Nat.beq t s' with
      | true =>
        have := Nat.eq_of_beq_eq_true hb'
        subst this
        rw [h1] at hi'
        simp [idOf] at hi'
        subst hi'
        exact ((EX.obj l _ x.2 h4 s o h).fresh hi).2 (by simp)
      | false =>
        rw [hb'] at h'
        simp only [cond_false] at h'
        exact EX.dist l _ x.2 h4 s s' o o' h h' hne id hi hi'
  | (g, .obj e t) :: l, used, x, hx, s, s', o, o', h, h', hne => EX.dist l used x.2 hx.2 s s' o o' (by simpa [heapOf] using h) (by simpa [heapOf] using h') hne
  | (t, .iter) :: l, used, x, hx, s, s', o, o', h, h', hne => by
    intro id hi hi'
    simp only [heapOf] at h h'
    obtain ⟨id1, h1, h2, h3, h4⟩ := hx
    cases hb : Nat.beq t s with
    | true =>
      have := Nat.eq_of_beq_eq_true hb
      subst this
      have hb' : Nat.beq t s' = false := by
        cases hb' : Nat.beq t s' with
        | false => rfl
        | true => exact absurd (Nat.eq_of_beq_eq_true hb') hne
      rw [hb'] at h'
      simp only [cond_false] at h'
      rw [h1] at hi
      simp [idOf] at hi
      subst hi
      exact ((EX.obj l _ x.2 h4 s' o' h').fresh hi').2 (by simp)
    | false =>
      rw [hb] at h
      simp only [cond_false] at h
      cases hb' : Nat.beq t s' with
      | true =>
        have := Nat.eq_of_beq_eq_true hb'
        subst this
        rw [h1] at hi'
        simp [idOf] at hi'
        subst hi'
        exact ((EX.obj l _ x.2 h4 s o h).fresh hi).2 (by simp)
      | false =>
        rw [hb'] at h'
        simp only [cond_false] at h'
        exact EX.dist l _ x.2 h4 s s' o o' h h' hne id hi hi'

/-- The value in a slot of a loop's head. -/
def EV (b : Nat) (S : AState) (vars : List (Nat × Sh)) (x : Shs vars) (els : AV) (s : Nat) (v : AV) : Prop :=
  v = els ∨ (∃ t d y, S.env s = .d d ∧ Ty.ofD t d = some y ∧ v = .d (t.toD y)) ∨ (v = .own (hid b s) ∧ heapOf vars x s ≠ none ∧ ((∃ id, S.env s = .own id) ∨ S.env s = .d (.val (.slice none 0 0)))) ∨ (v = .ptr (hid b s) 0 ∧ heapOf vars x s ≠ none ∧ ∃ id, S.env s = .ptr id 0)
theorem EX.env {b : Nat} {S : AState} {els : AV} : ∀ (vars : List (Nat × Sh)) (used : List Nat) (x : Shs vars), EX b S vars used x → ∀ s, EV b S vars x els s (varsOf b vars x s els)
  | [], _, _, _, s => .inl rfl
  | (t, .ty ty) :: l, used, x, hx, s => by
    simp only [varsOf]
    cases hb : Nat.beq t s with
    | true =>
      have := Nat.eq_of_beq_eq_true hb
      subst this
      obtain ⟨d, h1, h2⟩ := hx.1
      exact .inr (.inl ⟨ty, d, x.1, h1, h2, rfl⟩)
    | false =>
      have := EX.env (els := els) l used x.2 hx.2 s
      simpa [EV, heapOf] using this
  | (t, .own e ty) :: l, used, x, hx, s => by
    simp only [varsOf]
    cases hb : Nat.beq t s with
    | true =>
      have := Nat.eq_of_beq_eq_true hb
      subst this
      refine .inr (.inr (.inl ⟨rfl, by simp [heapOf], ?_⟩))
      rcases hx with ⟨id, h1, _⟩ | ⟨h1, _⟩
      · exact .inl ⟨id, h1⟩
      · exact .inr h1
    | false =>
      have : EV b S l x.2 els s (varsOf b l x.2 s els) := by
        rcases hx with ⟨id, h1, h2, h3, h4⟩ | ⟨h1, h2, h4⟩
        · exact EX.env (els := els) l _ x.2 h4 s
        · exact EX.env (els := els) l _ x.2 h4 s
      simpa [EV, heapOf, hb] using this
  | (t, .box ty) :: l, used, x, hx, s => by
    obtain ⟨id, cs, h1, h2, h3, h3', h4⟩ := hx
    simp only [varsOf]
    cases hb : Nat.beq t s with
    | true =>
      have := Nat.eq_of_beq_eq_true hb
      subst this
      exact .inr (.inr (.inr ⟨rfl, by simp [heapOf], id, h1⟩))
    | false =>
      have : EV b S l x.2 els s (varsOf b l x.2 s els) := EX.env (els := els) l _ x.2 h4 s
      simpa [EV, heapOf, hb] using this
  | (g, .obj e t) :: l, used, x, hx, s => by
    have := EX.env (els := els) l used x.2 hx.2 s
    simpa [EV, heapOf, varsOf] using this
  | (t, .iter) :: l, used, x, hx, s => by
    obtain ⟨id, h1, h2, h3, h4⟩ := hx
    simp only [varsOf]
    cases hb : Nat.beq t s with
    | true =>
      have := Nat.eq_of_beq_eq_true hb
      subst this
      exact .inr (.inr (.inl ⟨rfl, by simp [heapOf], .inl ⟨id, h1⟩⟩))
    | false =>
      have : EV b S l x.2 els s (varsOf b l x.2 s els) := EX.env (els := els) l _ x.2 h4 s
      simpa [EV, heapOf, hb] using this
/-- The caller's objects at a loop's head are those that are there. -/
theorem EX.low {b : Nat} {S : AState} {els : Option Obj} : ∀ (vars : List (Nat × Sh)) (used : List Nat) (x : Shs vars), EX b S vars used x → ∀ id,
    objOf vars x id els = S.heap id ∨ (objOf vars x id els = els ∧ (vars.any fun | (t, .obj _ _) => Nat.beq t id | _ => false) = false)
  | [], _, _, _, id => .inr ⟨rfl, rfl⟩
  | (t, .ty ty) :: l, used, x, hx, id => by simpa [objOf] using EX.low (els := els) l used x.2 hx.2 id
  | (t, .own e ty) :: l, used, x, hx, id => by
    rcases hx with ⟨_, _, _, _, h4⟩ | ⟨_, _, h4⟩
    · simpa [objOf] using EX.low (els := els) l _ x.2 h4 id
    · simpa [objOf] using EX.low (els := els) l _ x.2 h4 id
  | (t, .box ty) :: l, used, x, hx, id => by
    obtain ⟨_, _, _, _, _, _, h4⟩ := hx
    simpa [objOf] using EX.low (els := els) l _ x.2 h4 id
  | (t, .iter) :: l, used, x, hx, id => by
    obtain ⟨_, _, _, _, h4⟩ := hx
    simpa [objOf] using EX.low (els := els) l _ x.2 h4 id
  | (g, .obj e t) :: l, used, x, hx, id => by
    simp only [objOf]
    cases hb : Nat.beq g id with
    | true =>
      have := Nat.eq_of_beq_eq_true hb
      subst this
      exact .inl hx.1.symm
    | false =>
      rcases EX.low (els := els) l used x.2 hx.2 id with h | ⟨h1, h2⟩
      · exact .inl h
      · exact .inr ⟨h1, by simp [hb, h2]⟩
theorem modsIn_spec {vars : List (Nat × Sh)} {id : Nat} : ∀ {l : List Nat}, modsIn vars l = true → id ∈ l → (vars.any fun | (t, .obj _ _) => Nat.beq t id | _ => false) = true := by
  intro l
  induction l with
  | nil => intro _ h; cases h
  | cons m l ih =>
    intro h hm
    unfold modsIn at h
    rw [Bool.and_eq_true] at h
    rcases List.mem_cons.1 hm with rfl | hm
    · exact h.1
    · exact ih h.2 hm
theorem slotsOK_spec : ∀ {vars : List (Nat × Sh)} (x : Shs vars) {s : Nat} {o : Obj}, slotsOK vars = true → heapOf vars x s = some o → s < 1000000
  | [], _, _, _, _, h => by simp [heapOf] at h
  | (t, .ty ty) :: l, x, s, o, hs, h => by
    simp only [slotsOK, Bool.and_eq_true] at hs
    exact slotsOK_spec (vars := l) x.2 hs.2 (by simpa [heapOf] using h)
  | (t, .own e ty) :: l, x, s, o, hs, h => by
    simp only [slotsOK, Bool.and_eq_true] at hs
    simp only [heapOf] at h
    cases hb : Nat.beq t s with
    | true => rw [← Nat.eq_of_beq_eq_true hb]; exact blt_lt hs.1
    | false => rw [hb] at h; exact slotsOK_spec (vars := l) x.2 hs.2 h
  | (t, .box ty) :: l, x, s, o, hs, h => by
    simp only [slotsOK, Bool.and_eq_true] at hs
    simp only [heapOf] at h
    cases hb : Nat.beq t s with
    | true => rw [← Nat.eq_of_beq_eq_true hb]; exact blt_lt hs.1
    | false => rw [hb] at h; exact slotsOK_spec (vars := l) x.2 hs.2 h
  | (t, .iter) :: l, x, s, o, hs, h => by
    simp only [slotsOK, Bool.and_eq_true] at hs
    simp only [heapOf] at h
    cases hb : Nat.beq t s with
    | true => rw [← Nat.eq_of_beq_eq_true hb]; exact blt_lt hs.1
    | false => rw [hb] at h; exact slotsOK_spec (vars := l) x.2 hs.2 h
  | (t, .obj e ty) :: l, x, s, o, hs, h => slotsOK_spec (vars := l) x.2 (by simpa [slotsOK] using hs) (by simpa [heapOf] using h)

theorem noneIn_spec {keep : List Nat} : ∀ {l : List Nat}, noneIn keep l = true → ∀ s ∈ keep, s ∉ l
  | [], _, _, _ => by simp
  | d :: l, h, s, hs => by
    simp only [noneIn, Bool.and_eq_true, Bool.not_eq_true'] at h
    simp only [List.mem_cons, not_or]
    exact ⟨fun e => by subst e; exact memN_spec h.1 hs, noneIn_spec h.2 s hs⟩

section
variable {P : Program} {T : Ctx} {H : Hints}
variable {F : Fr} {w0 w : World} {O0 : Nat → Prop} {N : Nat} {A : AState} {ι : Nat → Value} {a : Act}

theorem head_sound (R : Rel T F w0 O0 N A ι a w) {D : List Nat} {A' : AState} {a' : Act} {w' : World} (haf : After T F w0 O0 N w (Own O0 A.heap ι) a D A' a' w') {L : LH} (hk : noneIn L.keep D = true)
    (hmods : modsIn L.vars T.mods = true) (hslots : slotsOK L.vars = true)
    {k : Shs L.vars → Prop} (h : ext T.base A' L.vars [] k) : ∃ x, k x ∧ After T F w0 O0 N w (Own O0 A.heap ι) a D (mkState T A L x) a' w' := by
  obtain ⟨x, hx, hE⟩ := ext_EX T.base A' L.vars [] k h
  refine ⟨x, hx, ?_⟩
  obtain ⟨ι', R', K', S', E'⟩ := haf
  have hval : ∀ s o, heapOf L.vars x s = some o → (∃ id o', T.base ≤ id ∧ idOf (A'.env s) = some id ∧ A'.heap id = some o' ∧ a'.tmps.getD s undef = ι' id) ∨ hblk (a'.tmps.getD s undef) = none := by
    intro s o ho
    have hr := R'.env s
    rcases EX.obj _ _ _ hE s o ho with ⟨id, h0, h2, h3⟩ | ⟨e, t, h1, _⟩ | ⟨id, cs, t, y, h0, h2, h3, _⟩
    · rw [h2] at hr
      exact .inl ⟨id, o, h0.1, by rw [h2]; rfl, h3, hr⟩
    · rw [h1] at hr
      have hr' : a'.tmps.getD s undef = .slice none 0 0 := hr
      exact .inr (by rw [hr']; rfl)
    · rw [h2] at hr
      obtain ⟨b, k1, k2⟩ := hr
      exact .inl ⟨id, _, h0.1, by rw [h2]; rfl, h3, by rw [k1, k2]⟩
  -- the caller's objects
  have hlow : ∀ id, id < T.base → (mkState T A L x).heap id = A'.heap id := by
    intro id hlt
    have e : (mkState T A L x).heap id = objOf L.vars x id (A.heap id) := by
      show (bif Nat.ble (Nat.add T.base 1000000) id then _ else (bif Nat.blt id T.base then objOf L.vars x id (A.heap id) else none)) = _
      have h1 : Nat.ble (Nat.add T.base 1000000) id = false := by
        cases hb : Nat.ble (Nat.add T.base 1000000) id with
        | false => rfl
        | true =>
          have h9 : T.base + 1000000 ≤ id := Nat.le_of_ble_eq_true hb
          omega
      have h2 : Nat.blt id T.base = true := Nat.ble_eq_true_of_le hlt
      rw [h1, h2]; rfl
    rw [e]
    rcases EX.low (els := A.heap id) _ _ _ hE id with h | ⟨h1, h2⟩
    · exact h
    · rw [h1]
      have hm : id ∉ T.mods := fun hm => by rw [modsIn_spec hmods hm] at h2; cases h2
      rw [R.fr id hlt hm, R'.fr id hlt hm]
  let ιn : Nat → Value := fun id => if T.base + 1000000 ≤ id then a'.tmps.getD (id - (T.base + 1000000)) undef else ι' id
  have hιlow : ∀ id, id < T.base → ιn id = ι' id := fun id h => if_neg (by omega)
  have hιhid : ∀ s, ιn (hid T.base s) = a'.tmps.getD s undef := by
    intro s
    show (if T.base + 1000000 ≤ T.base + 1000000 + s then a'.tmps.getD (T.base + 1000000 + s - (T.base + 1000000)) undef else _) = _
    rw [if_pos (by omega), Nat.add_sub_cancel_left]
  have hat : ∀ id o, (mkState T A L x).heap id = some o → (∃ s, id = hid T.base s ∧ heapOf L.vars x s = some o) ∨ (id < T.base ∧ A'.heap id = some o) := by
    intro id o h
    by_cases hlt : id < T.base
    · exact .inr ⟨hlt, by rw [← hlow id hlt]; exact h⟩
    · have h' : (bif Nat.ble (Nat.add T.base 1000000) id then heapOf L.vars x (Nat.sub id (Nat.add T.base 1000000)) else (bif Nat.blt id T.base then objOf L.vars x id (A.heap id) else none)) = some o := h
      cases hb : Nat.ble (Nat.add T.base 1000000) id with
      | false =>
        rw [hb] at h'
        have h2 : Nat.blt id T.base = false := by
          cases hb2 : Nat.blt id T.base with
          | false => rfl
          | true => exact absurd (blt_lt hb2) hlt
        rw [h2] at h'
        cases h'
      | true =>
        rw [hb] at h'
        have h9 : T.base + 1000000 ≤ id := Nat.le_of_ble_eq_true hb
        refine .inl ⟨Nat.sub id (Nat.add T.base 1000000), ?_, h'⟩
        show id = T.base + 1000000 + (id - (T.base + 1000000))
        omega
  have hback : ∀ s, (mkState T A L x).heap (hid T.base s) = heapOf L.vars x s := by
    intro s
    show (bif Nat.ble (T.base + 1000000) (T.base + 1000000 + s) then heapOf L.vars x ((T.base + 1000000 + s) - (T.base + 1000000)) else _) = _
    rw [Nat.ble_eq_true_of_le (by omega), Nat.add_sub_cancel_left]
    rfl
  have hsub : ∀ b, Own O0 (mkState T A L x).heap ιn b → Own O0 A'.heap ι' b := by
    rintro b (hb | ⟨id0, hs0, hb⟩)
    · exact .inl hb
    · obtain ⟨o0, ho0⟩ := Option.ne_none_iff_exists'.1 hs0
      rcases hat id0 o0 ho0 with ⟨s, rfl, hs1⟩ | ⟨hlt, ho1⟩
      · rw [hιhid] at hb
        rcases hval s o0 hs1 with ⟨id, o', _, h1, h2, h3⟩ | h1
        · exact .inr ⟨id, by rw [h2]; simp, by rw [← h3]; exact hb⟩
        · rw [h1] at hb; cases hb
      · rw [hιlow _ hlt] at hb
        exact .inr ⟨id0, by rw [ho1]; simp, hb⟩
  have hkw : Keeps w' (Own O0 A'.heap ι') w' (Own O0 (mkState T A L x).heap ιn) := Keeps.weaken hsub
  refine ⟨ιn, ⟨R'.below, R'.o0, fun s => ?_, fun id0 o ho0 => ?_, fun id0 id0' hs0 hs0' hne0 => ?_, fun s id hid0 => ?_, R'.size, R'.defers, fun id hid0 => ?_, fun id h1 h2 => ?_, fun id h1 h2 => ?_, R'.nw⟩, K'.trans hkw S', S', E'⟩
  · -- slots
    show ARep w' (Own O0 (mkState T A L x).heap ιn) _ (varsOf T.base L.vars x s (keepOf T.base L.keep A s)) _
    have hr := R'.env s
    rcases EX.env (els := keepOf T.base L.keep A s) _ _ _ hE s with h | ⟨t, d, y, h1, h2, h3⟩ | ⟨h1, h2, h3⟩ | ⟨h1, h2, id, h3⟩
    · rw [h]
      unfold keepOf
      cases hm : memN s L.keep with
      | false => trivial
      | true =>
        simp only [cond_true]
        have hr0 := R.env s
        have hw0 := R.wf s
        rw [← E' s (noneIn_spec hk s (memN_mem hm))] at hr0
        have same : ∀ id, id ∈ (A.env s).ids → id < T.base → ιn id = ι id := by
          intro id hid hlt
          have halive := hw0 id hid
          rw [hιlow id hlt]
          by_cases hh : F.h0 id = none
          · -- no object of the caller's lies there
            exfalso
            by_cases hmm : id ∈ T.mods
            · exact R.nw id hlt hmm (by simpa using hh)
            · rw [R.fr id hlt hmm] at halive; exact halive hh
          · rw [(R'.st id hlt hh).2, (R.st id hlt hh).2]
        cases hx : A.env s with
        | d d =>
          rw [hx] at hr0
          exact VRep.keeps (K'.trans hkw S') _ _ hr0
        | own i =>
          rw [hx] at hr0 same
          simp only [keepV]
          cases hb : Nat.blt i T.base with
          | false => trivial
          | true =>
            refine ARep.iota (ι := ι) (.own i) _ (fun id hid => ?_) (ARep.keeps (K'.trans hkw S') _ _ hr0)
            exact same id hid (by simp [AV.ids] at hid; rw [hid]; exact blt_lt hb)
        | ptr i o =>
          rw [hx] at hr0 same
          simp only [keepV]
          cases hb : Nat.blt i T.base with
          | false => trivial
          | true =>
            refine ARep.iota (ι := ι) (.ptr i o) _ (fun id hid => ?_) (ARep.keeps (K'.trans hkw S') _ _ hr0)
            exact same id hid (by simp [AV.ids] at hid; rw [hid]; exact blt_lt hb)
        | win i s' lo n =>
          rw [hx] at hr0 same
          simp only [keepV]
          cases hb : Nat.blt i T.base with
          | false => trivial
          | true =>
            refine ARep.iota (ι := ι) (.win i s' lo n) _ (fun id hid => ?_) (ARep.keeps (K'.trans hkw S') _ _ hr0)
            exact same id hid (by simp [AV.ids] at hid; rw [hid]; exact blt_lt hb)
        | _ => trivial
    · rw [h3]
      rw [h1] at hr
      exact VRep.keeps hkw _ _ (ofD_spec h2 hr).1
    · rw [h1]
      show _ = ιn (hid T.base s)
      rw [hιhid]
    · rw [h1]
      rw [h3] at hr
      obtain ⟨b, k1, k2⟩ := hr
      refine ⟨b, ?_, k2⟩
      rw [hιhid]
      exact k2
  · -- objects
    rcases hat id0 o ho0 with ⟨s, rfl, ho⟩ | ⟨hlt, ho⟩
    · rw [hιhid]
      have hr := R'.env s
      rcases EX.obj _ _ _ hE s o ho with ⟨id, _, h2, h3⟩ | ⟨e, t, h1, h2⟩ | ⟨id, cs, t, y, _, h2, h3, h4, h5⟩
      · rw [h2] at hr
        have hr' : a'.tmps.getD s undef = ι' id := hr
        rw [hr']
        exact objRep_keeps hkw (fun _ _ => rfl) (R'.obj id o h3)
      · rw [h1] at hr
        have hr' : a'.tmps.getD s undef = .slice none 0 0 := hr
        subst h2
        rw [hr']
        exact ⟨[], ⟨by simp, .inl ⟨rfl, rfl⟩⟩, fun j hj => by simp at hj⟩
      · rw [h2] at hr
        obtain ⟨b, k1, k2⟩ := hr
        subst h5
        rw [k2]
        obtain ⟨g, vs, e, k3, k4, k5, k6⟩ := R'.obj id _ h3
        have := ptr_inj k1 k3
        subst this
        refine ⟨b, vs, e, rfl, k4, k5, ?_⟩
        exact decs_encs _ _ _ _ h4 (LRep.keeps hkw _ _ k6)
    · rw [hιlow _ hlt]
      exact objRep_keeps hkw (fun _ _ => rfl) (R'.obj id0 o ho)
  · -- apart
    obtain ⟨o0, ho0⟩ := Option.ne_none_iff_exists'.1 hs0
    obtain ⟨o0', ho0'⟩ := Option.ne_none_iff_exists'.1 hs0'
    rcases hat id0 o0 ho0 with ⟨s, rfl, ho⟩ | ⟨hlt, ho⟩
    · rw [hιhid]
      rcases hat id0' o0' ho0' with ⟨s', rfl, ho'⟩ | ⟨hlt', ho'⟩
      · rw [hιhid]
        have hne : s ≠ s' := fun e => hne0 (by rw [e])
        rcases hval s o0 ho with ⟨id, o1, _, h1, h2, h3⟩ | h1
        · rcases hval s' o0' ho' with ⟨id', o1', _, h1', h2', h3'⟩ | h1'
          · have hid : id ≠ id' := fun e => EX.dist _ _ _ hE s s' o0 o0' ho ho' hne id h1 (by rw [h1', e])
            have := R'.dist id id' (by rw [h2]; simp) (by rw [h2']; simp) hid
            rw [h3, h3']
            exact this
          · rw [h1']
            cases hb : hblk (a'.tmps.getD s undef) with
            | none => exact .inl rfl
            | some b => exact .inr (by simp)
        · exact .inl h1
      · rw [hιlow _ hlt']
        rcases hval s o0 ho with ⟨id, o1, hge, h1, h2, h3⟩ | h1
        · rw [h3]
          exact R'.dist id id0' (by rw [h2]; simp) (by rw [ho']; simp) (by omega)
        · exact .inl h1
    · rw [hιlow _ hlt]
      rcases hat id0' o0' ho0' with ⟨s', rfl, ho'⟩ | ⟨hlt', ho'⟩
      · rw [hιhid]
        rcases hval s' o0' ho' with ⟨id', o1', hge, h1', h2', h3'⟩ | h1'
        · rw [h3']
          exact R'.dist id0 id' (by rw [ho]; simp) (by rw [h2']; simp) (by omega)
        · rw [h1']
          cases hb : hblk (ι' id0) with
          | none => exact .inl rfl
          | some b => exact .inr (by simp)
      · rw [hιlow _ hlt']
        exact R'.dist id0 id0' (by rw [ho]; simp) (by rw [ho']; simp) hne0
  · -- references
    have hid' : id ∈ (varsOf T.base L.vars x s (keepOf T.base L.keep A s)).ids := hid0
    rcases EX.env (els := keepOf T.base L.keep A s) _ _ _ hE s with h | ⟨t, d, y, h1, h2, h3⟩ | ⟨h1, h2, h3⟩ | ⟨h1, h2, _, h3⟩
    · rw [h] at hid'
      unfold keepOf at hid'
      cases hm : memN s L.keep with
      | false => rw [hm] at hid'; simp [AV.ids] at hid'
      | true =>
        rw [hm] at hid'
        simp only [cond_true] at hid'
        have hw0 := R.wf s
        have low : id < T.base ∧ id ∈ (A.env s).ids := by
          cases hx : A.env s with
          | own i =>
            rw [hx] at hid'
            simp only [keepV] at hid'
            cases hb : Nat.blt i T.base <;> rw [hb] at hid' <;> simp [AV.ids] at hid'
            rw [hid']; exact ⟨blt_lt hb, by simp [AV.ids]⟩
          | ptr i o =>
            rw [hx] at hid'
            simp only [keepV] at hid'
            cases hb : Nat.blt i T.base <;> rw [hb] at hid' <;> simp [AV.ids] at hid'
            rw [hid']; exact ⟨blt_lt hb, by simp [AV.ids]⟩
          | win i s' lo n =>
            rw [hx] at hid'
            simp only [keepV] at hid'
            cases hb : Nat.blt i T.base <;> rw [hb] at hid' <;> simp [AV.ids] at hid'
            rw [hid']; exact ⟨blt_lt hb, by simp [AV.ids]⟩
          | _ => rw [hx] at hid'; simp [keepV, AV.ids] at hid'
        have halive := hw0 id low.2
        rw [hlow id low.1]
        by_cases hh : F.h0 id = none
        · exfalso
          by_cases hmm : id ∈ T.mods
          · exact R.nw id low.1 hmm hh
          · rw [R.fr id low.1 hmm] at halive; exact halive hh
        · exact (R'.st id low.1 hh).1
    · rw [h3] at hid'; simp [AV.ids] at hid'
    · rw [h1] at hid'; simp only [AV.ids, List.mem_singleton] at hid'; subst hid'; rw [hback]; exact h2
    · rw [h1] at hid'; simp only [AV.ids, List.mem_singleton] at hid'; subst hid'; rw [hback]; exact h2
  · -- numbers
    obtain ⟨o, ho⟩ := Option.ne_none_iff_exists'.1 hid0
    rcases hat id o ho with ⟨s, rfl, hs⟩ | ⟨hlt, _⟩
    · have := slotsOK_spec x hslots hs
      show T.base + 1000000 + s < _
      omega
    · omega
  · rw [hlow id h1]; exact R'.fr id h1 h2
  · rw [hlow id h1, hιlow id h1]; exact R'.st id h1 h2

/-! ### Code -/
def ax (T : Ctx) : AX → Exit
  | .normal => .normal
  | .exit id => .exit id
  | .ret => .ret
  | .pan => .panic (panChain T.pt)

theorem code_sound (tok : Tok P T) : ∀ (c : Code) (blk : Nat) (K : AX → AState → Prop) {A : AState} {ι : Nat → Value} {a : Act} {w : World} (Q : Exit → Act → World → Prop),
    Rel T F w0 O0 N A ι a w → awp T H N c blk K A →
    (∀ e A' a' w', K e A' → After T F w0 O0 N w (Own O0 A.heap ι) a (writes c) A' a' w' → Q (ax T e) a' w') → c.wp P Q a w
  | .skip, blk, K, A, ι, a, w, Q, R, h, hQ => wp_skip (hQ .normal A a w h (After.refl R _))
  | .label _, blk, K, A, ι, a, w, Q, R, h, hQ => wp_label (hQ .normal A a w h (After.refl R _))
  | .region id ops draw, blk, K, A, ι, a, w, Q, R, h, hQ => region_sound tok R h (fun A' a' w' hK haf => hQ .normal A' a' w' hK haf) (fun A' a' w' hK haf => hQ .pan A' a' w' hK haf)
  | .seq x y, blk, K, A, ι, a, w, Q, R, h, hQ => by
    refine wp_seq (code_sound tok x blk _ _ R h ?_)
    intro e A' a' w' hK haf
    cases e with
    | normal =>
      obtain ⟨ι', R', K', S', E'⟩ := haf
      refine code_sound tok y blk K Q R' hK fun e A'' a'' w'' hK'' haf'' => hQ e A'' a'' w'' hK'' ?_
      exact After.trans (D := writes (.seq x y)) K' S' (fun s hs => E' s fun h => hs (by simp [writes, h])) haf'' (fun d hd => by simp [writes, hd])
    | exit id => exact hQ (.exit id) A' a' w' hK (haf.mono fun d hd => by simp [writes, hd])
    | ret => exact hQ .ret A' a' w' hK (haf.mono fun d hd => by simp [writes, hd])
    | pan => exact hQ .pan A' a' w' hK (haf.mono fun d hd => by simp [writes, hd])
  | .cond c x y, blk, K, A, ι, a, w, Q, R, h, hQ => by
    simp only [awp] at h
    split at h
    · rename_i b hc
      have hr := R.ev c
      rw [hc] at hr
      have hv : a.eval c = .bool b := hr
      cases b with
      | true => exact wp_cond_true hv (code_sound tok x blk K Q R h fun e A' a' w' hK haf => hQ e A' a' w' hK (haf.mono fun d hd => by simp [writes, hd]))
      | false => exact wp_cond_false hv (code_sound tok y blk K Q R h fun e A' a' w' hK haf => hQ e A' a' w' hK (haf.mono fun d hd => by simp [writes, hd]))
    · exact h.elim
  | .block id c, blk, K, A, ι, a, w, Q, R, h, hQ => by
    refine wp_block (code_sound tok c id _ _ R h ?_)
    intro e A' a' w' hK haf
    cases e with
    | normal => exact hQ .normal A' a' w' hK haf
    | ret => exact hQ .ret A' a' w' hK haf
    | pan => exact hQ .pan A' a' w' hK haf
    | exit i =>
      simp only at hK
      show Exit.inBlock id Q (.exit i) a' w'
      unfold Exit.inBlock
      simp only
      split
      · rename_i e
        subst e
        rw [Nat.beq_refl] at hK
        exact hQ .normal A' a' w' hK haf
      · rename_i hne
        have : Nat.beq i id = false := by
          cases hb : Nat.beq i id with
          | false => rfl
          | true => exact absurd (Nat.eq_of_beq_eq_true hb) hne
        rw [this] at hK
        exact hQ (.exit i) A' a' w' hK haf
  | .loop c, blk, K, A, ι, a, w, Q, R, h, hQ => by
    simp only [awp] at h
    split at h
    · rename_i L hL
      have hb := bif_elim h
      cases hn : (noneIn L.keep (writes c) && (modsIn L.vars T.mods && slotsOK L.vars)) with
      | false => rw [hn] at h; exact h.elim
      | true =>
        simp only [Bool.and_eq_true] at hn
        obtain ⟨x, ⟨n, hx⟩, haf⟩ := head_sound (D := writes c) R (After.refl R _) hn.1 hn.2.1 hn.2.2 hb
        refine wp_loop_rounds n ?_
        revert hx
        have key : ∀ (n : Nat) (x : Shs L.vars) (a1 : Act) (w1 : World), After T F w0 O0 N w (Own O0 A.heap ι) a (writes c) (mkState T A L x) a1 w1 →
            itl (fun G x => awp T H N c blk (fun e A' => match e with
              | .normal => ext T.base A' L.vars [] G
              | e => K e A') (mkState T A L x)) n x → Code.rounds P c Q n a1 w1 := by
          intro n
          induction n with
          | zero => intro x a1 w1 _ hx; exact hx.elim
          | succ n ih =>
            intro x a1 w1 haf1 hx
            rw [rounds_succ]
            obtain ⟨ι1, R1, K1, S1, E1⟩ := haf1
            refine code_sound tok c blk _ _ R1 hx ?_
            intro e A' a' w' hK haf'
            have haf2 : After T F w0 O0 N w (Own O0 A.heap ι) a (writes c) A' a' w' := After.trans K1 S1 E1 haf' fun d hd => hd
            cases e with
            | normal =>
              obtain ⟨x', hx', haf3⟩ := head_sound R haf2 hn.1 hn.2.1 hn.2.2 hK
              exact ih x' a' w' haf3 hx'
            | exit i => exact hQ (.exit i) A' a' w' hK haf2
            | ret => exact hQ .ret A' a' w' hK haf2
            | pan => exact hQ .pan A' a' w' hK haf2
        exact fun hx => key n x a w haf hx
    · exact h.elim
  | .exit id, blk, K, A, ι, a, w, Q, R, h, hQ => wp_exit (hQ (.exit id) A a w h (After.refl R _))
  | .ret, blk, K, A, ι, a, w, Q, R, h, hQ => wp_ret (hQ .ret A a w h (After.refl R _))
  | .goto _, blk, K, A, ι, a, w, Q, R, h, hQ => h.elim
  | .rangeFunc .., blk, K, A, ι, a, w, Q, R, h, hQ => h.elim
  | .scope _, blk, K, A, ι, a, w, Q, R, h, hQ => h.elim

end
end Fw
end
section
/- Functions are sound. -/
set_option linter.unusedVariables false
set_option linter.unusedSimpArgs false
namespace Fw
open Go Go.RowKit

section
variable {P : Program} {T : Ctx} {H : Hints}
variable {F : Fr} {w0 w : World} {O0 : Nat → Prop} {N : Nat} {A : AState} {ι : Nat → Value} {a : Act}

theorem start_rel (hT : T.base = 0) (hM : T.mods = []) (hO : OKO O0 w) {ds : List D} {vs : Array Value} (hl : LRep w O0 ds vs.toList) (hN : ds.length ≤ N) :
    Rel T ⟨fun _ => none, fun _ => undef⟩ w O0 N (start ds) (fun _ => undef) ⟨vs ++ Array.replicate (N - vs.size) undef, []⟩ w := by
  have hlen : vs.size = ds.length := by have := hl.length; simpa using this
  have hown : ∀ b, Own O0 (start ds).heap (fun _ => undef) b → O0 b := by
    rintro b (hb | ⟨id, h, _⟩)
    · exact hb
    · exact absurd rfl h
  have hl' := LRep.keeps (Keeps.weaken (w := w) hown) ds _ hl
  refine ⟨Below.refl _ _, hO, fun t => ?_, fun id o h => (by cases h), fun _ _ h => absurd rfl h, fun t id hid => ?_, (by simp; omega), rfl, fun id h => absurd rfl h, fun id h => by omega, fun id h => by omega, fun id h => by omega⟩
  · show ARep w _ _ (match ds[t]? with | some d => .d d | none => aundef) _
    cases hd : ds[t]? with
    | none =>
      have hge : vs.size ≤ t := by rw [hlen]; exact List.getElem?_eq_none_iff.1 hd
      show _ = _
      simp only [Array.getD_eq_getD_getElem?]
      rw [Array.getElem?_append_right hge]
      simp only [Array.getElem?_replicate]
      split <;> rfl
    | some d =>
      obtain ⟨u, h1, h2⟩ := hl'.get hd
      have hlt : t < vs.size := by
        have := (List.getElem?_eq_some_iff.1 h1).1
        simpa using this
      have h3 : vs[t]? = some u := by simpa using h1
      simp only [Array.getD_eq_getD_getElem?]
      rw [Array.getElem?_append_left hlt, h3]
      exact h2
  · exfalso
    have : (start ds).env t = (match ds[t]? with | some d => .d d | none => aundef) := rfl
    rw [this] at hid
    cases hd : ds[t]? with
    | none => rw [hd] at hid; simp [AV.ids, aundef] at hid
    | some d => rw [hd] at hid; simp [AV.ids] at hid

/-! ### Seen from without -/
theorem cap_out {w : World} {O O' : Nat → Prop} {h : Hp} {ι : Nat → Value} {base : Nat} (hsub : ∀ b, O' b → O b) (hout : ∀ b, O' b → b < base) (ho : ∀ id o, h id = some o → ObjRep w O base o (ι id)) :
    ∀ (caps : List (D ⊕ (Nat × Nat))) (cs : List D) (vs : List Value), optAll (caps.map (capD h)) = some cs → capsRep w O ι caps vs → LRep w O' cs vs
  | [], cs, vs, hc, hr => by simp [optAll] at hc; subst hc; exact hr
  | c :: caps, cs, _, hc, ⟨u, us, h1, h2, h3⟩ => by
    rw [List.map_cons] at hc
    obtain ⟨x, ys, e1, e2, e3⟩ := optAll_cons hc
    subst h1 e3
    refine ⟨u, us, rfl, ?_, cap_out hsub hout ho caps ys us e2 h3⟩
    cases c with
    | inl d => simp [capD] at e1; subst e1; exact VRep.keeps (Keeps.weaken hsub) _ _ h2
    | inr p =>
      obtain ⟨id, off⟩ := p
      obtain ⟨b, hb, rfl⟩ := h2
      simp only [capD] at e1
      cases hid : h id with
      | none => simp [hid] at e1
      | some o =>
        cases o with
        | row e t xs => simp [hid] at e1
        | iter s p => simp [hid] at e1
        | box cs =>
          simp [hid] at e1
          subst e1
          obtain ⟨b', vs', e, h4, hge, h5, h6⟩ := ho id _ hid
          have := ptr_inj hb h4
          subst this
          refine ⟨_, rfl, ((LRep.keeps (Keeps.weaken hsub) cs _ h6).drop off).prep fun j u hu => ⟨fun hb => ?_, ?_⟩⟩
          · rw [add_plain] at hb
            have := hout _ hb
            simp at this
            omega
          · rw [List.getElem?_drop] at hu
            rw [add_plain]
            simp only [World.cell?, h5, Nat.zero_add]
            simpa using hu

theorem view_out {w : World} {O O' : Nat → Prop} {h : Hp} {ι : Nat → Value} {base : Nat} (hsub : ∀ b, O' b → O b) (hout : ∀ b, O' b → b < base) (ho : ∀ id o, h id = some o → ObjRep w O base o (ι id)) :
    ∀ {x : AV} {d : D} {v : Value}, viewD h x = some d → ARep w O ι x v → VRep w O' d v
  | .d x, d, v, hv, hr => by simp [viewD] at hv; subst hv; exact VRep.keeps (Keeps.weaken hsub) _ _ hr
  | .own id, d, v, hv, hr => by
    simp only [viewD] at hv
    cases hid : h id with
    | none => simp [hid] at hv
    | some o =>
      cases o with
      | box cs => simp [hid] at hv
      | iter s p => simp [hid] at hv
      | row e t xs =>
        simp [hid] at hv
        subst hv
        obtain ⟨vs, h1, h2⟩ := ho id _ hid
        have hr' : v = ι id := hr
        rw [← hr'] at h1
        refine ⟨?_, fun h => by cases h⟩
        rcases h1.2 with ⟨rfl, h0⟩ | ⟨g, cap, cur, rfl, hg, hh, hnc, hcm, hcs, ht⟩
        · exact ⟨none, 0, by rw [h0], by omega, fun hp => by omega⟩
        · refine ⟨_, cap, rfl, hnc, fun hp => ⟨_, rfl, fun j hj => ?_⟩⟩
          refine ERep.imp (w := w) (O := O) (Keeps.weaken hsub) t _ _ _ _ _ (fun i u hi hu => ⟨fun hb => ?_, h1.cells (g := g) rfl _ _ hu⟩) (h2 j hj)
          rw [add_block] at hb
          have := hout _ hb
          simp at this
          omega
  | .ptr id off, d, v, hv, hr => by
    simp only [viewD] at hv
    cases hid : h id with
    | none => simp [hid] at hv
    | some o =>
      cases o with
      | row e t xs => simp [hid] at hv
      | iter s p => simp [hid] at hv
      | box cs =>
        simp [hid] at hv
        subst hv
        have := cap_out hsub hout ho [.inr (id, off)] [.rptr (cs.drop off)] [v] (by simp [optAll, capD, hid]) ⟨v, [], rfl, hr, rfl⟩
        obtain ⟨u, us, e, h1, _⟩ := this
        injection e with e1 e2
        subst e1
        exact h1
  | .eptr .., d, v, hv, hr => by simp [viewD] at hv
  | .win id sz lo n, d, v, hv, hr => by
    simp only [viewD] at hv
    cases hid : h id with
    | none => simp [hid] at hv
    | some o =>
      cases o with
      | box cs => simp [hid] at hv
      | iter s p => simp [hid] at hv
      | row e t xs =>
        simp only [hid] at hv
        cases hb : Nat.beq sz t.size with
        | false => rw [hb] at hv; cases hv
        | true =>
          rw [hb] at hv
          simp only [cond_true, Option.some.injEq] at hv
          subst hv
          have ho' := ho id _ hid
          obtain ⟨vs, h1, h2⟩ := ho'
          refine ⟨(win_srep (Nat.eq_of_beq_eq_true hb) h1 h2 hr).2.2 _ (fun b hb' hO' => ?_) (Keeps.weaken hsub), fun h => by cases h⟩
          have h3 := (obj_blk (ho id _ hid) hb').1
          have h4 := hout b hO'
          omega
  | .clo f caps, d, v, hv, hr => by
    simp only [viewD] at hv
    cases hc : optAll (caps.map (capD h)) with
    | none => rw [hc] at hv; cases hv
    | some cs =>
      rw [hc] at hv
      injection hv with hv
      subst hv
      obtain ⟨vs, rfl, h2⟩ := hr
      exact ⟨vs, rfl, cap_out hsub hout ho caps cs _ hc h2⟩
  | .tup l, d, v, hv, hr => by simp [viewD] at hv
  | .bnd f l, d, v, hv, hr => by simp [viewD] at hv

/-! ### Results -/
theorem run_load_d {t : Nat} {i : TInf} (hi : mkTI P t = some i) {ad : Addr} {us : List Value} {ds : List D} {O : Nat → Prop}
    (hl : LRep w O ds us) (hc : ∀ j u, us[j]? = some u → w.cell? (ad.add j) = some u) {d : D}
    (hk : (bif i.desc.agg then (bif Nat.ble i.size ds.length then some (D.agg (ds.take i.size)) else none) else ds[0]?) = some d) :
    ∃ v, (loadVar t ad).run P w = .ok v w ∧ VRep w O d v := by
  obtain ⟨inf, d0, z, h1, h2, h3, h4, h5, h6, h7⟩ := mkTI_spec hi
  have hagg : (isAgg t).run P w = .ok i.desc.agg w := by
    rw [← h6, tdOf_agg]
    unfold isAgg
    simp only [Sem.run_bind, run_underlying h2]
    cases d0 <;> rfl
  cases ha : i.desc.agg with
  | true =>
    rw [ha] at hk hagg
    simp only [cond_true] at hk
    cases hb : Nat.ble i.size ds.length with
    | false => rw [hb] at hk; cases hk
    | true =>
      rw [hb] at hk
      simp only [cond_true, Option.some.injEq] at hk
      subst hk
      have hle := Nat.le_of_ble_eq_true hb
      have hlen : us.length = ds.length := hl.length
      refine ⟨.agg (us.take i.size).toArray, ?_, ⟨_, rfl, by simpa using hl.take i.size⟩⟩
      have hlc := run_loadCells_list (P := P) (w := w) ad (us.take i.size) (fun j v hj => hc j v (by rw [List.getElem?_take] at hj; split at hj <;> simp_all))
      have hn : (us.take i.size).length = i.size := by simp; omega
      rw [hn] at hlc
      unfold loadVar
      simp [hagg, Go.sizeOf, typeInfo, h1, h4, hlc]
  | false =>
    rw [ha] at hk hagg
    simp only [cond_false] at hk
    obtain ⟨u, h3, h4⟩ := hl.get hk
    have h0 := hc 0 u h3
    rw [add_zero'] at h0
    refine ⟨u, ?_, h4⟩
    unfold loadVar
    simp [hagg, load, Sem.run, h0]

def resOne (tmps : Array Value) : ResultVar → Sem Value
  | .tmp t => pure (tmps.getD t undef)
  | .cell a t => do loadVar t (← asAddr (tmps.getD a undef))

theorem resD_sound (tt : ∀ t i, look T.tt t = some i → mkTI P t = some i) (R : Rel T F w0 O0 N A ι a w) : ∀ (l : List ResultVar) (ds : List D), resD T A l = some ds →
    ∃ vs : List Value, (l.mapM (resOne a.tmps)).run P w = .ok vs w ∧ LRep w O0 ds vs
  | [], ds, h => by
    simp only [resD, Option.some.injEq] at h
    subst h
    exact ⟨[], by simp, rfl⟩
  | .tmp t :: l, ds, h => by
    simp only [resD] at h
    cases hv : viewD A.heap (A.env t) with
    | none => rw [hv] at h; cases h
    | some d =>
      rw [hv] at h
      cases hl : resD T A l with
      | none => rw [hl] at h; cases h
      | some ds' =>
        rw [hl] at h
        simp only [Option.some.injEq] at h
        subst h
        obtain ⟨vs, h1, h2⟩ := resD_sound tt R l ds' hl
        refine ⟨a.tmps.getD t undef :: vs, ?_, _, _, rfl, view_out (fun b hb => .inl hb) R.o0.1 R.obj hv (R.env t), h2⟩
        simp [resOne, h1]
  | .cell s t :: l, ds, h => by
    simp only [resD] at h
    split at h
    · rename_i id off i he hi
      split at h
      · rename_i cs hh
        split at h
        · rename_i d ds' hd hl
          simp only [Option.some.injEq] at h
          subst h
          obtain ⟨vs, h1, h2⟩ := resD_sound tt R l ds' hl
          have hr := R.env s
          rw [he] at hr
          obtain ⟨b, k1, k2⟩ := hr
          obtain ⟨us, k3, k4⟩ := ptr_cells R.obj (off := off) hh k1
          obtain ⟨v, k5, k6⟩ := run_load_d (tt t i hi) k3 k4 hd
          refine ⟨v :: vs, ?_, _, _, rfl, VRep.keeps (Keeps.weaken fun b hb => .inl hb) _ _ k6, h2⟩
          simp only [List.mapM_cons, Sem.run_bind, resOne, k2, asAddr, Sem.run_pure, Result.andThen, k5, h1]
        · cases h
      · cases h
    · cases h

def oneOf : List Value → Value
  | [v] => v
  | vs => .tuple vs.toArray
theorem results_run {fn : Func} {tmps : Array Value} {vs : List Value} (h : (fn.results.toList.mapM (resOne tmps)).run P w = .ok vs w) :
    (results fn tmps).run P w = .ok (oneOf vs) w := by
  have e : results fn tmps = (do
      let vs ← fn.results.mapM (resOne tmps)
      pure (if h : vs.size = 1 then vs[0] else .tuple vs)) := by
    unfold results
    congr 2
  rw [e, Array.mapM_eq_mapM_toList]
  simp only [Sem.run_bind, map_eq_pure_bind, Sem.run_pure, Result.andThen, h]
  cases vs with
  | nil => rfl
  | cons v vs => cases vs <;> simp [oneOf]

theorem res_arep {O : Nat → Prop} {ds : List D} {vs : List Value} (h : LRep w O ds vs) (ι : Nat → Value) : ARep w O ι (resAV ds) (oneOf vs) := by
  cases ds with
  | nil => have h' : vs = [] := h; subst h'; exact ⟨#[], rfl, rfl⟩
  | cons d ds =>
    obtain ⟨u, us, rfl, h1, h2⟩ := h
    cases ds with
    | nil => have h' : us = [] := h2; subst h'; exact h1
    | cons d' ds =>
      obtain ⟨u', us', rfl, h3, h4⟩ := h2
      exact ⟨_, rfl, _, _, rfl, h1, _, _, rfl, h3, h4⟩

theorem slc_dec {t t' : Ty} {xs : List t.El} {xs' : List t'.El} : ∀ {a : Ar} {y : a.El}, a.dec (.slc false t xs) = some y → a.enc y = .slc false t' xs' → ∃ e : t = t', xs' = e ▸ xs
  | .raw, y, h, h' => by
    simp only [Ar.dec, Option.some.injEq] at h
    subst h
    have h'' : D.slc false t xs = .slc false t' xs' := h'
    injection h'' with _ h1 h2
    subst h1
    exact ⟨rfl, (eq_of_heq h2).symm⟩
  | .ty τ, y, h, h' => by
    cases τ with
    | slc τ =>
      simp only [Ar.enc, Ty.toD] at h'
      injection h' with _ h1 h2
      subst h1
      have h2' := eq_of_heq h2
      subst h2'
      simp only [Ar.dec, Ty.ofD, Ty.isAgg, cond_false, Ty.ofCells] at h
      cases hc : castL t τ xs with
      | none => rw [hc] at h; simp [fin] at h
      | some zs =>
        rw [hc] at h
        simp [fin] at h
        subst h
        exact castL_spec hc
    | int k => simp [Ar.enc, Ty.toD] at h'
    | bool => simp [Ar.enc, Ty.toD] at h'
    | str => simp [Ar.enc, Ty.toD] at h'
    | pair a b => simp [Ar.enc, Ty.toD] at h'
    | unit => simp [Ar.enc, Ty.toD] at h'

theorem decs_one {l : List Ar} {d : D} {y : Ars l} {c : D} (h : decs l [d] = some y) (h' : encs l y = [c]) : ∃ (a : Ar) (z : a.El), a.dec d = some z ∧ a.enc z = c := by
  cases l with
  | nil => simp [decs] at h
  | cons a l =>
    simp only [encs, List.cons.injEq] at h'
    simp only [decs] at h
    cases hd : a.dec d with
    | none => rw [hd] at h; cases h
    | some z =>
      rw [hd] at h
      simp only at h
      cases hl : decs l [] with
      | none => rw [hl] at h; cases h
      | some zs =>
        rw [hl] at h
        simp only [Option.some.injEq] at h
        subst h
        exact ⟨a, z, hd, h'.1⟩

theorem nil_slc {t' : Ty} {xs' : List t'.El} {a : Ar} {y : a.El} (h : a.dec (.val (.slice none 0 0)) = some y) (h' : a.enc y = .slc false t' xs') : xs' = [] := by
  cases a with
  | raw => simp only [Ar.dec, Option.some.injEq] at h; subst h; cases h'
  | ty τ =>
    cases τ with
    | slc τ =>
      simp only [Ar.enc, Ty.toD] at h'
      injection h' with _ h1 h2
      subst h1
      have h2' := eq_of_heq h2
      subst h2'
      simp [Ar.dec, Ty.ofD, Ty.isAgg, Ty.ofCells, fin] at h
      first | exact h | exact h.symm
    | int k => simp [Ar.enc, Ty.toD] at h'
    | bool => simp [Ar.enc, Ty.toD] at h'
    | str => simp [Ar.enc, Ty.toD] at h'
    | pair a b => simp [Ar.enc, Ty.toD] at h'
    | unit => simp [Ar.enc, Ty.toD] at h'

theorem finish_sound (tt : ∀ t i, look T.tt t = some i → mkTI P t = some i) (R : Rel T F w0 O0 N A ι a w) {fn : Func} {C : Con} {x : Ars C.args} {e : AX} (h : finish T fn.results.toList C x e A) :
    (e = .normal ∨ e = .ret) ∧ ∃ v, (results fn a.tmps).run P w = .ok v w ∧ CPost C x w0 O0 (.returned v) w := by
  have main : (match C.fresh with
      | some e => finishF e fn.results.toList C x A
      | none => (match resD T A fn.results.toList with
        | some ds => (match decs C.res ds with
          | some y => y = C.post x
          | none => False)
        | none => False)) → ∃ v, (results fn a.tmps).run P w = .ok v w ∧ CPost C x w0 O0 (.returned v) w := by
    intro h
    have plain : ∀ ds, resD T A fn.results.toList = some ds → ∀ y, decs C.res ds = some y → y = C.post x →
        (∀ v, (results fn a.tmps).run P w = .ok v w → FreshR C x w0 w O0 v) → ∃ v, (results fn a.tmps).run P w = .ok v w ∧ CPost C x w0 O0 (.returned v) w := by
      intro ds hds y hy hxy hf
      subst hxy
      obtain ⟨vs, h1, h2⟩ := resD_sound tt R _ _ hds
      have hrun := results_run h1
      exact ⟨_, hrun, _, rfl, R.below, fun ι' => res_arep (decs_encs _ _ _ _ hy h2) ι', hf _ hrun⟩
    cases hfr : C.fresh with
    | none =>
      rw [hfr] at h
      simp only at h
      split at h
      · rename_i ds hds
        split at h
        · rename_i y hy
          exact plain ds hds y hy h fun v _ e he => by rw [hfr] at he; cases he
        · exact h.elim
      · exact h.elim
    | some e =>
      rw [hfr] at h
      simp only at h
      unfold finishF at h
      split at h
      · rename_i t hres
        have hrun : (results fn a.tmps).run P w = .ok (a.tmps.getD t undef) w := results_run (vs := [a.tmps.getD t undef]) (by rw [hres]; simp [resOne])
        have hr := R.env t
        split at h
        · rename_i id he
          rw [he] at hr
          split at h
          · rename_i e' ty xs hh
            cases hb : Nat.beq e e' with
            | false => rw [hb] at h; exact h.elim
            | true =>
              rw [hb] at h
              simp only [cond_true] at h
              have := Nat.eq_of_beq_eq_true hb
              subst this
              split at h
              · rename_i y hy
                refine plain [.slc false ty xs] (by rw [hres]; simp [resD, he, viewD, hh]) y hy h fun v hv e1 he1 t' xs' hen => ?_
                rw [hrun] at hv
                injection hv with hv
                rw [hfr] at he1
                injection he1 with he1
                subst he1
                rw [← h] at hen
                obtain ⟨ar, z, k1, k2⟩ := decs_one hy hen
                obtain ⟨rfl, hxs⟩ := slc_dec k1 k2
                simp only at hxs
                subst hxs
                obtain ⟨vs, k3, k4⟩ := R.obj id _ hh
                have hr' : a.tmps.getD t undef = ι id := hr
                rw [← hv, hr']
                exact ⟨vs, k3, fun j hj => ERep.imp (Keeps.weaken fun b hb => .inl hb) _ _ _ _ _ _ (fun _ _ _ h => h) (k4 j hj)⟩
              · exact h.elim
          · exact h.elim
        · rename_i he
          rw [he] at hr
          split at h
          · rename_i y hy
            refine plain [.val (.slice none 0 0)] (by rw [hres]; simp [resD, he, viewD]) y hy h fun v hv e1 he1 t' xs' hen => ?_
            rw [hrun] at hv
            injection hv with hv
            rw [← h] at hen
            obtain ⟨ar, z, k1, k2⟩ := decs_one hy hen
            have hxs := nil_slc k1 k2
            subst hxs
            have hr' : a.tmps.getD t undef = .slice none 0 0 := hr
            rw [← hv, hr']
            exact ⟨[], ⟨by simp, .inl ⟨rfl, rfl⟩⟩, fun j hj => by simp at hj⟩
          · exact h.elim
        · exact h.elim
      · exact h.elim
  cases e with
  | normal => exact ⟨.inl rfl, main h⟩
  | ret => exact ⟨.inr rfl, main h⟩
  | exit i => exact h.elim
  | pan => exact h.elim

/-- The call of a function whose condition holds. -/
theorem fn_calls (tok : Tok P T) {f : FuncId} {fn : Func} {C : Con} (hf : P.funcs[f]? = some fn) (H : Hints)
    (hvc : ∀ x, C.pre x → VC T H fn C x) (hT : T.base = 0 := by rfl) (hM : T.mods = [] := by rfl) :
    ∀ x, C.pre x → ∀ (w : World) (O : Nat → Prop) (vs : Array Value), OKO O w → LRep w O (encs C.args x) vs.toList → Calls P f vs w (CPost C x w O) := by
  intro x hx w O vs hO hl
  have h := hvc x hx
  unfold VC at h
  split at h
  · rename_i c hc
    cases hn : Nat.ble C.args.length fn.ntmps with
    | false => rw [hn] at h; exact h.elim
    | true =>
      rw [hn] at h
      simp only [cond_true] at h
      have hle := Nat.le_of_ble_eq_true hn
      have hlen : ∀ (l : List Ar) (x : Ars l), (encs l x).length = l.length := by
        intro l
        induction l with
        | nil => intro x; rfl
        | cons a l ih => intro x; simp [encs, ih]
      have R := start_rel (T := T) (N := fn.ntmps) hT hM hO hl (by rw [hlen]; exact hle)
      refine calls_of_wp hf hc (code_sound tok c 0 _ _ R h ?_)
      intro e A' a' w' hK haf
      obtain ⟨ι', R', _⟩ := haf
      obtain ⟨he, v, h1, h2⟩ := finish_sound tok.tt R' hK
      rcases he with rfl | rfl
      · exact ⟨R'.defers, v, h1, h2⟩
      · exact ⟨R'.defers, v, h1, h2⟩
  · exact h.elim

/-- A function whose condition holds is sound. -/
theorem fn_sound (tok : Tok P T) {f : FuncId} {fn : Func} {C : Con} (hf : P.funcs[f]? = some fn) (hname : (fn.name == "runtime.NumGoroutine") = false) (H : Hints)
    (hvc : ∀ x, C.pre x → VC T H fn C x) (hb : fn.body.isNone = false) (hT : T.base = 0 := by rfl) (hM : T.mods = [] := by rfl) : Sound P f C :=
  fun x hx w O vs hO hl => .inl ⟨run_callFunc hf hb hname vs, fn_calls tok hf H hvc hT hM x hx w O vs hO hl⟩

/-- A function that may leave by a panic. -/
theorem fnx_sound (tok : Tok P T) {f : FuncId} {fn : Func} {C : ConP} (hf : P.funcs[f]? = some fn) (hname : (fn.name == "runtime.NumGoroutine") = false) (H : Hints)
    (hvc : ∀ x, C.con.pre x → VCX T H fn C x) (hb : fn.body.isNone = false) (hT : T.base = 0 := by rfl) (hM : T.mods = [] := by rfl) : SoundX P T.pt f C := by
  intro x hx w O vs hO hl
  refine ⟨run_callFunc hf hb hname vs, ?_⟩
  have h := hvc x hx
  unfold VCX at h
  split at h
  · rename_i c hc
    cases hn : Nat.ble C.con.args.length fn.ntmps with
    | false => rw [hn] at h; exact h.elim
    | true =>
      rw [hn] at h
      simp only [cond_true] at h
      have hle := Nat.le_of_ble_eq_true hn
      have hlen : ∀ (l : List Ar) (x : Ars l), (encs l x).length = l.length := by
        intro l
        induction l with
        | nil => intro x; rfl
        | cons a l ih => intro x; simp [encs, ih]
      have R := start_rel (T := T) (N := fn.ntmps) hT hM hO hl (by rw [hlen]; exact hle)
      refine calls_of_wp hf hc (code_sound tok c 0 _ _ R h ?_)
      intro e A' a' w' hK haf
      obtain ⟨ι', R', _⟩ := haf
      cases e with
      | exit i => exact hK.elim
      | pan => exact ⟨R'.defers, .inl ⟨hK, rfl, R'.below⟩⟩
      | normal =>
        obtain ⟨he, v, h1, h2⟩ := finish_sound tok.tt R' hK.2
        exact ⟨R'.defers, v, h1, .inr ⟨hK.1, h2⟩⟩
      | ret =>
        obtain ⟨he, v, h1, h2⟩ := finish_sound tok.tt R' hK.2
        exact ⟨R'.defers, v, h1, .inr ⟨hK.1, h2⟩⟩
  · exact h.elim

/-! ### Functions that are called by reference -/
theorem ALRep.get {O : Nat → Prop} : ∀ {avs : List AV} {vs : List Value}, ALRep w O ι avs vs → vs.length = avs.length ∧ ∀ (t : Nat) (x : AV), avs[t]? = some x → ∃ u, vs[t]? = some u ∧ ARep w O ι x u
  | [], vs, h => by have h' : vs = [] := h; subst h'; exact ⟨rfl, fun t x h => by simp at h⟩
  | a :: avs, _, ⟨u, us, rfl, h1, h2⟩ => by
    obtain ⟨k1, k2⟩ := ALRep.get h2
    refine ⟨by simp [k1], fun t x hx => ?_⟩
    cases t with
    | zero => simp at hx; subst hx; exact ⟨u, rfl, h1⟩
    | succ t => exact k2 t x (by simpa using hx)

theorem startP_rel {h : Hp} (hr : HR w0 O0 h ι w) (hlow : ∀ id, h id ≠ none → id < T.base) (hnw : ∀ id, id ∈ T.mods → h id ≠ none) {avs : List AV} {vs : Array Value} (hl : ALRep w (Own O0 h ι) ι avs vs.toList)
    (hids : ∀ av ∈ avs, ∀ id ∈ av.ids, h id ≠ none) (hN : avs.length ≤ N) :
    Rel T ⟨h, ι⟩ w0 O0 N (startP avs h) ι ⟨vs ++ Array.replicate (N - vs.size) undef, []⟩ w := by
  obtain ⟨hlen0, hget⟩ := hl.get
  have hlen : vs.size = avs.length := by simpa using hlen0
  refine ⟨hr.below, hr.o0, fun t => ?_, hr.obj, hr.dist, fun t id hid => ?_, (by simp; omega), rfl, fun id h1 => ?_, fun id _ _ => rfl, fun id _ h2 => ⟨h2, rfl⟩, fun id _ h2 => hnw id h2⟩
  · show ARep w _ _ (match avs[t]? with | some d => d | none => aundef) _
    cases hd : avs[t]? with
    | none =>
      have hge : vs.size ≤ t := by rw [hlen]; exact List.getElem?_eq_none_iff.1 hd
      show _ = _
      simp only [Array.getD_eq_getD_getElem?]
      rw [Array.getElem?_append_right hge]
      simp only [Array.getElem?_replicate]
      split <;> rfl
    | some d =>
      obtain ⟨u, h1, h2⟩ := hget t d hd
      have hlt : t < vs.size := by
        have := (List.getElem?_eq_some_iff.1 h1).1
        simpa using this
      have h3 : vs[t]? = some u := by simpa using h1
      simp only [Array.getD_eq_getD_getElem?]
      rw [Array.getElem?_append_left hlt, h3]
      exact h2
  · have e : (startP avs h).env t = (match avs[t]? with | some d => d | none => aundef) := rfl
    rw [e] at hid
    cases hd : avs[t]? with
    | none => rw [hd] at hid; simp [AV.ids, aundef] at hid
    | some d => rw [hd] at hid; exact hids d (List.mem_of_getElem? hd) id hid
  · exact Nat.lt_of_lt_of_le (hlow id h1) (by omega)

theorem scalar_any {w w' : World} {O O' : Nat → Prop} {d : D} {v : Value} (hs : d.scalar = true) (h : VRep w O d v) : VRep w' O' d v := by
  cases d <;> first | exact h | cases hs
theorem resS_sound (R : Rel T F w0 O0 N A ι a w) : ∀ (l : List ResultVar) (ds : List D), resS A l = some ds →
    ∃ vs : List Value, (l.mapM (resOne a.tmps)).run P w = .ok vs w ∧ ∀ w' O', LRep w' O' ds vs
  | [], ds, h => by
    simp only [resS, Option.some.injEq] at h
    subst h
    exact ⟨[], by simp, fun _ _ => rfl⟩
  | .tmp t :: l, ds, h => by
    simp only [resS] at h
    split at h
    · rename_i d ds' hd hl
      cases hs : d.scalar with
      | false => rw [hs] at h; cases h
      | true =>
        rw [hs] at h
        simp only [cond_true, Option.some.injEq] at h
        subst h
        obtain ⟨vs, h1, h2⟩ := resS_sound R l ds' hl
        have hr := R.env t
        rw [hd] at hr
        exact ⟨a.tmps.getD t undef :: vs, by simp [resOne, h1], fun w' O' => ⟨_, _, rfl, scalar_any hs hr, h2 w' O'⟩⟩
    · cases h
  | .cell _ _ :: l, ds, h => by simp [resS] at h

theorem sameO_spec {a b : Option Fw.Obj} (h : sameO a b) : a = b := by
  unfold sameO at h
  split at h
  · rename_i e t xs e' t' ys
    split at h
    · rename_i zs hc
      obtain ⟨rfl, rfl⟩ := castL_spec hc
      cases hb : Nat.beq e e' with
      | false => rw [hb] at h; exact h.elim
      | true =>
        rw [hb] at h
        have := Nat.eq_of_beq_eq_true hb
        subst this
        have h' : zs = ys := h
        rw [← h']
    · exact h.elim
  · exact h.elim
theorem resIs_spec {ds : List D} {v : AV} (h : resIs ds v) : resAV ds = v := by
  unfold resIs at h
  split at h
  · rename_i k n k' m
    cases hb : ikb k k' with
    | false => rw [hb] at h; exact h.elim
    | true =>
      rw [hb] at h
      have := ikb_eq hb
      subst this
      have h' : n = m := h
      rw [h']; rfl
  · rw [h]; rfl
  · rfl
  · exact h.elim
theorem sameAt_spec {h h' : Hp} : ∀ {l : List Nat}, sameAt h h' l → ∀ m ∈ l, h m = h' m
  | [], _, m, hm => by cases hm
  | x :: l, hs, m, hm => by
    rcases List.mem_cons.1 hm with rfl | hm
    · exact sameO_spec hs.1
    · exact sameAt_spec hs.2 m hm

/-- A function whose condition by reference holds is sound. -/
theorem pt_sound (tok : Tok P T) {f : FuncId} {fn : Func} {pt : PT} (hf : P.funcs[f]? = some fn) (hname : (fn.name == "runtime.NumGoroutine") = false) (H : Hints)
    (hvc : ∀ avs h p v h', pt.fn avs h = some (p, v, h') → p → VCP T H fn pt avs h v h') (hb : fn.body.isNone = false) (hT : pt.base = T.base := by rfl) (hM : pt.mods = T.mods := by rfl) : SoundPT P f pt := by
  refine ⟨⟨fn, hf, hb, hname⟩, fun w0 O0 h ι w hr hlow avs vs hl hids p v h' hfn hp => ?_⟩
  have hv := hvc avs h p v h' hfn hp
  obtain ⟨ok1, ok2, ok3, ok4⟩ := pt.ok _ _ _ _ _ hfn
  rw [hT] at hlow
  unfold VCP at hv
  split at hv
  · rename_i c hc
    cases hn : Nat.ble avs.length fn.ntmps with
    | false => rw [hn] at hv; exact hv.elim
    | true =>
      rw [hn] at hv
      simp only [cond_true] at hv
      have R := startP_rel (T := T) (N := fn.ntmps) hr hlow (by rw [← hM]; exact ok4) hl hids (Nat.le_of_ble_eq_true hn)
      refine calls_of_wp hf hc (code_sound tok c 0 _ _ R hv ?_)
      intro e A' a' w' hK haf
      obtain ⟨ι', R', K', S', _⟩ := haf
      have main : (match resS A' fn.results.toList with
          | some ds => resIs ds v ∧ sameAt A'.heap h' pt.mods
          | none => False) → ∃ u, (results fn a'.tmps).run P w' = .ok u w' ∧ ((∃ u', Ending.returned u = .returned u' ∧ HR w0 O0 h' ι w' ∧ ARep w' (Own O0 h' ι) ι v u' ∧ Keeps w (Own O0 h ι) w' (Own O0 h' ι) ∧ w.heap.size ≤ w'.heap.size)) := by
        intro hm
        split at hm
        · rename_i ds hds
          obtain ⟨hres, hsame⟩ := hm
          have hres := resIs_spec hres
          subst hres
          obtain ⟨us, h1, h2⟩ := resS_sound (P := P) R' _ _ hds
          have hlow' : ∀ id, h' id ≠ none → id < T.base := fun id h3 => hlow id ((ok1 id).1 h3)
          have hheap : ∀ id, id < T.base → A'.heap id = h' id := by
            intro id hlt
            by_cases hm : id ∈ T.mods
            · exact sameAt_spec hsame id (by rw [hM]; exact hm)
            · rw [R'.fr id hlt hm]; exact (ok2 id (by rw [hM]; exact hm)).symm
          have hι : ∀ id, h' id ≠ none → ι' id = ι id := fun id h3 => (R'.st id (hlow' id h3) ((ok1 id).1 h3)).2
          have hsub : ∀ b, Own O0 h' ι b → Own O0 A'.heap ι' b := by
            rintro b (h3 | ⟨id, h3, h4⟩)
            · exact .inl h3
            · exact .inr ⟨id, by rw [hheap id (hlow' id h3)]; exact h3, by rw [hι id h3]; exact h4⟩
          have hkw : Keeps w' (Own O0 A'.heap ι') w' (Own O0 h' ι) := Keeps.weaken hsub
          refine ⟨_, results_run h1, _, rfl, ⟨R'.below, R'.o0, fun id o ho => ?_, fun id id' h3 h4 hne => ?_⟩, res_arep (h2 _ _) _, K'.trans hkw S', S'⟩
          · have h3 : h' id ≠ none := by rw [ho]; simp
            rw [← hι id h3]
            exact objRep_keeps hkw (fun _ _ => rfl) (R'.obj id o (by rw [hheap id (hlow' id h3)]; exact ho))
          · rw [← hι id h3, ← hι id' h4]
            exact R'.dist id id' (by rw [hheap id (hlow' id h3)]; exact h3) (by rw [hheap id' (hlow' id' h4)]; exact h4) hne
        · exact hm.elim
      cases e with
      | exit i => exact hK.elim
      | pan => exact hK.elim
      | normal =>
        obtain ⟨u, h1, h2⟩ := main hK
        exact ⟨R'.defers, u, h1, h2⟩
      | ret =>
        obtain ⟨u, h1, h2⟩ := main hK
        exact ⟨R'.defers, u, h1, h2⟩
  · exact hv.elim

end
end Fw
end
section
/- Tools for proofs of functions. -/
set_option linter.unusedVariables false
set_option linter.unusedSimpArgs false
namespace Fw
open Go

def AllTI (P : Program) : List (Nat × TInf) → Prop
  | [] => True
  | p :: l => mkTI P p.1 = some p.2 ∧ AllTI P l
theorem AllTI.spec {P : Program} : ∀ {l : List (Nat × TInf)}, AllTI P l → ∀ t i, look l t = some i → mkTI P t = some i
  | [], _, t, i, h => by cases h
  | (m, x) :: l, ha, t, i, h => by
    simp only [look] at h
    cases hb : Nat.beq m t with
    | true =>
      rw [hb] at h
      simp only [cond_true, Option.some.injEq] at h
      have := Nat.eq_of_beq_eq_true hb
      subst this h
      exact ha.1
    | false => rw [hb] at h; exact AllTI.spec ha.2 t i h

def AllS (P : Program) : List (Nat × Con) → Prop
  | [] => True
  | p :: l => Sound P p.1 p.2 ∧ AllS P l
theorem AllS.spec {P : Program} : ∀ {l : List (Nat × Con)}, AllS P l → ∀ t i, look l t = some i → Sound P t i
  | [], _, t, i, h => by cases h
  | (m, x) :: l, ha, t, i, h => by
    simp only [look] at h
    cases hb : Nat.beq m t with
    | true =>
      rw [hb] at h
      simp only [cond_true, Option.some.injEq] at h
      have := Nat.eq_of_beq_eq_true hb
      subst this h
      exact ha.1
    | false => rw [hb] at h; exact AllS.spec ha.2 t i h

/-- Rounds, by what holds ahead of each and what falls. -/
theorem itl_rule {σ : Type} {F : (σ → Prop) → σ → Prop} (I : σ → Prop) (μ : σ → Nat) {x : σ} (h0 : I x)
    (step : ∀ x G, I x → (∀ y, I y → μ y < μ x → G y) → F G x) : ∃ n, itl F n x := by
  have key : ∀ n x, I x → μ x < n → itl F n x := by
    intro n
    induction n with
    | zero => intro x _ h; omega
    | succ n ih => intro x hx hlt; exact step x _ hx fun y hy hl => ih y hy (by omega)
  exact ⟨_, key _ x h0 (Nat.lt_succ_self _)⟩

theorem Br_of {b : Bool} {X Y : Prop} (h : b = true → X) (h' : b = false → Y) : Br b X Y := by
  cases b
  · exact h' rfl
  · exact h rfl

theorem wrap_i64 {x : Int} (h : -9223372036854775808 ≤ x) (h' : x ≤ 9223372036854775807) : IntKind.wrap .i64 x = x := by
  unfold IntKind.wrap
  simp [IntKind.bits, IntKind.signed]
  omega

/-- A function value's contract from that of the function that it is. -/
theorem cv_of {P : Program} {C : Con}
    (h : ∀ x, C.pre x → ∃ (f : FuncId) (caps ds : List D) (Cf : Con) (y : Ars Cf.args), Sound P f Cf ∧ encs C.args x = .clo f caps :: ds ∧ encs Cf.args y = ds ++ caps ∧ Cf.pre y ∧ C.fresh = none ∧
      encs Cf.res (Cf.post y) = encs C.res (C.post x)) : SoundCv P C := by
  intro x hx w O r vs hO hl
  obtain ⟨f, caps, ds, Cf, y, hS, e1, e2, hy, hfr, e3⟩ := h x hx
  rw [e1] at hl
  obtain ⟨u, us, e4, hu, hus⟩ := hl
  injection e4 with e4 e5
  subst e4 e5
  obtain ⟨cs, hcs1, hcs2⟩ := hu
  subst hcs1
  have hrun0 : (do let d ← Deferred.ofValue (.func (.func f) #[] cs) vs.toArray; invoke d.target d.args : Sem Next).run P w = (callFunc f (vs.toArray ++ cs)).run P w := by
    simp [Deferred.ofValue, invoke]
  have post : ∀ e w', CPost Cf y w O e w' → CPost C x w O e w' := by
    rintro e w' ⟨v, he, hb, hv, _⟩
    refine ⟨v, he, hb, fun ι => ?_, fun e he => by rw [hfr] at he; cases he⟩
    rw [← e3]
    exact hv ι
  rcases hS y hy w O (vs.toArray ++ cs) hO (by rw [e2]; simpa using hus.append hcs2) with ⟨hrun, hc⟩ | ⟨v, w', hrun, hp⟩
  · exact .inl ⟨f, _, hrun0.trans hrun, hc.mono post⟩
  · exact .inr ⟨v, w', hrun0.trans hrun, post _ _ hp⟩

/-! ### Contexts -/
def AllX (P : Program) (pt : Nat) : List (Nat × ConP) → Prop
  | [] => True
  | p :: l => SoundX P pt p.1 p.2 ∧ AllX P pt l
theorem AllX.spec {P : Program} {pt : Nat} : ∀ {l : List (Nat × ConP)}, AllX P pt l → ∀ t i, look l t = some i → SoundX P pt t i
  | [], _, t, i, h => by cases h
  | (m, x) :: l, ha, t, i, h => by
    simp only [look] at h
    cases hb : Nat.beq m t with
    | true =>
      rw [hb] at h
      simp only [cond_true, Option.some.injEq] at h
      have := Nat.eq_of_beq_eq_true hb
      subst this h
      exact ha.1
    | false => rw [hb] at h; exact AllX.spec ha.2 t i h
def AllP (P : Program) : List (Nat × PT) → Prop
  | [] => True
  | p :: l => SoundPT P p.1 p.2 ∧ AllP P l
theorem AllP.spec {P : Program} : ∀ {l : List (Nat × PT)}, AllP P l → ∀ t i, look l t = some i → SoundPT P t i
  | [], _, t, i, h => by cases h
  | (m, x) :: l, ha, t, i, h => by
    simp only [look] at h
    cases hb : Nat.beq m t with
    | true =>
      rw [hb] at h
      simp only [cond_true, Option.some.injEq] at h
      have := Nat.eq_of_beq_eq_true hb
      subst this h
      exact ha.1
    | false => rw [hb] at h; exact AllP.spec ha.2 t i h

end Fw
end
section
/- Numbers by their digits to a base: plain laws, with no program in sight. -/
set_option linter.unusedVariables false
set_option linter.unusedSimpArgs false
namespace Ta
open Go Fw

def Pl.dgF (B : Nat) : Nat → Nat → List Int
  | 0, _ => []
  | f + 1, n => if n = 0 then [] else ((n % B : Nat) : Int) :: Pl.dgF B f (n / B)
/-- The digits of n to the base B, the least one first. -/
def Pl.dg (B n : Nat) : List Int := Pl.dgF B n n
/-- What digits are worth. -/
def Pl.vl (B : Nat) : List Int → Nat
  | [] => 0
  | d :: l => d.toNat + B * Pl.vl B l
def Pl.rng (B : Nat) (l : List Int) : Prop := ∀ d ∈ l, 0 ≤ d ∧ d < B
def Pl.can (B : Nat) (l : List Int) : Prop := Pl.rng B l ∧ ∀ d, l.getLast? = some d → d ≠ 0
open Pl

theorem rng_cons {B : Nat} {d : Int} {l : List Int} : rng B (d :: l) ↔ (0 ≤ d ∧ d < B) ∧ rng B l := by simp [rng]
theorem rng_append {B : Nat} {a b : List Int} : rng B (a ++ b) ↔ rng B a ∧ rng B b := by
  unfold rng
  constructor
  · exact fun h => ⟨fun d hd => h d (by simp [hd]), fun d hd => h d (by simp [hd])⟩
  · rintro ⟨h, k⟩ d hd
    rcases List.mem_append.1 hd with h1 | h1
    · exact h d h1
    · exact k d h1
theorem rng_take {B : Nat} {l : List Int} (h : rng B l) (n : Nat) : rng B (l.take n) := fun d hd => h d (List.mem_of_mem_take hd)
theorem rng_set {B : Nat} {l : List Int} (h : rng B l) {i : Nat} {d : Int} (hd : 0 ≤ d ∧ d < B) : rng B (l.set i d) := fun x hx => by
  rcases List.mem_or_eq_of_mem_set hx with h1 | h1
  · exact h x h1
  · rw [h1]; exact hd
theorem rng_get {B : Nat} {l : List Int} (h : rng B l) {i : Nat} (hi : i < l.length) : 0 ≤ l[i] ∧ l[i] < B := h _ (List.getElem_mem hi)
theorem rng_nil {B : Nat} : rng B [] := fun d hd => by cases hd
theorem rng_replicate {B n : Nat} (hB : 0 < B) : rng B (List.replicate n 0) := fun d hd => by
  rw [List.eq_of_mem_replicate hd]; omega

theorem vl_append {B : Nat} : ∀ (a b : List Int), vl B (a ++ b) = vl B a + B ^ a.length * vl B b
  | [], b => by simp [vl]
  | d :: a, b => by
    simp only [List.cons_append, vl, vl_append a b, List.length_cons, Nat.pow_succ]
    rw [Nat.mul_add, Nat.add_assoc, ← Nat.mul_assoc, Nat.mul_comm B (B ^ a.length)]
theorem vl_lt {B : Nat} : ∀ {l : List Int}, rng B l → vl B l < B ^ l.length
  | [], _ => by simp [vl]
  | d :: l, h => by
    obtain ⟨⟨h1, h2⟩, h3⟩ := rng_cons.1 h
    have ih := vl_lt h3
    simp only [vl, List.length_cons, Nat.pow_succ]
    have hd : d.toNat < B := by omega
    have : B * vl B l + B ≤ B * B ^ l.length := by
      have := Nat.mul_le_mul_left B (Nat.succ_le_of_lt ih)
      rw [Nat.mul_succ] at this
      exact this
    rw [Nat.mul_comm (B ^ l.length) B]
    omega
theorem vl_replicate {B : Nat} : ∀ n : Nat, vl B (List.replicate n 0) = 0
  | 0 => rfl
  | n + 1 => by simp [List.replicate_succ, vl, vl_replicate n]
theorem vl_zeros {B : Nat} : ∀ {l : List Int}, (∀ d ∈ l, d = 0) → vl B l = 0
  | [], _ => rfl
  | d :: l, h => by
    have h0 : d = 0 := h d (by simp)
    simp [vl, h0, vl_zeros (l := l) fun x hx => h x (by simp [hx])]
theorem vl_take_succ {B : Nat} {l : List Int} {i : Nat} (hi : i < l.length) : vl B (l.take (i + 1)) = vl B (l.take i) + B ^ i * l[i].toNat := by
  rw [List.take_succ_eq_append_getElem hi, vl_append, List.length_take, Nat.min_eq_left (by omega)]
  simp [vl]
theorem vl_drop {B : Nat} {l : List Int} {i : Nat} (hi : i ≤ l.length) : vl B l = vl B (l.take i) + B ^ i * vl B (l.drop i) := by
  conv => lhs; rw [← List.take_append_drop i l]
  rw [vl_append, List.length_take, Nat.min_eq_left hi]
theorem vl_drop_cons {B : Nat} {l : List Int} {i : Nat} (hi : i < l.length) : vl B (l.drop i) = l[i].toNat + B * vl B (l.drop (i + 1)) := by
  rw [List.drop_eq_getElem_cons hi]; rfl
theorem vl_set {B : Nat} {l : List Int} {i : Nat} {d : Int} (hi : i < l.length) : vl B (l.set i d) + B ^ i * l[i].toNat = vl B l + B ^ i * d.toNat := by
  have hi' : i < (l.set i d).length := by simpa using hi
  rw [vl_drop (l := l.set i d) (Nat.le_of_lt hi'), vl_drop (l := l) (Nat.le_of_lt hi), vl_drop_cons hi', vl_drop_cons hi]
  simp only [List.getElem_set_self]
  have e1 : (l.set i d).take i = l.take i := by rw [List.take_set_of_le (Nat.le_refl _)]
  have e2 : (l.set i d).drop (i + 1) = l.drop (i + 1) := by rw [List.drop_set_of_lt (by omega)]
  rw [e1, e2, Nat.mul_add, Nat.mul_add]
  omega

theorem vl_dgF {B : Nat} (hB : 2 ≤ B) : ∀ (f n : Nat), n ≤ f → vl B (dgF B f n) = n
  | 0, n, h => by have : n = 0 := by omega
                  subst this; rfl
  | f + 1, n, h => by
    unfold dgF
    by_cases h0 : n = 0
    · rw [if_pos h0, h0]; rfl
    · rw [if_neg h0]
      have hlt : n / B < n := Nat.div_lt_self (by omega) (by omega)
      simp only [vl, vl_dgF hB f (n / B) (by omega)]
      rw [Int.toNat_natCast]
      exact Nat.mod_add_div n B
theorem vl_dg {B : Nat} (hB : 2 ≤ B) (n : Nat) : vl B (dg B n) = n := vl_dgF hB n n (Nat.le_refl _)
theorem can_dgF {B : Nat} (hB : 2 ≤ B) : ∀ (f n : Nat), n ≤ f → can B (dgF B f n)
  | 0, n, h => ⟨rng_nil, fun d hd => by simp [dgF] at hd⟩
  | f + 1, n, h => by
    unfold dgF
    by_cases h0 : n = 0
    · rw [if_pos h0]; exact ⟨rng_nil, fun d hd => by simp at hd⟩
    · rw [if_neg h0]
      have hlt : n / B < n := Nat.div_lt_self (by omega) (by omega)
      obtain ⟨k1, k2⟩ := can_dgF hB f (n / B) (by omega)
      have hm := Nat.mod_lt n (show 0 < B by omega)
      refine ⟨rng_cons.2 ⟨⟨by omega, by omega⟩, k1⟩, fun d hd => ?_⟩
      by_cases h1 : n / B = 0
      · have e : dgF B f (n / B) = [] := by rw [h1]; cases f <;> simp [dgF]
        rw [e] at hd
        simp at hd
        have := Nat.mod_add_div n B
        rw [h1] at this
        omega
      · have hne : dgF B f (n / B) ≠ [] := by
          intro e
          have := vl_dgF hB f (n / B) (by omega)
          rw [e] at this
          exact h1 this.symm
        rw [List.getLast?_cons_of_ne_nil hne] at hd
        exact k2 d hd
theorem can_dg {B : Nat} (hB : 2 ≤ B) (n : Nat) : can B (dg B n) := can_dgF hB n n (Nat.le_refl _)
theorem vl_pos {B : Nat} (hB : 2 ≤ B) : ∀ {l : List Int}, can B l → l ≠ [] → 0 < vl B l
  | [], _, h => absurd rfl h
  | [d], ⟨h1, h2⟩, _ => by
    have := h2 d (by simp)
    have := (rng_cons.1 h1).1
    simp only [vl]; omega
  | d :: e :: l, ⟨h1, h2⟩, _ => by
    have := vl_pos hB (l := e :: l) ⟨(rng_cons.1 h1).2, fun x hx => h2 x (by simpa using hx)⟩ (by simp)
    have h3 : 0 < B * vl B (e :: l) := Nat.mul_pos (by omega) this
    show 0 < d.toNat + B * vl B (e :: l)
    omega
theorem can_tail {B : Nat} {d : Int} {l : List Int} (h : can B (d :: l)) : can B l := by
  refine ⟨(rng_cons.1 h.1).2, fun x hx => ?_⟩
  cases l with
  | nil => simp at hx
  | cons e l => exact h.2 x (by simpa using hx)
theorem can_eq {B : Nat} (hB : 2 ≤ B) : ∀ {l l' : List Int}, can B l → can B l' → vl B l = vl B l' → l = l'
  | [], [], _, _, _ => rfl
  | [], d :: l', _, h', e => by
    have := vl_pos hB h' (by simp)
    rw [← e] at this; simp [vl] at this
  | d :: l, [], h, _, e => by
    have := vl_pos hB h (by simp)
    rw [e] at this; simp [vl] at this
  | d :: l, d' :: l', h, h', e => by
    have k1 := (rng_cons.1 h.1).1
    have k2 := (rng_cons.1 h'.1).1
    simp only [vl] at e
    have m1 : (d.toNat + B * vl B l) % B = d.toNat := by rw [Nat.add_mul_mod_self_left]; exact Nat.mod_eq_of_lt (by omega)
    have m2 : (d'.toNat + B * vl B l') % B = d'.toNat := by rw [Nat.add_mul_mod_self_left]; exact Nat.mod_eq_of_lt (by omega)
    rw [e, m2] at m1
    have hd : d = d' := by omega
    subst hd
    have : vl B l = vl B l' := Nat.eq_of_mul_eq_mul_left (show 0 < B by omega) (by omega)
    rw [can_eq hB (can_tail h) (can_tail h') this]
theorem dg_vl {B : Nat} (hB : 2 ≤ B) {l : List Int} (h : can B l) : dg B (vl B l) = l := can_eq hB (can_dg hB _) h (vl_dg hB _)
theorem vl_ge {B : Nat} (hB : 2 ≤ B) : ∀ {l : List Int}, can B l → l ≠ [] → B ^ (l.length - 1) ≤ vl B l
  | [], _, h => absurd rfl h
  | [d], h, _ => by have := vl_pos hB h (by simp); simp only [List.length_singleton, Nat.sub_self, Nat.pow_zero]; exact this
  | d :: e :: l, h, _ => by
    have := vl_ge hB (can_tail h) (by simp)
    simp only [List.length_cons, Nat.add_sub_cancel] at this ⊢
    show B ^ (l.length + 1) ≤ d.toNat + B * vl B (e :: l)
    have h3 := Nat.mul_le_mul_left B this
    rw [Nat.pow_succ, Nat.mul_comm (B ^ l.length) B]
    omega
theorem len_le {B k : Nat} (hB : 2 ≤ B) {l : List Int} (h : can B l) (hk : vl B l < B ^ k) : l.length ≤ k := by
  by_cases h0 : l = []
  · subst h0; simp
  · have h1 := vl_ge hB h h0
    have h2 : B ^ (l.length - 1) < B ^ k := Nat.lt_of_le_of_lt h1 hk
    have := (Nat.pow_lt_pow_iff_right (show 1 < B by omega)).1 h2
    omega
theorem len_dg {B k n : Nat} (hB : 2 ≤ B) (hk : n < B ^ k) : (dg B n).length ≤ k := len_le hB (can_dg hB n) (by rw [vl_dg hB]; exact hk)
theorem dg_zero {B : Nat} : dg B 0 = [] := rfl
theorem dg_nil {B n : Nat} (hB : 2 ≤ B) : dg B n = [] ↔ n = 0 := by
  constructor
  · intro h
    have := vl_dg hB n
    rw [h] at this
    exact this.symm
  · rintro rfl; rfl

/-! ### Zeros at the end are cut off -/
def Pl.trN (l : List Int) : Nat → Nat
  | 0 => 0
  | n + 1 => if l.getD n 0 = 0 then Pl.trN l n else n + 1
theorem trN_le (l : List Int) : ∀ n, trN l n ≤ n
  | 0 => Nat.le_refl _
  | n + 1 => by
    unfold trN
    split
    · exact Nat.le_succ_of_le (trN_le l n)
    · exact Nat.le_refl _
theorem take_trN {B : Nat} (hB : 2 ≤ B) {l : List Int} (h : rng B l) : ∀ n, n ≤ l.length → l.take (trN l n) = dg B (vl B (l.take n))
  | 0, _ => rfl
  | n + 1, hn => by
    have hlt : n < l.length := hn
    unfold trN
    have e : l.getD n 0 = l[n] := by simp [List.getD_eq_getElem?_getD, List.getElem?_eq_getElem hlt]
    rw [e]
    by_cases h0 : l[n] = 0
    · rw [if_pos h0, take_trN hB h n (by omega), vl_take_succ hlt, h0]
      simp
    · rw [if_neg h0]
      refine (dg_vl hB ⟨rng_take h _, fun d hd => ?_⟩).symm
      rw [List.take_succ_eq_append_getElem hlt, List.getLast?_concat] at hd
      injection hd with hd
      rw [← hd]; exact h0
theorem tr_all {B : Nat} (hB : 2 ≤ B) {l : List Int} (h : rng B l) : l.take (trN l l.length) = dg B (vl B l) := by
  rw [take_trN hB h _ (Nat.le_refl _), List.take_length]

theorem getD_get {l : List Int} {i : Nat} (h : i < l.length) : l.getD i 0 = l[i] := by
  simp [List.getD_eq_getElem?_getD, List.getElem?_eq_getElem h]
theorem getD_out {l : List Int} {i : Nat} (h : l.length ≤ i) : l.getD i 0 = 0 := by
  simp [List.getD_eq_getElem?_getD, List.getElem?_eq_none h]
theorem rd_get {k : IntKind} {l : List Int} {i : Int} (h0 : 0 ≤ i) (h : i < l.length) : rd (.int k) l i = l[i.toNat]'(by omega) := by
  unfold rd
  exact getD_get (by omega)
theorem rng_getD {B : Nat} (hB : 0 < B) {l : List Int} (h : rng B l) (i : Nat) : 0 ≤ l.getD i 0 ∧ l.getD i 0 < B := by
  rcases Nat.lt_or_ge i l.length with hi | hi
  · rw [getD_get hi]; exact rng_get h hi
  · rw [getD_out hi]; omega
/-- Up to a digit, also beyond the last one. -/
theorem vl_take_getD {B : Nat} {l : List Int} (i : Nat) : vl B (l.take (i + 1)) = vl B (l.take i) + B ^ i * (l.getD i 0).toNat := by
  rcases Nat.lt_or_ge i l.length with hi | hi
  · rw [vl_take_succ hi, getD_get hi]
  · rw [List.take_of_length_le (by omega), List.take_of_length_le hi, getD_out hi]; simp
theorem vl_take_lt {B : Nat} (hB : 0 < B) {l : List Int} (h : rng B l) (i : Nat) : vl B (l.take i) < B ^ i := by
  refine Nat.lt_of_lt_of_le (vl_lt (rng_take h i)) (Nat.pow_le_pow_right hB ?_)
  simp; omega

end Ta
end
section
/- Contracts of the integers' functions: natural numbers. -/
set_option linter.unusedVariables false
set_option linter.unusedSimpArgs false
set_option maxRecDepth 100000
namespace Ta
open Go Fw Go.Proofs

abbrev i64 : Ty := .int .i64
abbrev u64 : Ty := .int .u64
abbrev nat : Ty := .slc u64
abbrev I : Ar := .ty i64
abbrev U : Ar := .ty u64
abbrev B : Ar := .ty .bool
abbrev S : Ar := .ty .str
abbrev N : Ar := .ty nat

def tt : List (Nat × TInf) := [
  (2, ⟨1, 8, TD.int IntKind.i64, [D.int IntKind.i64 0]⟩),
  (3, ⟨1, 8, TD.int IntKind.i64, [D.int IntKind.i64 0]⟩),
  (4, ⟨1, 1, TD.bool, [D.bool false]⟩),
  (5, ⟨1, 1, TD.int IntKind.u8, [D.int IntKind.u8 0]⟩),
  (9, ⟨1, 16, TD.str, [D.str ⟨#[]⟩]⟩),
  (20, ⟨1, 16, TD.iface, [D.val Value.nilIface]⟩),
  (21, ⟨1, 4, TD.int IntKind.i32, [D.int IntKind.i32 0]⟩),
  (22, ⟨1, 24, TD.slice 44, [D.val (Value.slice none 0 0)]⟩),
  (23, ⟨1, 24, TD.slice 44, [D.val (Value.slice none 0 0)]⟩),
  (25, ⟨2, 32, TD.struct [(0, 23), (1, 4)], [D.val (Value.slice none 0 0), D.bool false]⟩),
  (35, ⟨1, 24, TD.slice 3, [D.val (Value.slice none 0 0)]⟩),
  (37, ⟨2, 32, TD.struct [(0, 4), (1, 35)], [D.bool false, D.val (Value.slice none 0 0)]⟩),
  (29, ⟨1, 8, TD.int IntKind.i64, [D.int IntKind.i64 0]⟩),
  (53, ⟨1, 0, TD.other, [D.val (Value.tuple { toList := [Value.agg { toList := [Value.slice none 0 0, Value.bool false] }, Value.agg { toList := [Value.slice none 0 0, Value.bool false] }, Value.int IntKind.i64 0] })]⟩),
  (56, ⟨3, 56, TD.struct [(0, 25), (2, 23)], [D.val (Value.slice none 0 0), D.bool false, D.val (Value.slice none 0 0)]⟩),
  (57, ⟨1, 0, TD.other, [D.val (Value.tuple { toList := [Value.agg { toList := [Value.slice none 0 0, Value.bool false, Value.slice none 0 0] }, Value.int IntKind.i64 0] })]⟩),
  (49, ⟨1, 8, TD.func, [D.val Value.nilFunc]⟩),
  (90, ⟨1, 8, TD.func, [D.val Value.nilFunc]⟩),
  (95, ⟨1, 8, TD.int IntKind.u64, [D.int IntKind.u64 0]⟩),
  (44, ⟨1, 8, TD.int IntKind.u64, [D.int IntKind.u64 0]⟩),
  (69, ⟨1, 0, TD.other, [D.val (Value.tuple { toList := [Value.slice none 0 0, Value.int IntKind.u64 0] })]⟩),
  (101, ⟨1, 0, TD.other, [D.val (Value.tuple { toList := [Value.slice none 0 0, Value.slice none 0 0] })]⟩),
  (50, ⟨1, 24, TD.slice 5, [D.val (Value.slice none 0 0)]⟩),
  (64, ⟨0, 0, TD.struct [], []⟩),
  (65, ⟨1, 0, TD.other, [D.val (Value.tuple { toList := [Value.agg #[], Value.bool false] })]⟩),
  (68, ⟨1, 24, TD.slice 9, [D.val (Value.slice none 0 0)]⟩),
  (75, ⟨2, 32, TD.struct [(0, 73), (1, 50)], [D.val (Value.pointer none), D.val (Value.slice none 0 0)]⟩),
  (93, ⟨1, 0, TD.other, [D.val (Value.tuple { toList := [Value.int IntKind.u64 0, Value.int IntKind.u64 0] })]⟩)
]
theorem tt_all : AllTI Tryd.prog tt := ⟨by kernel_rfl, by kernel_rfl, by kernel_rfl, by kernel_rfl, by kernel_rfl, by kernel_rfl, by kernel_rfl, by kernel_rfl, by kernel_rfl, by kernel_rfl, by kernel_rfl, by kernel_rfl, by kernel_rfl, by kernel_rfl, by kernel_rfl, by kernel_rfl, by kernel_rfl, by kernel_rfl, by kernel_rfl, by kernel_rfl, by kernel_rfl, by kernel_rfl, by kernel_rfl, by kernel_rfl, by kernel_rfl, by kernel_rfl, by kernel_rfl, by kernel_rfl, trivial⟩

/-- A word's values. -/
def Pl.W : Nat := 18446744073709551616
/-- Lengths that occur. -/
def Pl.LEN (l : List Int) : Prop := l.length ≤ 1000000000
def Pl.LEN2 (l : List Int) : Prop := l.length ≤ 4000000000000
def Pl.cmpN (a b : Nat) : Int := if a < b then -1 else if b < a then 1 else 0
def Pl.ordI (a b : Int) : Int := if a < b then -1 else if b < a then 1 else 0
/-- How many bits. -/
def Pl.bsz (n : Nat) : Nat := if n = 0 then 0 else n.log2 + 1
def Pl.nt (x : List Int) : Nat := Pl.vl Pl.W x
def Pl.tn (n : Nat) : List Int := Pl.dg Pl.W n
def Pl.okN (x : List Int) : Prop := Pl.can Pl.W x ∧ Pl.LEN x
def Pl.trm (x : List Int) : List Int := Pl.tn (Pl.nt x)
def Pl.tnI (n : Int) : List Int := Pl.tn n.toNat
def Pl.wd (x : List Int) (i : Int) : Int := x.getD i.toNat 0
def Pl.cmp (x y : List Int) : Int := Pl.cmpN (Pl.nt x) (Pl.nt y)
def Pl.addN (x y : List Int) : List Int := Pl.tn (Pl.nt x + Pl.nt y)
def Pl.subN (x y : List Int) : List Int := Pl.tn (Pl.nt x - Pl.nt y)
def Pl.mulN (x y : List Int) : List Int := Pl.tn (Pl.nt x * Pl.nt y)
def Pl.szN (x : List Int) : Int := (Pl.bsz (Pl.nt x) : Int)
def Pl.lz (n : Int) : Int := 64 - (Pl.bsz n.toNat : Int)
def Pl.qwN (x : List Int) (d : Int) : List Int := Pl.tn (Pl.nt x / d.toNat)
def Pl.rwN (x : List Int) (d : Int) : Int := ((Pl.nt x % d.toNat : Nat) : Int)
def Pl.shlN (x : List Int) (n : Int) : List Int := Pl.tn (Pl.nt x * 2 ^ n.toNat)
def Pl.shrN (x : List Int) (n : Int) : List Int := Pl.tn (Pl.nt x / 2 ^ n.toNat)
def Pl.halfN (x : List Int) : List Int := Pl.tn (Pl.nt x / 2)
def Pl.leN (x y : List Int) : Prop := Pl.nt x ≤ Pl.nt y
def Pl.rgN (x : List Int) : Prop := Pl.rng Pl.W x ∧ Pl.LEN x

def Pl.rg2 (x : List Int) : Prop := Pl.rng Pl.W x ∧ Pl.LEN2 x
def C134 : Con := ⟨[I, I], [I], fun (x : Int × Int × Unit) => True, fun (x : Int × Int × Unit) => (Pl.ordI x.1 x.2.1, ()), none⟩
def C135 : Con := ⟨[U, U], [I], fun (x : Int × Int × Unit) => True, fun (x : Int × Int × Unit) => (Pl.ordI x.1 x.2.1, ()), none⟩
def C136 : Con := ⟨[N], [N], fun (x : List Int × Unit) => Pl.rg2 x.1, fun (x : List Int × Unit) => (Pl.trm x.1, ()), none⟩
def C111 : Con := ⟨[U], [N], fun (x : Int × Unit) => 0 ≤ x.1 ∧ x.1 < 18446744073709551616, fun (x : Int × Unit) => (Pl.tnI x.1, ()), none⟩
def C105 : Con := ⟨[N, I], [U], fun (x : List Int × Int × Unit) => 0 ≤ x.2.1, fun (x : List Int × Int × Unit) => (Pl.wd x.1 x.2.1, ()), none⟩
def C107 : Con := ⟨[N, N], [I], fun (x : List Int × List Int × Unit) => Pl.okN x.1 ∧ Pl.okN x.2.1, fun (x : List Int × List Int × Unit) => (Pl.cmp x.1 x.2.1, ()), none⟩
def C120 : Con := ⟨[N, N], [N], fun (x : List Int × List Int × Unit) => Pl.rgN x.1 ∧ Pl.rgN x.2.1, fun (x : List Int × List Int × Unit) => (Pl.addN x.1 x.2.1, ()), none⟩
def C121 : Con := ⟨[N, N], [N], fun (x : List Int × List Int × Unit) => Pl.okN x.1 ∧ Pl.okN x.2.1 ∧ Pl.leN x.2.1 x.1, fun (x : List Int × List Int × Unit) => (Pl.subN x.1 x.2.1, ()), none⟩
def C112 : Con := ⟨[N, N], [N], fun (x : List Int × List Int × Unit) => Pl.rgN x.1 ∧ Pl.rgN x.2.1, fun (x : List Int × List Int × Unit) => (Pl.mulN x.1 x.2.1, ()), none⟩
def C77 : Con := ⟨[N], [I], fun (x : List Int × Unit) => Pl.okN x.1, fun (x : List Int × Unit) => (Pl.szN x.1, ()), none⟩
def C122 : Con := ⟨[U], [I], fun (x : Int × Unit) => 0 ≤ x.1 ∧ x.1 < 18446744073709551616, fun (x : Int × Unit) => (Pl.lz x.1, ()), none⟩
/-- The sum with carry; the difference with borrow; the whole product; the quotient of two words by one. -/
def C138 : Con := ⟨[U, U, U], [U, U], fun (x : Int × Int × Int × Unit) => (0 ≤ x.1 ∧ x.1 < 18446744073709551616) ∧ (0 ≤ x.2.1 ∧ x.2.1 < 18446744073709551616) ∧ (0 ≤ x.2.2.1 ∧ x.2.2.1 ≤ 1),
  fun (x : Int × Int × Int × Unit) => ((x.1 + x.2.1 + x.2.2.1) % 18446744073709551616, (x.1 + x.2.1 + x.2.2.1) / 18446744073709551616, ()), none⟩
def C144 : Con := ⟨[U, U, U], [U, U], fun (x : Int × Int × Int × Unit) => (0 ≤ x.1 ∧ x.1 < 18446744073709551616) ∧ (0 ≤ x.2.1 ∧ x.2.1 < 18446744073709551616) ∧ (0 ≤ x.2.2.1 ∧ x.2.2.1 ≤ 1),
  fun (x : Int × Int × Int × Unit) => ((x.1 - x.2.1 - x.2.2.1) % 18446744073709551616, -((x.1 - x.2.1 - x.2.2.1) / 18446744073709551616), ()), none⟩
def C137 : Con := ⟨[U, U], [U, U], fun (x : Int × Int × Unit) => (0 ≤ x.1 ∧ x.1 < 18446744073709551616) ∧ (0 ≤ x.2.1 ∧ x.2.1 < 18446744073709551616),
  fun (x : Int × Int × Unit) => (x.1 * x.2.1 / 18446744073709551616, x.1 * x.2.1 % 18446744073709551616, ()), none⟩
def C139 : Con := ⟨[U, U, U], [U, U], fun (x : Int × Int × Int × Unit) => (0 ≤ x.1 ∧ x.1 < x.2.2.1) ∧ (0 ≤ x.2.1 ∧ x.2.1 < 18446744073709551616) ∧ x.2.2.1 < 18446744073709551616,
  fun (x : Int × Int × Int × Unit) => ((x.1 * 18446744073709551616 + x.2.1) / x.2.2.1, (x.1 * 18446744073709551616 + x.2.1) % x.2.2.1, ()), none⟩
def C114 : Con := ⟨[N, U], [N, U], fun (x : List Int × Int × Unit) => Pl.okN x.1 ∧ 0 < x.2.1 ∧ x.2.1 < 18446744073709551616, fun (x : List Int × Int × Unit) => (Pl.qwN x.1 x.2.1, Pl.rwN x.1 x.2.1, ()), none⟩
def C140 : Con := ⟨[N, I], [N], fun (x : List Int × Int × Unit) => Pl.okN x.1 ∧ 0 ≤ x.2.1 ∧ x.2.1 ≤ 1000000000, fun (x : List Int × Int × Unit) => (Pl.shlN x.1 x.2.1, ()), none⟩
def C141 : Con := ⟨[N], [N], fun (x : List Int × Unit) => Pl.okN x.1, fun (x : List Int × Unit) => (Pl.halfN x.1, ()), none⟩
def C143 : Con := ⟨[N, I], [N], fun (x : List Int × Int × Unit) => Pl.rgN x.1 ∧ 0 ≤ x.2.1 ∧ x.2.1 < 64, fun (x : List Int × Int × Unit) => (Pl.shrN x.1 x.2.1, ()), none⟩

/-! ### Hints and contexts -/
abbrev un : Sh := .own 44 u64
abbrev si : Sh := .ty i64
abbrev su : Sh := .ty u64
abbrev sn : Sh := .ty nat
def H0 : Hints := ⟨[], [], [], []⟩
def H136 : Hints := ⟨[], [], [(0, ⟨[0], [(3, si)]⟩)], []⟩
def H107 : Hints := ⟨[], [], [(0, ⟨[0, 1], [(5, si)]⟩)], []⟩
def H120 : Hints := ⟨[], [(10, [1000006])], [(0, ⟨[0, 1, 5, 17], [(6, un), (7, su), (18, si)]⟩)], []⟩
def H121 : Hints := ⟨[], [(8, [1000005])], [(0, ⟨[0, 1, 12], [(5, un), (6, su), (13, si)]⟩)], []⟩
def H112 : Hints := ⟨[], [(18, [1000005])], [(0, ⟨[0, 1, 20, 21], [(5, un), (22, si)]⟩), (2, ⟨[0, 1, 6, 7, 20, 21, 22, 27, 28], [(5, un), (8, su), (29, si)]⟩)], []⟩
def cx (fs : List (Nat × Con)) : Ctx := ⟨tt, fs, [], none, [], 0, [], [], 64⟩
def T0 : Ctx := ⟨tt, [], [], none, [], 0, [], [], 64⟩
def T111 : Ctx := ⟨tt, [(28, C136)], [], none, [], 0, [], [], 64⟩
def T107 : Ctx := ⟨tt, [(38, C134), (39, C135)], [], none, [], 0, [], [], 64⟩
def T120 : Ctx := ⟨tt, [(14, C105), (71, C138), (28, C136)], [], none, [], 0, [], [], 64⟩
def T121 : Ctx := ⟨tt, [(14, C105), (82, C144), (28, C136)], [], none, [], 0, [], [], 64⟩
def T112 : Ctx := ⟨tt, [(70, C137), (71, C138), (28, C136)], [], none, [], 0, [], [], 64⟩
def T77 : Ctx := ⟨tt, [(64, C122)], [], none, [], 0, [], [], 64⟩
def T141 : Ctx := ⟨tt, [(33, C114)], [], none, [], 0, [], [], 64⟩

def H114 : Hints := ⟨[], [(7, [1000006])], [(0, ⟨[0, 1], [(6, un), (7, su), (8, si)]⟩)], []⟩
def T114 : Ctx := ⟨tt, [(55, C139), (28, C136)], [], none, [], 0, [], [], 64⟩
def H140 : Hints := ⟨[], [(11, [1000005])], [(0, ⟨[0, 1, 18, 19], [(5, un), (20, si)]⟩)], []⟩
def H143 : Hints := ⟨[], [(9, [1000005])], [(0, ⟨[0, 1, 11, 12], [(5, un), (13, si)]⟩)], []⟩
def T143 : Ctx := ⟨tt, [(14, C105), (28, C136)], [], none, [], 0, [], [], 64⟩

/-! ### A window of a row, changed in its place -/
/-- So many digits. -/
def Pl.fdg : Nat → Nat → List Int
  | 0, _ => []
  | n + 1, m => ((m % Pl.W : Nat) : Int) :: Pl.fdg n (m / Pl.W)
def Pl.winv (xs : List Int) (lo n : Int) : Nat := Pl.vl Pl.W (sub xs lo (lo + n))
def Pl.setw (xs : List Int) (lo n : Int) (m : Nat) : List Int := xs.take lo.toNat ++ Pl.fdg n.toNat m ++ xs.drop (lo + n).toNat
/-- A function of a window of the row number K, of a number, and of more. -/
def ptW (K base : Nat) (pre : List Int → Int → Int → List Int → List D → Prop) (res : List Int → Int → Int → List Int → List D → List D) (new : List Int → Int → Int → List Int → List D → List Int) : PT where
  base := base
  mods := [K]
  fn := fun avs h => match avs with
    | .win K' 1 lo n :: .d (.slc _ (.int .u64) v) :: rest => (match Nat.beq K' K, h K, qmakeFunc.datas rest with
      | true, some (.row 44 (.int .u64) xs), some ds => some (pre xs lo n v ds, resAV (res xs lo n v ds), upd h K (some (.row 44 (.int .u64) (new xs lo n v ds))))
      | _, _, _ => none)
    | _ => none
  ok := by
    intro avs h p v h' hf
    split at hf
    · split at hf
      · rename_i hk hrow hds
        injection hf with hf
        injection hf with h1 h2
        injection h2 with h2 h3
        subst h3
        have hup : ∀ (o : Option Fw.Obj) (id : Nat), upd h K o id = if id = K then o else h id := fun o id => upd_eq _ _ _ _
        refine ⟨fun id => ?_, fun id hid => ?_, ?_, fun id hid => ?_⟩
        · rw [hup]
          split
          · rename_i e; subst e; rw [hrow]; simp
          · exact Iff.rfl
        · rw [hup, if_neg (by simpa using hid)]
        · rw [← h2]
          unfold resAV
          split <;> rfl
        · have : id = K := by simpa using hid
          subst this
          rw [hrow]; simp
      · cases hf
    · cases hf

/-- What is left when a multiple is taken from a window, or given back; whether it was too much. -/
def Pl.takeM (xs : List Int) (lo n : Int) (v : List Int) (q : Nat) : Nat :=
  if Pl.winv xs lo n < q * Pl.nt v then Pl.winv xs lo n + Pl.W ^ n.toNat - q * Pl.nt v else Pl.winv xs lo n - q * Pl.nt v
def Pl.tooB (xs : List Int) (lo n : Int) (v : List Int) (q : Nat) : Bool := decide (Pl.winv xs lo n < q * Pl.nt v)
def Pl.giveM (xs : List Int) (lo n : Int) (v : List Int) (q : Nat) : Nat := (Pl.winv xs lo n + q * Pl.nt v) % Pl.W ^ n.toNat
def Pl.qD : List D → Int
  | [.int .u64 q] => q
  | _ => -1
/-- A window that is one, of a row of digits. -/
def Pl.winOK (xs : List Int) (lo n : Int) : Prop := Pl.rng Pl.W xs ∧ xs.length ≤ 4000000000000 ∧ 0 ≤ lo ∧ 0 < n ∧ lo + n ≤ xs.length
def Pl.preT (xs : List Int) (lo n : Int) (v : List Int) (ds : List D) : Prop :=
  Pl.winOK xs lo n ∧ Pl.okN v ∧ 0 ≤ Pl.qD ds ∧ Pl.qD ds < 18446744073709551616 ∧ (v.length : Int) < n
def Pl.preR (xs : List Int) (lo n : Int) (v : List Int) (ds : List D) : Prop :=
  Pl.winOK xs lo n ∧ Pl.okN v ∧ ds = [] ∧ (v.length : Int) + 1 = n ∧ Pl.winv xs lo n < Pl.nt v * Pl.W
def Pl.resT (xs : List Int) (lo n : Int) (v : List Int) (ds : List D) : List D := [.bool (Pl.tooB xs lo n v (Pl.qD ds).toNat)]
def Pl.newT (xs : List Int) (lo n : Int) (v : List Int) (ds : List D) : List Int := Pl.setw xs lo n (Pl.takeM xs lo n v (Pl.qD ds).toNat)
def Pl.resG (xs : List Int) (lo n : Int) (v : List Int) (ds : List D) : List D := []
def Pl.newG (xs : List Int) (lo n : Int) (v : List Int) (ds : List D) : List Int := Pl.setw xs lo n (Pl.giveM xs lo n v (Pl.qD ds).toNat)
def Pl.quoW (xs : List Int) (lo n : Int) (v : List Int) : Int := ((Pl.winv xs lo n / Pl.nt v : Nat) : Int)
def Pl.resR (xs : List Int) (lo n : Int) (v : List Int) (ds : List D) : List D := [.int .u64 (Pl.quoW xs lo n v)]
def Pl.newR (xs : List Int) (lo n : Int) (v : List Int) (ds : List D) : List Int := Pl.setw xs lo n (Pl.winv xs lo n % Pl.nt v)
def pt154 : PT := ptW 1000011 4000000 Pl.preT (fun xs lo n v ds => [.bool (Pl.tooB xs lo n v (Pl.qD ds).toNat)]) Pl.newT
def pt155 : PT := ptW 1000011 4000000 Pl.preT (fun xs lo n v ds => []) Pl.newG
def pt142 : PT := ptW 1000011 2000000 Pl.preR (fun xs lo n v ds => [.int .u64 (Pl.quoW xs lo n v)]) Pl.newR
abbrev so : Sh := .obj 44 u64
def H154 : Hints := ⟨[], [], [(0, ⟨[0, 1, 2, 14], [(7, su), (8, su), (15, si), (1000011, so)]⟩)], []⟩
def T154 : Ctx := ⟨tt, [(14, C105), (70, C137), (71, C138), (82, C144)], [], none, [], 4000000, [1000011], [], 64⟩
def H155 : Hints := ⟨[], [], [(0, ⟨[0, 1, 2, 13], [(6, su), (7, su), (14, si), (1000011, so)]⟩)], []⟩
def H142 : Hints := ⟨[], [], [(0, ⟨[0, 1], [(6, su), (1000011, so)]⟩)], [90, 91]⟩
def T142 : Ctx := ⟨tt, [(55, C139)], [], none, [(90, pt154), (91, pt155)], 2000000, [1000011], [], 64⟩
def T155 : Ctx := ⟨tt, [(14, C105), (70, C137), (71, C138)], [], none, [], 4000000, [1000011], [], 64⟩
/-- A state of memory in which the row number 1000011 is told. -/
def hp (h : Hp) (xs : List Int) : Hp := upd h 1000011 (some (.row 44 u64 xs))

end Ta
end
section
/- Natural numbers: what is to be shown of each function, shown. -/
set_option linter.unusedVariables false
set_option linter.unusedSimpArgs false
set_option maxRecDepth 100000
namespace Ta
open Go Fw Go.Proofs Pl

theorem W_eq : W = 18446744073709551616 := rfl
theorem W2 : 2 ≤ W := by rw [W_eq]; decide
theorem wrap_u64 (x : Int) : IntKind.wrap .u64 x = x % 18446744073709551616 := by
  unfold IntKind.wrap
  simp [IntKind.bits, IntKind.signed]
theorem tmod_nn {a b : Int} (h : 0 ≤ a) : a.tmod b = a % b := Int.tmod_eq_emod_of_nonneg h
theorem tdiv_nn {a b : Int} (h : 0 ≤ a) : a.tdiv b = a / b := Int.tdiv_eq_ediv_of_nonneg h
theorem rngW {l : List Int} (h : rng W l) (i : Nat) : 0 ≤ l.getD i 0 ∧ l.getD i 0 < 18446744073709551616 := rng_getD (by decide) h i
theorem rdW {l : List Int} {i : Int} (h0 : 0 ≤ i) (h : i < l.length) : rd u64 l i = l.getD i.toNat 0 := rfl
theorem okN_rng {x : List Int} (h : okN x) : rgN x := ⟨h.1.1, h.2⟩
theorem nt_nil : nt [] = 0 := rfl
theorem nt_tn (n : Nat) : nt (tn n) = n := vl_dg W2 n
theorem tn_nt {x : List Int} (h : okN x) : tn (nt x) = x := dg_vl W2 h.1

theorem vc134 : ∀ x, C134.pre x → VC T0 H0 Tryd.f38 C134 x := by
  rintro ⟨(a : Int), (b : Int), ⟨⟩⟩ -
  show Br (decide (a < b)) (((-1 : Int), ()) = C134.post (a, b, ()))
      (Br (decide (a > b)) (((1 : Int), ()) = C134.post (a, b, ())) (((0 : Int), ()) = C134.post (a, b, ())))
  have e : C134.post (a, b, ()) = (ordI a b, ()) := rfl
  rw [e]
  unfold ordI
  exact Br_of (fun h => by rw [if_pos (of_decide_eq_true h)]) fun h => by
    rw [if_neg (of_decide_eq_false h)]
    exact Br_of (fun h => by rw [if_pos (of_decide_eq_true h)]) fun h => by rw [if_neg (of_decide_eq_false h)]
theorem vc135 : ∀ x, C135.pre x → VC T0 H0 Tryd.f39 C135 x := by
  rintro ⟨(a : Int), (b : Int), ⟨⟩⟩ -
  show Br (decide (a < b)) (((-1 : Int), ()) = C135.post (a, b, ()))
      (Br (decide (a > b)) (((1 : Int), ()) = C135.post (a, b, ())) (((0 : Int), ()) = C135.post (a, b, ())))
  have e : C135.post (a, b, ()) = (ordI a b, ()) := rfl
  rw [e]
  unfold ordI
  exact Br_of (fun h => by rw [if_pos (of_decide_eq_true h)]) fun h => by
    rw [if_neg (of_decide_eq_false h)]
    exact Br_of (fun h => by rw [if_pos (of_decide_eq_true h)]) fun h => by rw [if_neg (of_decide_eq_false h)]

theorem vc136 : ∀ x, C136.pre x → VC T0 H136 Tryd.f28 C136 x := by
  rintro ⟨(x : List Int), ⟨⟩⟩ ⟨hr, hl⟩
  show ∃ (n : Nat), itl (fun (G : Int × PUnit → Prop) (x_1 : Int × PUnit) => Br (decide (x_1.fst > (0 : Int))) ((0 : Int) ≤ IntKind.i64.wrap (x_1.fst - (1 : Int)) ∧ IntKind.i64.wrap (x_1.fst - (1 : Int)) < (↑x.length : Int) ∧ Br (rd u64 x (IntKind.i64.wrap (x_1.fst - (1 : Int))) == (0 : Int)) (G (IntKind.i64.wrap (x_1.fst - (1 : Int)), ())) ((0 : Int) ≤ x_1.fst ∧ x_1.fst ≤ (↑x.length : Int) ∧ x_1.fst = x_1.fst ∧ (sub x (0 : Int) x_1.fst, ()) = C136.post (x, ()))) ((0 : Int) ≤ x_1.fst ∧ x_1.fst ≤ (↑x.length : Int) ∧ x_1.fst = x_1.fst ∧ (sub x (0 : Int) x_1.fst, ()) = C136.post (x, ()))) n ((↑x.length : Int), ())
  have e : C136.post (x, ()) = (trm x, ()) := rfl
  rw [e]
  simp only [LEN2] at hl
  have fin : ∀ k : Nat, k ≤ x.length → trN x k = k → trN x x.length = k → (sub x (0 : Int) (k : Int), ()) = (trm x, ()) := by
    intro k h1 h2 h3
    have := tr_all W2 hr
    rw [h3] at this
    show (((x.take (k : Int).toNat).drop (0 : Int).toNat), ()) = (dg W (vl W x), ())
    rw [← this]
    simp
  refine itl_rule (fun s => ∃ k : Nat, s.1 = (k : Int) ∧ k ≤ x.length ∧ trN x x.length = trN x k) (fun s => s.1.toNat) ⟨x.length, rfl, Nat.le_refl _, rfl⟩ ?_
  rintro ⟨i, ⟨⟩⟩ G ⟨k, rfl, h1, h2⟩ hG
  simp only
  refine Br_of (fun hb => ?_) (fun hb => ?_)
  · have hk : 0 < k := by have := of_decide_eq_true hb; omega
    rw [wrap_i64 (by omega) (by omega)]
    obtain ⟨m, rfl⟩ : ∃ m, k = m + 1 := ⟨k - 1, by omega⟩
    have em : ((m + 1 : Nat) : Int) - 1 = (m : Int) := by omega
    rw [em]
    refine ⟨by omega, by omega, ?_⟩
    rw [rdW (by omega) (by omega)]
    simp only [Int.toNat_natCast]
    refine Br_of (fun h0 => ?_) (fun h0 => ?_)
    · have h0' : x.getD m 0 = 0 := by simpa using h0
      refine hG _ ⟨m, rfl, by omega, ?_⟩ (by simp)
      rw [h2, trN, if_pos h0']
    · have h0' : ¬ x.getD m 0 = 0 := by simpa using h0
      refine ⟨by omega, by omega, trivial, fin (m + 1) h1 ?_ ?_⟩
      · rw [trN, if_neg h0']
      · rw [h2, trN, if_neg h0']
  · have hk : k = 0 := by have := of_decide_eq_false hb; omega
    subst hk
    exact ⟨by omega, by omega, trivial, fin 0 (by omega) rfl h2⟩

theorem vc111 : ∀ x, C111.pre x → VC T111 H0 Tryd.f13 C111 x := by
  rintro ⟨(n : Int), ⟨⟩⟩ ⟨h1, h2⟩
  show Pl.rg2 [n] ∧ (Pl.trm [n], ()) = C111.post (n, ())
  simp only at h1 h2
  refine ⟨⟨rng_cons.2 ⟨⟨h1, h2⟩, rng_nil⟩, by unfold LEN2; simp⟩, ?_⟩
  show (dg W (vl W [n]), ()) = (dg W n.toNat, ())
  simp [vl]

theorem vc105 : ∀ x, C105.pre x → VC T0 H0 Tryd.f14 C105 x := by
  rintro ⟨(x : List Int), (i : Int), ⟨⟩⟩ h0
  show Br (decide (i < (↑x.length : Int))) ((0 : Int) ≤ i ∧ i < (↑x.length : Int) ∧ (rd u64 x i, ()) = C105.post (x, i, ()))
      (((0 : Int), ()) = C105.post (x, i, ()))
  have e : C105.post (x, i, ()) = (x.getD i.toNat 0, ()) := rfl
  have h0' : 0 ≤ i := h0
  rw [e]
  refine Br_of (fun hb => ?_) (fun hb => ?_)
  · have := of_decide_eq_true hb
    exact ⟨h0', this, rfl⟩
  · have := of_decide_eq_false hb
    rw [getD_out (by omega)]

/-- Which of two numbers of as many digits is less: the first digits that differ tell. -/
theorem vl_cmp {B : Nat} (hB : 2 ≤ B) {x y : List Int} (hx : rng B x) (hy : rng B y) (hl : x.length = y.length) {k : Nat} (hk : k < x.length)
    (he : ∀ j, k < j → x.getD j 0 = y.getD j 0) (hlt : x.getD k 0 < y.getD k 0) : vl B x < vl B y := by
  have hk' : k < y.length := by omega
  rw [getD_get hk, getD_get hk'] at hlt
  have hd : x.drop (k + 1) = y.drop (k + 1) := by
    refine List.ext_getElem (by simp [hl]) fun j h1 h2 => ?_
    have := he (k + 1 + j) (by omega)
    simp only [List.length_drop] at h1 h2
    rw [getD_get (by omega), getD_get (by omega)] at this
    simpa using this
  rw [vl_drop (Nat.le_of_lt hk), vl_drop (l := y) (Nat.le_of_lt hk'), vl_drop_cons hk, vl_drop_cons hk', hd]
  have h1 := vl_take_lt (show 0 < B by omega) hx k
  have h2 := (rng_get hx hk).1
  have h3 := (rng_get hy hk').1
  have h4 : x[k].toNat + 1 + B * vl B (y.drop (k + 1)) ≤ y[k].toNat + B * vl B (y.drop (k + 1)) := by omega
  have h5 := Nat.mul_le_mul_left (B ^ k) h4
  have h6 : B ^ k * (x[k].toNat + 1 + B * vl B (y.drop (k + 1))) = B ^ k * (x[k].toNat + B * vl B (y.drop (k + 1))) + B ^ k := by
    rw [show x[k].toNat + 1 + B * vl B (y.drop (k + 1)) = (x[k].toNat + B * vl B (y.drop (k + 1))) + 1 by omega, Nat.mul_succ]
  omega
theorem vl_cmp_len {B : Nat} (hB : 2 ≤ B) {x y : List Int} (hx : rng B x) (hy : can B y) (hl : x.length < y.length) : vl B x < vl B y := by
  have h1 := vl_lt hx
  have h2 := vl_ge hB hy (by intro e; rw [e] at hl; simp at hl)
  have h3 : B ^ x.length ≤ B ^ (y.length - 1) := Nat.pow_le_pow_right (by omega) (by omega)
  omega
theorem cmpN_self (a : Nat) : cmpN a a = 0 := by unfold cmpN; rw [if_neg (Nat.lt_irrefl a), if_neg (Nat.lt_irrefl a)]
theorem cmpN_lt {a b : Nat} (h : a < b) : cmpN a b = -1 := by unfold cmpN; rw [if_pos h]
theorem cmpN_gt {a b : Nat} (h : b < a) : cmpN a b = 1 := by unfold cmpN; rw [if_neg (by omega), if_pos h]

theorem vc107 : ∀ x, C107.pre x → VC T107 H107 Tryd.f22 C107 x := by
  rintro ⟨(x : List Int), (y : List Int), ⟨⟩⟩ ⟨⟨cx, lx⟩, cy, ly⟩
  show Br ((↑x.length : Int) != (↑y.length : Int)) (True ∧ (Pl.ordI (↑x.length : Int) (↑y.length : Int), ()) = C107.post (x, y, ())) (∃ (n : Nat), itl (fun (G : Int × PUnit → Prop) (x_1 : Int × PUnit) => Br (decide (x_1.fst ≥ (0 : Int))) ((0 : Int) ≤ x_1.fst ∧ x_1.fst < (↑x.length : Int) ∧ (0 : Int) ≤ x_1.fst ∧ x_1.fst < (↑y.length : Int) ∧ Br (rd u64 x x_1.fst != rd u64 y x_1.fst) ((0 : Int) ≤ x_1.fst ∧ x_1.fst < (↑x.length : Int) ∧ (0 : Int) ≤ x_1.fst ∧ x_1.fst < (↑y.length : Int) ∧ True ∧ (Pl.ordI (rd u64 x x_1.fst) (rd u64 y x_1.fst), ()) = C107.post (x, y, ())) (G (IntKind.i64.wrap (x_1.fst - (1 : Int)), ()))) (((0 : Int), ()) = C107.post (x, y, ()))) n (IntKind.i64.wrap ((↑x.length : Int) - (1 : Int)), ()))
  have e : C107.post (x, y, ()) = (cmpN (vl W x) (vl W y), ()) := rfl
  rw [e]
  simp only [LEN] at lx ly cx cy
  refine Br_of (fun hb => ⟨trivial, ?_⟩) (fun hb => ?_)
  · have hne : x.length ≠ y.length := by intro h; rw [h] at hb; simp at hb
    unfold ordI
    rcases Nat.lt_or_gt_of_ne hne with h | h
    · rw [if_pos (by omega), cmpN_lt (vl_cmp_len W2 cx.1 cy h)]
    · rw [if_neg (by omega), if_pos (by omega), cmpN_gt (vl_cmp_len W2 cy.1 cx h)]
  · have hl : x.length = y.length := by
      have : (x.length : Int) = y.length := by simpa using hb
      omega
    have key : ∀ k : Nat, k < x.length → (∀ j, k < j → x.getD j 0 = y.getD j 0) → x.getD k 0 ≠ y.getD k 0 → ordI (x.getD k 0) (y.getD k 0) = cmpN (vl W x) (vl W y) := by
      intro k hk he hne
      unfold ordI
      rcases Int.lt_or_gt_of_ne hne with h | h
      · rw [if_pos h, cmpN_lt (vl_cmp W2 cx.1 cy.1 hl hk he h)]
      · rw [if_neg (by omega), if_pos h, cmpN_gt (vl_cmp W2 cy.1 cx.1 hl.symm (by omega) (fun j hj => (he j hj).symm) h)]
    refine itl_rule (fun s => ∃ k : Nat, s.1 = (k : Int) - 1 ∧ k ≤ x.length ∧ ∀ j, k ≤ j → x.getD j 0 = y.getD j 0) (fun s => (s.1 + 1).toNat) ⟨x.length, by rw [wrap_i64 (by omega) (by omega)], Nat.le_refl _, fun j hj => by rw [getD_out hj, getD_out (by omega)]⟩ ?_
    rintro ⟨i, ⟨⟩⟩ G ⟨k, rfl, h1, h2⟩ hG
    simp only
    refine Br_of (fun hb => ?_) (fun hb => ?_)
    · have hk : 0 < k := by have := of_decide_eq_true hb; omega
      obtain ⟨m, rfl⟩ : ∃ m, k = m + 1 := ⟨k - 1, by omega⟩
      have em : ((m + 1 : Nat) : Int) - 1 = (m : Int) := by omega
      rw [em, rdW (by omega) (by omega), rdW (by omega) (by omega)]
      simp only [Int.toNat_natCast]
      refine ⟨by omega, by omega, by omega, by omega, ?_⟩
      refine Br_of (fun h0 => ⟨by omega, by omega, by omega, by omega, trivial, ?_⟩) (fun h0 => ?_)
      · rw [key m (by omega) (fun j hj => h2 j (by omega)) (by simpa using h0)]
      · have h0' : x.getD m 0 = y.getD m 0 := by simpa using h0
        rw [wrap_i64 (by omega) (by omega)]
        refine hG _ ⟨m, rfl, by omega, fun j hj => ?_⟩ (by simp only; omega)
        rcases Nat.eq_or_lt_of_le hj with rfl | hj
        · exact h0'
        · exact h2 j hj
    · have hk : k = 0 := by have := of_decide_eq_false hb; omega
      subst hk
      have : x = y := List.ext_getElem hl fun j h3 h4 => by
        have := h2 j (Nat.zero_le _)
        rwa [getD_get h3, getD_get h4] at this
      rw [this, cmpN_self]

end Ta
end
