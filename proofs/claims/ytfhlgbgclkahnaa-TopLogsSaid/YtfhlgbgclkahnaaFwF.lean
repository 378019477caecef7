/- The quiet operations are sound. -/
import Derived.Test.YtfhlgbgclkahnaaFwE
set_option linter.unusedVariables false
set_option linter.unusedSimpArgs false
namespace Fw
open Go Go.RowKit

section
variable {P : Program} {T : Ctx} {w : World} {O : Nat → Prop} {h : Hp} {ι : Nat → Value} {base : Nat}

/-- What an operation that yields a value has to show. -/
def Yields (P : Program) (w : World) (O : Nat → Prop) (h : Hp) (ι : Nat → Value) (s : Sem Value) (k : AV → Prop) : Prop :=
  ∃ av v w', k av ∧ (∀ id ∈ av.ids, h id ≠ none) ∧ s.run P w = .ok v w' ∧ ARep w' O ι av v ∧ Below w.heap.size w w'

theorem Yields.same {s : Sem Value} {k : AV → Prop} {av : AV} {v : Value} (hk : k av) (hi : ∀ id ∈ av.ids, h id ≠ none) (hr : s.run P w = .ok v w) (ha : ARep w O ι av v) : Yields P w O h ι s k :=
  ⟨av, v, w, hk, hi, hr, ha, Below.refl _ _⟩
theorem Yields.data {s : Sem Value} {k : AV → Prop} {d : D} {v : Value} (hk : k (.d d)) (hr : s.run P w = .ok v w) (ha : VRep w O d v) : Yields P w O h ι s k :=
  ⟨.d d, v, w, hk, by simp [AV.ids], hr, ha, Below.refl _ _⟩

theorem constD0_rep (w : World) (O : Nat → Prop) (v : Value) : VRep w O (constD0 v) v := by
  cases v <;> simp [constD0, VRep]
theorem constDs_rep (w : World) (O : Nat → Prop) : ∀ vs : List Value, LRep w O (vs.map constD0) vs
  | [] => rfl
  | v :: vs => ⟨v, vs, rfl, constD0_rep w O v, constDs_rep w O vs⟩
theorem constD_rep (w : World) (O : Nat → Prop) (v : Value) : VRep w O (constD v) v := by
  cases v with
  | agg cs => exact ⟨cs, rfl, constDs_rep w O _⟩
  | _ => simp [constD, constD0, VRep]

/-! ### Loads -/
theorem run_load_cells {P : Program} {w : World} {t : Nat} {i : TInf} (hi : mkTI P t = some i) {ad : Addr} {us : List Value} {ds : List D} {O' : Nat → Prop}
    (hl : LRep w O ds us) (hc : ∀ j u, us[j]? = some u → w.cell? (ad.add j) = some u) {k : AV → Prop} (hk : cellsAt i ds k) :
    Yields P w O h ι (loadVar t ad) k := by
  obtain ⟨inf, d, z, h1, h2, h3, h4, h5, h6, h7⟩ := mkTI_spec hi
  unfold cellsAt at hk
  have hagg : (isAgg t).run P w = .ok i.desc.agg w := by
    rw [← h6, tdOf_agg]
    unfold isAgg
    simp only [Sem.run_bind, run_underlying h2]
    cases d <;> rfl
  cases ha : i.desc.agg with
  | true =>
    rw [ha] at hk hagg
    simp only [cond_true] at hk
    cases hb : Nat.ble i.size ds.length with
    | false => rw [hb] at hk; exact hk.elim
    | true =>
      rw [hb] at hk
      simp only [cond_true] at hk
      have hle := Nat.le_of_ble_eq_true hb
      have hlen : us.length = ds.length := hl.length
      refine Yields.data (v := .agg (us.take i.size).toArray) hk ?_ ⟨_, rfl, by simpa using hl.take i.size⟩
      have hlc := run_loadCells_list (P := P) (w := w) ad (us.take i.size) (fun j v hj => hc j v (by rw [List.getElem?_take] at hj; split at hj <;> simp_all))
      have hn : (us.take i.size).length = i.size := by simp; omega
      rw [hn] at hlc
      unfold loadVar
      simp [hagg, Go.sizeOf, typeInfo, h1, h4, hlc]
  | false =>
    rw [ha] at hk hagg
    simp only [cond_false] at hk
    cases ds with
    | nil => exact hk.elim
    | cons d ds =>
      obtain ⟨u, us', e1, e2, e3⟩ := hl
      subst e1
      have h0 := hc 0 u rfl
      rw [add_zero'] at h0
      refine Yields.data (v := u) hk ?_ e2
      unfold loadVar
      simp [hagg, load, Sem.run, h0]

theorem run_size {t : Nat} {inf : TypeInfo} (h : P.info? t = some inf) (w : World) : (Go.sizeOf t).run P w = .ok inf.size w := by simp [Go.sizeOf, typeInfo, h]

theorem ptr_inj {b b' : Nat} {x : Value} (h : x = .pointer (some ⟨b, 0, none⟩)) (h' : x = .pointer (some ⟨b', 0, none⟩)) : b = b' := by
  rw [h] at h'; injection h' with h'; injection h' with h'; injection h' with h'

/-- The cells behind a pointer of any kind. -/
theorem ptr_cells (ho : ∀ id o, h id = some o → ObjRep w O base o (ι id)) {id off b : Nat} {cs : List D} (hid : h id = some (.box cs)) (hb : ι id = .pointer (some ⟨b, 0, none⟩)) :
    ∃ us, LRep w O (cs.drop off) us ∧ ∀ j u, us[j]? = some u → w.cell? ((⟨b, off, none⟩ : Addr).add j) = some u := by
  obtain ⟨b', vs, e, h1, h2, h3, h4⟩ := ho id _ hid
  have := ptr_inj hb h1
  subst this
  refine ⟨vs.toList.drop off, h4.drop off, fun j u hu => ?_⟩
  rw [List.getElem?_drop] at hu
  rw [add_plain]
  simp only [World.cell?, h3]
  simpa using hu

theorem row_cells (ho : ∀ id o, h id = some o → ObjRep w O base o (ι id)) {id e : Nat} {t : Ty} {xs : List t.El} {b n c : Nat} (hid : h id = some (.row e t xs))
    (hb : ι id = .slice (some ⟨b, 0, none⟩) n c) {j : Nat} (hj : j < xs.length) (off : Nat) :
    ∃ us, LRep w O ((t.cells xs[j]).drop off) us ∧ ∀ i u, us[i]? = some u → w.cell? ((⟨b, j * t.size + off, none⟩ : Addr).add i) = some u := by
  obtain ⟨vs, h1, h2⟩ := ho id _ hid
  obtain ⟨us, k1, k2⟩ := ERep.cells t _ _ _ (h2 j hj)
  refine ⟨us.drop off, k1.drop off, fun i u hu => ?_⟩
  rw [List.getElem?_drop] at hu
  have h3 := k2 _ u hu
  simp only [lat] at h3
  rw [hb] at h1
  have := h1.cells (g := b) rfl _ u h3
  rw [add_plain] at this ⊢
  have e : 0 + (j * t.size + (off + i)) = j * t.size + off + i := by omega
  rw [e] at this; exact this

theorem q_load (tt : ∀ t i, look T.tt t = some i → mkTI P t = some i) (ho : ∀ id o, h id = some o → ObjRep w O base o (ι id)) {t : Nat} {x : AV} {v : Value} {k : AV → Prop}
    (hr : ARep w O ι x v) (hk : qload T t x h k) : Yields P w O h ι (Instr.loadAt t v) k := by
  unfold qload at hk
  cases hi : look T.tt t with
  | none => rw [hi] at hk; exact hk.elim
  | some i =>
    rw [hi] at hk
    have hm := tt t i hi
    cases x with
    | d x =>
      cases x <;> simp only at hk
      rename_i cs
      obtain ⟨ad, rfl, hp⟩ := hr
      obtain ⟨us, k1, k2⟩ := hp.lrep
      have := run_load_cells (h := h) (O := O) (ι := ι) (O' := O) hm k1 (ad := ad) (fun j u hu => by simpa using (k2 j u hu).2) hk
      simpa [Instr.loadAt, Instr.sureAddr, Yields] using this
    | ptr id off =>
      obtain ⟨b, hb, rfl⟩ := hr
      simp only at hk
      cases hid : h id with
      | none => rw [hid] at hk; exact hk.elim
      | some o =>
        rw [hid] at hk
        cases o with
        | row e t xs => exact hk.elim
        | box cs =>
          obtain ⟨us, k1, k2⟩ := ptr_cells ho (off := off) hid hb
          have := run_load_cells (h := h) (O := O) (ι := ι) (O' := O) hm k1 k2 hk
          simpa [Instr.loadAt, Instr.sureAddr, Yields] using this
    | eptr id sz ix off =>
      obtain ⟨b, n, c, hb, rfl⟩ := hr
      simp only at hk
      cases hid : h id with
      | none => rw [hid] at hk; exact hk.elim
      | some o =>
        rw [hid] at hk
        cases o with
        | box cs => exact hk.elim
        | row e t' xs =>
          simp only at hk
          cases hs : Nat.beq sz t'.size with
          | false => rw [hs] at hk; exact hk.elim
          | true =>
            rw [hs] at hk
            have hsz := Nat.eq_of_beq_eq_true hs
            subst hsz
            obtain ⟨h0, h1, hk⟩ := hk
            have hj : ix.toNat < xs.length := by omega
            have hrd : rd t' xs ix = xs[ix.toNat] := by simp [rd, List.getD_eq_getElem?_getD, List.getElem?_eq_getElem hj]
            rw [hrd] at hk
            obtain ⟨us, k1, k2⟩ := row_cells ho hid hb hj off
            have := run_load_cells (h := h) (O := O) (ι := ι) (O' := O) hm k1 k2 hk
            simpa [Instr.loadAt, Instr.sureAddr, Yields] using this
    | _ => simp only at hk

/-! ### Tests for nil -/
theorem nil_false {x : AV} {v : Value} (hr : ARep w O ι x v) (hn : nilOf x = some false) :
    (∃ a, v = .pointer (some a)) ∨ (∃ f vs, v = .func (.func f) #[] vs) ∨ (∃ t u, v = .iface t u) := by
  cases x with
  | d x =>
    cases x <;> simp only [nilOf] at hn <;> try (cases hn; done)
    · obtain ⟨u, rfl, _⟩ := hr; exact .inr (.inr ⟨_, _, rfl⟩)
    · obtain ⟨a, rfl, _⟩ := hr; exact .inl ⟨_, rfl⟩
    · obtain ⟨a, rfl, _⟩ := hr; exact .inr (.inl ⟨_, _, rfl⟩)
    · split at hn <;> simp_all
  | own id => simp [nilOf] at hn
  | ptr id off => obtain ⟨b, _, rfl⟩ := hr; exact .inl ⟨_, rfl⟩
  | eptr id sz i off => obtain ⟨b, n, c, _, rfl⟩ := hr; exact .inl ⟨_, rfl⟩
  | clo f caps => obtain ⟨a, rfl, _⟩ := hr; exact .inr (.inl ⟨_, _, rfl⟩)
  | tup l => simp [nilOf] at hn


/-! ### Numbers -/
theorem q_int {op : BinOp} {kd kd' : IntKind} {x y : Int} {k : D → Prop} {t : TypeId} (hkd : (isShift op || ikb kd kd') = true) (hk : qint op kd x y k) :
    ∃ d v, k d ∧ VRep w O d v ∧ (binOp op t (.int kd x) (.int kd' y)).run P w = .ok v w := by
  have hsh : isShift op = true ∨ kd = kd' := by
    simp only [Bool.or_eq_true] at hkd
    exact hkd.imp id ikb_eq
  cases op <;> simp only [qint] at hk
  case shl => exact ⟨_, _, hk.2, rfl, by simp [binOp, Op.shift, Int.not_lt.mpr hk.1]⟩
  case shr => exact ⟨_, _, hk.2, rfl, by simp [binOp, Op.shift, Int.not_lt.mpr hk.1]⟩
  all_goals (have hkk : kd = kd' := hsh.resolve_left (by simp [isShift]); subst hkk)
  case quo => exact ⟨_, _, hk.2, rfl, by simp [binOp, Op.intDiv, hk.1]⟩
  case rem => exact ⟨_, _, hk.2, rfl, by simp [binOp, Op.intDiv, hk.1]⟩
  case and => exact ⟨_, _, hk, rfl, by simp [binOp, Op.intBits, bitsv]⟩
  case or => exact ⟨_, _, hk, rfl, by simp [binOp, Op.intBits, bitsv]⟩
  case xor => exact ⟨_, _, hk, rfl, by simp [binOp, Op.intBits, bitsv]⟩
  case andNot => exact ⟨_, _, hk, rfl, by simp [binOp, Op.intBits, bitsv]⟩
  all_goals exact ⟨_, _, hk, rfl, by simp [binOp, Op.intArith, Op.intCmp]⟩

theorem q_un {op : UnOp} {x : AV} {v : Value} {k : AV → Prop} (hr : ARep w O ι x v) (hk : qun op x k) : Yields P w O h ι (Op.unary op v) k := by
  unfold qun at hk
  split at hk
  · have hr' : v = _ := hr
    subst hr'
    exact Yields.data hk (v := .int _ _) (by simp [Op.unary, Op.intArith]) rfl
  · have hr' : v = _ := hr
    subst hr'
    exact Yields.data hk (v := .bool _) (by simp [Op.unary]) rfl
  · have hr' : v = _ := hr
    subst hr'
    exact Yields.data hk (v := .int _ _) (by simp [Op.unary, Op.intBits, bitsv]) rfl
  · exact hk.elim

theorem q_conv (tt : ∀ t i, look T.tt t = some i → mkTI P t = some i) {src dst : Nat} {x : AV} {v : Value} {k : AV → Prop} (hr : ARep w O ι x v) (hk : qconv T src dst x k) :
    Yields P w O h ι (convert src dst v) k := by
  unfold qconv at hk
  split at hk
  · rename_i i j hi hj
    obtain ⟨inf, d, z, h1, h2, h3, h4, h5, h6, h7⟩ := mkTI_spec (tt _ _ hi)
    obtain ⟨inf', d', z', g1, g2, g3, g4, g5, g6, g7⟩ := mkTI_spec (tt _ _ hj)
    split at hk
    · rename_i kd kx n hd
      have hr' : v = _ := hr
      subst hr'
      rw [hd] at g6
      have e := tdOf_int g6
      subst e
      exact Yields.data hk (v := .int _ _) (by simp [convert, run_underlying h2, run_underlying g2, Conv.intToInt]) rfl
    · exact hk.elim
  · exact hk.elim

theorem q_pick {c a b : AV} {vc va vb : Value} {k : AV → Prop} (hc : ARep w O ι c vc) (ha : ARep w O ι a va) (hb : ARep w O ι b vb)
    (hai : ∀ id ∈ a.ids, h id ≠ none) (hbi : ∀ id ∈ b.ids, h id ≠ none) (hk : qpick c a b k) :
    Yields P w O h ι (do pure (if ← asBool vc then va else vb)) k := by
  unfold qpick at hk
  split at hk
  · rename_i cb
    have hc' : vc = .bool cb := hc
    subst hc'
    have run : ∀ w : World, (do pure (if ← asBool (.bool cb) then va else vb) : Sem Value).run P w = .ok (if cb = true then va else vb) w := fun w => by simp [asBool]
    split at hk
    · rename_i x y
      have ha' : va = .bool x := ha
      have hb' : vb = .bool y := hb
      subst ha' hb'
      exact Yields.data hk (run w) (by cases cb <;> rfl)
    · cases cb with
      | true => exact Yields.same hk hai (run w) ha
      | false => exact Yields.same hk hbi (run w) hb
  · exact hk.elim

/-! ### Places -/
theorem sliceE_spec (tt : ∀ t i, look T.tt t = some i → mkTI P t = some i) {t e : Nat} {ie : TInf} (h : sliceE T t = some (e, ie)) :
    P.underlying t = some (.slice e) ∧ mkTI P e = some ie := by
  unfold sliceE at h
  split at h
  · rename_i i hi
    obtain ⟨inf, d, z, h1, h2, h3, h4, h5, h6, h7⟩ := mkTI_spec (tt _ _ hi)
    split at h
    · rename_i e' hd
      split at h
      · rename_i ie' he
        injection h with h
        injection h with h8 h9
        subst h8 h9
        rw [hd] at h6
        rw [tdOf_slice h6] at h2
        exact ⟨h2, tt _ _ he⟩
      · cases h
    · cases h
  · cases h

theorem info_of {P : Program} {t : Nat} {i : TInf} (h : mkTI P t = some i) : ∃ inf, P.info? t = some inf ∧ inf.size = i.size ∧ inf.bytes = i.bytes ∧ ∃ z, inf.zero = some z ∧ z.cells.toList.map constD0 = i.zero := by
  obtain ⟨inf, d, z, h1, h2, h3, h4, h5, h6, h7⟩ := mkTI_spec h
  exact ⟨inf, h1, h4, h5, z, h3, h7⟩

theorem arrBr_spec {i : Int} {f : Nat → Prop} : ∀ {n j : Nat}, arrBr n j i f → ∃ m, m < j + n ∧ i = m ∧ f m
  | 0, j, h => h.elim
  | n + 1, j, h => by
    unfold arrBr at h
    by_cases e : i = (j : Int)
    · rw [decide_eq_true e] at h
      exact ⟨j, by omega, e, h⟩
    · rw [decide_eq_false e] at h
      obtain ⟨m, h1, h2, h3⟩ := arrBr_spec (n := n) (j := j + 1) h
      exact ⟨m, by omega, h2, h3⟩
theorem arrayE_spec (tt : ∀ t i, look T.tt t = some i → mkTI P t = some i) {t n e : Nat} {ie : TInf} (h : arrayE T t = some (n, e, ie)) :
    P.underlying t = some (.array n e) ∧ mkTI P e = some ie := by
  unfold arrayE at h
  split at h
  · rename_i i hs
    split at h
    · rename_i n' e' hd
      split at h
      · rename_i ie' he
        simp only [Option.some.injEq, Prod.mk.injEq] at h
        obtain ⟨rfl, rfl, rfl⟩ := h
        obtain ⟨inf, d, z, h1, h2, h3, h4, h5, h6, h7⟩ := mkTI_spec (tt _ _ hs)
        rw [hd] at h6
        rw [tdOf_array h6] at h2
        exact ⟨h2, tt _ _ he⟩
      · cases h
    · cases h
  · cases h

theorem q_indexAddr (tt : ∀ t i, look T.tt t = some i → mkTI P t = some i) (ho : ∀ id o, h id = some o → ObjRep w O base o (ι id)) {t : Nat} {x ix : AV} {v vi : Value} {k : AV → Prop}
    (hr : ARep w O ι x v) (hi : ARep w O ι ix vi) (hal : ∀ id off, x = .ptr id off → h id ≠ none) (hk : qindexAddr T t x ix h k) : Yields P w O h ι (Instr.indexAt t v vi) k := by
  unfold qindexAddr at hk
  split at hk
  · rename_i kd i
    have hi' : vi = .int kd i := hi
    subst hi'
    split at hk
    · rename_i e ie hs
      obtain ⟨hu, hm⟩ := sliceE_spec tt hs
      obtain ⟨inf, h1, h2, h3, _⟩ := info_of hm
      have run : ∀ (a : Addr) (n c : Nat), 0 ≤ i → i < n → (Instr.indexAt t (.slice (some a) n c) (.int kd i)).run P w = .ok (.pointer (some (a.add (i.toNat * inf.size)))) w := by
        intro a n c h0 hn
        simp [Instr.indexAt, asIntOf, run_underlying hu, h0, hn, run_size h1]
      split at hk
      · rename_i id
        split at hk
        · rename_i e' t' xs hid
          cases hb : Nat.beq ie.size t'.size with
          | false => rw [hb] at hk; exact hk.elim
          | true =>
            rw [hb] at hk
            obtain ⟨h0, hl, hk⟩ := hk
            have hsz := Nat.eq_of_beq_eq_true hb
            obtain ⟨vs, ho1, ho2⟩ := ho id _ hid
            have hr' : v = ι id := hr
            subst hr'
            obtain ⟨g, cap, hv⟩ : ∃ g cap, ι id = .slice (some ⟨g, 0, none⟩) xs.length cap := by
              rcases ho1.2 with ⟨_, h0'⟩ | ⟨g, cap, cur, hv, _⟩
              · omega
              · exact ⟨g, cap, hv⟩
            refine Yields.same (av := .eptr id t'.size i 0) hk (by simp [AV.ids, hid]) (by rw [hv]; exact run _ _ _ h0 hl) ⟨g, _, _, hv, ?_⟩
            rw [add_plain, h2, hsz]
            simp
        · exact hk.elim
      · rename_i f t' xs
        cases hb : Nat.beq ie.size t'.size with
        | false => rw [hb] at hk; exact hk.elim
        | true =>
          rw [hb] at hk
          obtain ⟨h0, hl, hk⟩ := hk
          have hsz := Nat.eq_of_beq_eq_true hb
          obtain ⟨⟨a, c, hv, hc, hcell⟩, _⟩ := hr
          obtain ⟨ad, ha, hcell2⟩ := hcell (by omega)
          subst ha hv
          have hj : i.toNat < xs.length := by omega
          have hrd : rd t' xs i = xs[i.toNat] := by simp [rd, List.getD_eq_getElem?_getD, List.getElem?_eq_getElem hj]
          rw [hrd] at hk
          obtain ⟨us, k1, k2⟩ := ERep.cells _ _ _ _ (hcell2 _ hj)
          refine Yields.data hk (run _ _ _ h0 hl) ⟨_, rfl, k1.prep fun j u hu => ?_⟩
          rw [add_add, h2, hsz, Nat.zero_add]
          exact k2 j u hu
      · exact hk.elim
    · split at hk
      · rename_i n e ie hae
        obtain ⟨hu, hm⟩ := arrayE_spec tt hae
        obtain ⟨inf, h1, h2, h3, _⟩ := info_of hm
        have run : ∀ (a : Addr) (m : Nat), m < n → i = m → (Instr.indexAt t (.pointer (some a)) (.int kd i)).run P w = .ok (.pointer (some (a.add (m * ie.size)))) w := by
          intro a m hm hi
          subst hi
          have h0 : (0 : Int) ≤ (m : Int) := by omega
          have hn : (m : Int) < (n : Int) := by omega
          simp [Instr.indexAt, asIntOf, run_underlying hu, Instr.sureAddr, h0, hn, run_size h1, h2]
          intro h9
          omega
        split at hk
        · rename_i id off
          obtain ⟨m, hm1, hm2, hk⟩ := arrBr_spec hk
          obtain ⟨b, hb, rfl⟩ := hr
          refine Yields.same (av := .ptr id (off + m * ie.size)) hk ?_ (run _ m (by omega) hm2) ⟨b, hb, by rw [add_plain]⟩
          simpa [AV.ids] using hal id off rfl
        · rename_i cs
          obtain ⟨m, hm1, hm2, hk⟩ := arrBr_spec hk
          obtain ⟨ad, rfl, hc⟩ := hr
          exact Yields.data hk (run _ m (by omega) hm2) ⟨_, rfl, hc.drop _⟩
        · exact hk.elim
      · exact hk.elim
  · exact hk.elim

theorem q_index (tt : ∀ t i, look T.tt t = some i → mkTI P t = some i) {t : Nat} {x ix : AV} {v vi : Value} {k : AV → Prop}
    (hr : ARep w O ι x v) (hi : ARep w O ι ix vi) (hk : qindex T t x ix k) : Yields P w O h ι (Instr.index t v vi) k := by
  unfold qindex at hk
  split at hk
  · rename_i kd i
    have hi' : vi = .int kd i := hi
    subst hi'
    split at hk
    · rename_i inf hs
      obtain ⟨inf', d, z, h1, h2, h3, h4, h5, h6, h7⟩ := mkTI_spec (tt _ _ hs)
      split at hk
      · rename_i s hd
        rw [hd] at h6
        rw [tdOf_str h6] at h2
        obtain ⟨h0, hl, hk⟩ := hk
        have hr' : v = .string s := hr
        subst hr'
        have hj : i.toNat < s.size := by omega
        refine Yields.data hk (v := .int .u8 (bt s i)) ?_ rfl
        simp [Instr.index, asIntOf, run_underlying h2, h0, bt, hj]
      · exact hk.elim
    · exact hk.elim
  · exact hk.elim

theorem blt_pos {n : Nat} (h : Nat.blt 0 n = true) : 0 < n := by
  have : 1 ≤ n := by simpa [Nat.blt, Nat.ble_eq] using h
  exact this

theorem structF_spec (tt : ∀ t i, look T.tt t = some i → mkTI P t = some i) {s f off : Nat} {fi : TInf} (h : structF T s f = some (off, fi)) :
    ∃ (fa : Array Field) (fl : Field), P.underlying s = some (.struct fa) ∧ fa[f]? = some fl ∧ fl.offset = off ∧ mkTI P fl.type = some fi ∧ 0 < fi.size := by
  unfold structF at h
  split at h
  · rename_i i hi
    obtain ⟨inf, d, z, h1, h2, h3, h4, h5, h6, h7⟩ := mkTI_spec (tt _ _ hi)
    split at h
    · rename_i fs hd
      rw [hd] at h6
      obtain ⟨fa, rfl, hfs⟩ := tdOf_struct h6
      subst hfs
      split at h
      · rename_i o ft hf
        split at h
        · rename_i fi' hfi
          cases hpos : Nat.blt 0 fi'.size with
          | false => rw [hpos] at h; cases h
          | true =>
          rw [hpos] at h
          have hpos' : 0 < fi'.size := blt_pos hpos
          injection h with h
          injection h with h8 h9
          subst h8 h9
          rw [List.getElem?_map] at hf
          cases hx : fa.toList[f]? with
          | none => rw [hx] at hf; cases hf
          | some fl =>
            rw [hx] at hf
            simp only [Option.map_some, Option.some.injEq, Prod.mk.injEq] at hf
            obtain ⟨rfl, rfl⟩ := hf
            exact ⟨fa, fl, h2, by simpa using hx, rfl, tt _ _ hfi, hpos'⟩
        · cases h
      · cases h
    · cases h
  · cases h


theorem q_fieldAddr (tt : ∀ t i, look T.tt t = some i → mkTI P t = some i) {s f : Nat} {x : AV} {v : Value} {k : AV → Prop}
    (hr : ARep w O ι x v) (hx : ∀ id ∈ x.ids, h id ≠ none) (hk : qfieldAddr T s x f k) : Yields P w O h ι (Instr.fieldAt s v f) k := by
  unfold qfieldAddr at hk
  split at hk
  · rename_i off fi hs
    obtain ⟨fa, fl, h1, h2, h3, h4, h5⟩ := structF_spec tt hs
    obtain ⟨inf, g1, g2, g3, _⟩ := info_of h4
    have run : ∀ a : Addr, (Instr.fieldAt s (.pointer (some a)) f).run P w = .ok (.pointer (some (a.add off))) w := by
      intro a
      simp [Instr.fieldAt, run_underlying h1, h2, Instr.sureAddr, fieldPlace, run_size g1, h3]
      intro hz; omega
    split at hk
    · obtain ⟨a, rfl, hp⟩ := hr
      exact Yields.data hk (run a) ⟨_, rfl, hp.drop off⟩
    · obtain ⟨b, hb, rfl⟩ := hr
      exact Yields.same hk (by simpa [AV.ids] using hx) (run _) ⟨b, hb, by rw [add_plain]⟩
    · obtain ⟨b, n, c, hb, rfl⟩ := hr
      exact Yields.same hk (by simpa [AV.ids] using hx) (run _) ⟨b, n, c, hb, by rw [add_plain, Nat.add_assoc]⟩
    · exact hk.elim
  · exact hk.elim

/-- A part of a struct's cells. -/
theorem run_part {t : Nat} {i : TInf} (hi : mkTI P t = some i) {ds : List D} {us : Array Value} {off : Nat} (hl : LRep w O ds us.toList) {k : AV → Prop} (hk : cellsAt i (ds.drop off) k) :
    Yields P w O h ι (part t us off) k := by
  obtain ⟨inf, d, z, h1, h2, h3, h4, h5, h6, h7⟩ := mkTI_spec hi
  unfold cellsAt at hk
  have hagg : (isAgg t).run P w = .ok i.desc.agg w := by
    rw [← h6, tdOf_agg]
    unfold isAgg
    simp only [Sem.run_bind, run_underlying h2]
    cases d <;> rfl
  cases ha : i.desc.agg with
  | true =>
    rw [ha] at hk hagg
    simp only [cond_true] at hk
    cases hb : Nat.ble i.size (ds.drop off).length with
    | false => rw [hb] at hk; exact hk.elim
    | true =>
      rw [hb] at hk
      simp only [cond_true] at hk
      refine Yields.data (v := .agg (us.extract off (off + i.size))) hk ?_ ⟨_, rfl, ?_⟩
      · unfold part
        simp [hagg, run_size h1, h4]
      · have := (hl.drop off).take i.size
        simpa [List.extract_eq_take_drop] using this
  | false =>
    rw [ha] at hk hagg
    simp only [cond_false] at hk
    cases hds : ds.drop off with
    | nil => rw [hds] at hk; exact hk.elim
    | cons d ds' =>
      rw [hds] at hk
      have := hl.drop off
      rw [hds] at this
      obtain ⟨u, us', e1, e2, e3⟩ := this
      have hu : us[off]? = some u := by
        have := congrArg (fun l => l[0]?) e1
        simp at this
        exact this
      refine Yields.data (v := u) hk ?_ e2
      unfold part
      simp [hagg, hu]

theorem q_field (tt : ∀ t i, look T.tt t = some i → mkTI P t = some i) {s f : Nat} {x : AV} {v : Value} {k : AV → Prop}
    (hr : ARep w O ι x v) (hk : qfield T s x f k) : Yields P w O h ι (Instr.field s v f) k := by
  unfold qfield at hk
  split at hk
  · rename_i off fi hs
    obtain ⟨fa, fl, h1, h2, h3, h4, h5⟩ := structF_spec tt hs
    split at hk
    · obtain ⟨us, rfl, hl⟩ := hr
      have := run_part (h := h) (O := O) (ι := ι) h4 hl hk
      simpa [Instr.field, run_underlying h1, h2, asAgg, h3, Yields] using this
    · exact hk.elim
  · exact hk.elim


/-! ### Cuts -/
theorem SRep.cut {t : Ty} {xs : List t.El} {a : Option Addr} {c : Nat} (hs : SRep w O t xs (.slice a xs.length c)) {l r : Int} (h0 : 0 ≤ l) (h1 : l ≤ r) (h2 : r ≤ xs.length) (m : Nat) (hm : r ≤ m) :
    SRep w O t (sub xs l r) (.slice (if m = l.toNat then a else a.map (·.add (l.toNat * t.size))) (r.toNat - l.toNat) (m - l.toNat)) := by
  obtain ⟨a', c', e, hc, hcell⟩ := hs
  injection e with e1 e2 e3
  subst e1 e3
  have hlen : (sub xs l r).length = r.toNat - l.toNat := by simp [sub]; omega
  refine ⟨_, _, by rw [hlen], by rw [hlen]; omega, fun hp => ?_⟩
  rw [hlen] at hp
  obtain ⟨ad, ha, hcell2⟩ := hcell (by omega)
  subst ha
  rw [if_neg (by omega)]
  refine ⟨ad.add (l.toNat * t.size), rfl, fun j hj => ?_⟩
  rw [hlen] at hj
  have hx : (sub xs l r)[j] = xs[l.toNat + j]'(by omega) := by simp [sub]
  rw [hx]
  refine ERep.imp (Keeps.refl w O) t _ _ _ _ _ (fun i u hi hu => ?_) (hcell2 (l.toNat + j) (by omega))
  rw [add_add]
  have e : l.toNat * t.size + (j * t.size + i) = (l.toNat + j) * t.size + i := by rw [Nat.add_mul]; omega
  rw [e]; exact hu

theorem run_bound {kd : IntKind} {i : Int} {y : Nat} {code : BoundsCode} (h0 : 0 ≤ i) (h1 : i ≤ y) : (Instr.sliceBound (.int kd i) y code).run P w = .ok i.toNat w := by
  simp [Instr.sliceBound, asIntOf, h0, h1]

theorem q_slice (tt : ∀ t i, look T.tt t = some i → mkTI P t = some i) {t : Nat} {x : AV} {v : Value} {lo hi mx : Option AV} {vlo vhi vmx : Option Value} {k : AV → Prop}
    (hr : ARep w O ι x v) (hlo : ∀ a, lo = some a → ∃ u, vlo = some u ∧ ARep w O ι a u) (hlo' : lo = none → vlo = none)
    (hhi : ∀ a, hi = some a → ∃ u, vhi = some u ∧ ARep w O ι a u) (hhi' : hi = none → vhi = none)
    (hmx : ∀ a, mx = some a → ∃ u, vmx = some u ∧ ARep w O ι a u) (hmx' : mx = none → vmx = none)
    (hk : qslice T t x lo hi mx k) : Yields P w O h ι (Instr.sliceAt t v vlo vhi vmx) k := by
  unfold qslice at hk
  split at hk
  · rename_i inf hs
    obtain ⟨inf', d, z, h1, h2, h3, h4, h5, h6, h7⟩ := mkTI_spec (tt _ _ hs)
    split at hk
    · rename_i s hd
      rw [hd] at h6
      rw [tdOf_str h6] at h2
      have hr' : v = .string s := hr
      subst hr'
      split at hk
      · have := hmx' rfl
        subst this
        unfold cutOf at hk
        split at hk
        · obtain rfl := hlo' rfl
          obtain rfl := hhi' rfl
          refine Yields.data hk (v := .string (s.extract 0 s.size)) ?_ (by simp [VRep])
          simp [Instr.sliceAt, run_underlying h2, Instr.slice, Instr.sliceBounds]
        · rename_i kd l
          obtain ⟨u, rfl, hu⟩ := hlo _ rfl
          have hu' : u = .int kd l := hu
          subst hu'
          obtain rfl := hhi' rfl
          obtain ⟨h0, h9, hk⟩ := hk
          refine Yields.data hk (v := .string (s.extract l.toNat s.size)) ?_ (by simp [VRep])
          simp [Instr.sliceAt, run_underlying h2, Instr.slice, Instr.sliceBounds, run_bound h0 h9]
        · rename_i kd r
          obtain ⟨u, rfl, hu⟩ := hhi _ rfl
          have hu' : u = .int kd r := hu
          subst hu'
          obtain rfl := hlo' rfl
          obtain ⟨h0, h9, hk⟩ := hk
          refine Yields.data hk (v := .string (s.extract 0 r.toNat)) ?_ (by simp [VRep])
          simp [Instr.sliceAt, run_underlying h2, Instr.slice, Instr.sliceBounds, run_bound h0 h9]
        · rename_i kd l kd' r
          obtain ⟨u, rfl, hu⟩ := hlo _ rfl
          have hu' : u = .int kd l := hu
          subst hu'
          obtain ⟨u, rfl, hu⟩ := hhi _ rfl
          have hu' : u = .int kd' r := hu
          subst hu'
          obtain ⟨h0, h9, h10, hk⟩ := hk
          refine Yields.data hk (v := .string (s.extract l.toNat r.toNat)) ?_ (by simp [VRep])
          have hr0 : 0 ≤ r := by omega
          have hl' : l ≤ (r.toNat : Int) := by omega
          simp [Instr.sliceAt, run_underlying h2, Instr.slice, Instr.sliceBounds, run_bound hr0 h10, run_bound h0 hl']
        · exact hk.elim
      · exact hk.elim
    · rename_i e f t' xs hd
      rw [hd] at h6
      rw [tdOf_slice h6] at h2
      split at hk
      · rename_i ie he
        obtain ⟨infe, g1, g2, g3, _⟩ := info_of (tt _ _ he)
        cases hb : Nat.beq ie.size t'.size with
        | false => rw [hb] at hk; exact hk.elim
        | true =>
          rw [hb] at hk
          simp only [cond_true] at hk
          have hsz := Nat.eq_of_beq_eq_true hb
          obtain ⟨hsr, hfull⟩ := hr
          obtain ⟨a, c, rfl, hc, hcell⟩ := hsr
          have hsr : SRep w O t' xs (.slice a xs.length c) := ⟨a, c, rfl, hc, hcell⟩
          have run : ∀ (l r m : Int) , 0 ≤ l → l ≤ r → r ≤ m → m ≤ c → ∀ (vlo vhi vmx : Option Value),
              ((Instr.sliceBounds true xs.length c vlo vhi vmx).run P w = .ok (l.toNat, r.toNat, m.toNat) w) →
              (Instr.sliceAt t (.slice a xs.length c) vlo vhi vmx).run P w = .ok (.slice (if m.toNat = l.toNat then a else a.map (·.add (l.toNat * t'.size))) (r.toNat - l.toNat) (m.toNat - l.toNat)) w := by
            intro l r m _ _ _ _ vlo vhi vmx hb
            simp [Instr.sliceAt, run_underlying h2, Instr.slice, hb, run_size g1, g2, hsz]
          split at hk
          · have := hmx' rfl
            subst this
            unfold cutOf at hk
            split at hk
            · obtain rfl := hlo' rfl
              obtain rfl := hhi' rfl
              have hcut := hsr.cut (l := 0) (r := xs.length) (by omega) (by omega) (by omega) c (by omega)
              refine Yields.data hk (run 0 xs.length c (by omega) (by omega) (by omega) (by omega) _ _ _ (by simp [Instr.sliceBounds])) ⟨by simpa using hcut, fun h => by cases h⟩
            · rename_i kd l
              obtain ⟨u, rfl, hu⟩ := hlo _ rfl
              have hu' : u = .int kd l := hu
              subst hu'
              obtain rfl := hhi' rfl
              obtain ⟨h0, h9, hk⟩ := hk
              have hcut := hsr.cut (l := l) (r := xs.length) h0 h9 (by omega) c (by omega)
              refine Yields.data hk (run l xs.length c h0 h9 (by omega) (by omega) _ _ _ (by simp [Instr.sliceBounds, run_bound h0 h9])) ⟨by simpa using hcut, fun h => by cases h⟩
            · rename_i kd r
              obtain ⟨u, rfl, hu⟩ := hhi _ rfl
              have hu' : u = .int kd r := hu
              subst hu'
              obtain rfl := hlo' rfl
              obtain ⟨h0, h9, hk⟩ := hk
              have hcut := hsr.cut (l := 0) (r := r) (by omega) h0 h9 c (by omega)
              refine Yields.data hk (run 0 r c (by omega) h0 (by omega) (by omega) _ _ _ (by simp [Instr.sliceBounds, run_bound (P := P) (w := w) (kd := kd) h0 (show r ≤ (c : Int) by omega)])) ⟨by simpa using hcut, fun h => by cases h⟩
            · rename_i kd l kd' r
              obtain ⟨u, rfl, hu⟩ := hlo _ rfl
              have hu' : u = .int kd l := hu
              subst hu'
              obtain ⟨u, rfl, hu⟩ := hhi _ rfl
              have hu' : u = .int kd' r := hu
              subst hu'
              obtain ⟨h0, h9, h10, hk⟩ := hk
              have hcut := hsr.cut (l := l) (r := r) h0 h9 h10 c (by omega)
              have hr0 : 0 ≤ r := by omega
              have hl' : l ≤ (r.toNat : Int) := by omega
              refine Yields.data hk (run l r c h0 h9 (by omega) (by omega) _ _ _ (by simp [Instr.sliceBounds, run_bound (P := P) (w := w) (kd := kd') hr0 (show r ≤ (c : Int) by omega), run_bound h0 hl'])) ⟨by simpa using hcut, fun h => by cases h⟩
            · exact hk.elim
          · rename_i kdm m
            obtain ⟨u, rfl, hu⟩ := hmx _ rfl
            have hu' : u = .int kdm m := hu
            subst hu'
            unfold cutOf3 at hk
            have fullc : ∀ l r : Int, 0 ≤ l → l ≤ r → m = r → ∃ a' n, Value.slice (if m.toNat = l.toNat then a else a.map (·.add (l.toNat * t'.size))) (r.toNat - l.toNat) (m.toNat - l.toNat) = .slice a' n n :=
              fun l r _ _ e => ⟨_, _, by rw [e]⟩
            split at hk
            · rename_i kd r
              obtain ⟨u, rfl, hu⟩ := hhi _ rfl
              have hu' : u = .int kd r := hu
              subst hu'
              obtain rfl := hlo' rfl
              obtain ⟨h0, h9, hmr, hk⟩ := hk
              subst hmr
              have hcut := hsr.cut (l := 0) (r := m) (by omega) h0 h9 m.toNat (by omega)
              refine Yields.data hk (run 0 m m (by omega) h0 (by omega) (by omega) _ _ _ (by simp [Instr.sliceBounds, run_bound (P := P) (w := w) (kd := kdm) h0 (show m ≤ (c : Int) by omega), run_bound (P := P) (w := w) (kd := kd) h0 (show m ≤ (m.toNat : Int) by omega)])) ⟨by simpa using hcut, fun _ => fullc 0 m (by omega) h0 rfl⟩
            · rename_i kd l kd' r
              obtain ⟨u, rfl, hu⟩ := hlo _ rfl
              have hu' : u = .int kd l := hu
              subst hu'
              obtain ⟨u, rfl, hu⟩ := hhi _ rfl
              have hu' : u = .int kd' r := hu
              subst hu'
              obtain ⟨h0, h9, h10, hmr, hk⟩ := hk
              subst hmr
              have hcut := hsr.cut (l := l) (r := m) h0 h9 h10 m.toNat (by omega)
              have hr0 : 0 ≤ m := by omega
              have hl' : l ≤ (m.toNat : Int) := by omega
              refine Yields.data hk (run l m m h0 h9 (by omega) (by omega) _ _ _ (by simp [Instr.sliceBounds, run_bound (P := P) (w := w) (kd := kdm) hr0 (show m ≤ (c : Int) by omega), run_bound (P := P) (w := w) (kd := kd') hr0 (show m ≤ (m.toNat : Int) by omega), run_bound h0 hl'])) ⟨by simpa using hcut, fun _ => fullc l m h0 h9 rfl⟩
            · exact hk.elim
          · exact hk.elim
      · exact hk.elim
    · exact hk.elim
  · exact hk.elim

end
end Fw
