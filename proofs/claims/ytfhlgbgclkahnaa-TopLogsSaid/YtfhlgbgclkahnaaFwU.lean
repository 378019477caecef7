/- Steps change places; every order of a region comes to what the order of the text comes to. -/
import Derived.Test.YtfhlgbgclkahnaaFwS
set_option linter.unusedVariables false
set_option linter.unusedSimpArgs false
namespace Fw
open Go Go.RowKit

section
variable {T : Ctx} {H : Hints} {ops : Array Oper}

def wfA (A : AState) : Prop := ∀ t id, id ∈ (A.env t).ids → A.heap id ≠ none

theorem wfA.ev {A : AState} (h : wfA A) (x : Operand) : ∀ id ∈ (A.ev x).ids, A.heap id ≠ none := by
  cases x with
  | tmp t => exact h t
  | _ => intro id hid; simp [AState.ev, AV.ids] at hid

theorem apart_ev' {x y : Oper} (h : apart1 ops x y = true) {A A' : AState} (hA : ∀ t, x.dst ≠ some t → A'.env t = A.env t) :
    (∀ z ∈ y.op.operands, A'.ev z = A.ev z) ∧ wantedA ops y A'.env = wantedA ops y A.env ∧ (∀ d, x.dst = some d → y.dst ≠ some d) := by
  cases hd : x.dst with
  | none =>
    have : A'.env = A.env := funext fun t => hA t (by rw [hd]; simp)
    refine ⟨fun z _ => ?_, by rw [this], fun d h => by cases h⟩
    cases z with
    | tmp t => exact congrFun this t
    | _ => rfl
  | some d =>
    obtain ⟨h1, h2, h3⟩ := apart_ev h hd (A := A) (A' := A') (fun t ht => hA t (by rw [hd]; simpa using fun e => ht e.symm))
    exact ⟨h1, h2, fun d' hd' => by injection hd' with hd'; subst hd'; exact h3⟩

theorem GE.move {o : Oper} {A A' : AState} {e : Eff} (hev : ∀ z ∈ o.op.operands, A'.ev z = A.ev z) (hw : wantedA ops o A'.env = wantedA ops o A.env) (hh : A'.heap = A.heap) (h : GE T H ops o A e) : GE T H ops o A' e := by
  cases e with
  | set av =>
    rcases h with ⟨h1, h2⟩ | ⟨h1, h2, h3⟩
    · exact .inl ⟨by rw [hw]; exact h1, h2⟩
    · exact .inr ⟨by rw [hw]; exact h1, h2, fun k hk => by rw [q_congr T o.op A'.heap hev, hh]; exact h3 k hk⟩
  | obj r =>
    obtain ⟨h1, h2, h3⟩ := h
    exact ⟨by rw [hw]; exact h1, h2, fun k hk => by rw [w_congr T o.op (dstN o) A'.heap hev, hh]; exact h3 k hk⟩
theorem GE.heap {o : Oper} {A A' : AState} {av : AV} (hev : ∀ z ∈ o.op.operands, A'.ev z = A.ev z) (hw : wantedA ops o A'.env = wantedA ops o A.env) (hh : ∀ z ∈ o.op.operands, ∀ id ∈ (A.ev z).ids, A.heap id = A'.heap id)
    (h : GE T H ops o A (.set av)) : GE T H ops o A' (.set av) := by
  rcases h with ⟨h1, h2⟩ | ⟨h1, h2, h3⟩
  · exact .inl ⟨by rw [hw]; exact h1, h2⟩
  · exact .inr ⟨by rw [hw]; exact h1, h2, fun k hk => by rw [q_congr T o.op A'.heap hev, ← q_heap T o.op hh]; exact h3 k hk⟩

theorem put_env' {A : AState} {dst : Option Nat} {v : AV} {t : Nat} (h : dst ≠ some t) : (A.put dst v).env t = A.env t := by
  cases dst with
  | none => rfl
  | some d => exact put_env fun e => h (by rw [e])
theorem act_env {A : AState} {dst : Option Nat} {r : WRes} {t : Nat} (h : dst ≠ some t) : (r.act A dst).env t = scrub r.kill A.env t := by
  cases dst with
  | none => rfl
  | some d =>
    show upd _ d _ t = _
    rw [upd_eq, if_neg fun e => h (by rw [e])]
theorem act_heap {A : AState} {dst : Option Nat} {r : WRes} : (r.act A dst).heap = r.heap := by cases dst <;> rfl
theorem put_heap {A : AState} {dst : Option Nat} {v : AV} : (A.put dst v).heap = A.heap := by cases dst <;> rfl

def scrubV (kill : Option Nat) (v : AV) : AV := match kill with
  | some id => scrub1 id v
  | none => v
theorem scrub_at (kill : Option Nat) (env : Nat → AV) (t : Nat) : scrub kill env t = scrubV kill (env t) := by cases kill <;> rfl

/-- A write and a value for another slot. -/
theorem act_put {A : AState} {x y : Option Nat} {r : WRes} {v : AV} (h : ∀ d, x = some d → y ≠ some d) : r.act (A.put x v) y = (r.act A y).put x (scrubV r.kill v) := by
  cases x with
  | none => rfl
  | some d =>
    cases y with
    | none =>
      unfold WRes.act AState.put
      simp only [AState.mk.injEq, and_true]
      funext t
      rw [scrub_at, upd_eq, upd_eq, scrub_at]
      split <;> rfl
    | some e =>
      have hne : d ≠ e := fun he => h d rfl (by rw [he])
      unfold WRes.act AState.put
      simp only [AState.mk.injEq, and_true]
      funext t
      rw [upd_eq, scrub_at, upd_eq, upd_eq, upd_eq, scrub_at]
      by_cases h1 : t = e
      · by_cases h2 : t = d
        · exact absurd (h2.symm.trans h1) hne
        · rw [if_pos h1, if_neg h2, if_pos h1]
      · rw [if_neg h1]
        by_cases h2 : t = d
        · rw [if_pos h2, if_pos h2]
        · rw [if_neg h2, if_neg h2, if_neg h1]

theorem wanted_scrub (o : Oper) (kill : Option Nat) (env : Nat → AV) : wantedA ops o (scrub kill env) = wantedA ops o env := by
  unfold wantedA
  cases o.guard with
  | none => rfl
  | some p =>
    obtain ⟨j, want⟩ := p
    simp only
    cases hd : (ops[j]?).bind (·.dst) with
    | none => rfl
    | some dj =>
      simp only
      rw [scrub_at]
      cases kill with
      | none => rfl
      | some id =>
        simp only [scrubV]
        cases env dj with
        | d x => rfl
        | own i => simp only [scrub1]; cases Nat.beq i id <;> rfl
        | ptr i o => simp only [scrub1]; cases Nat.beq i id <;> rfl
        | eptr i s ix o => simp only [scrub1]; cases Nat.beq i id <;> rfl
        | clo f c => rfl
        | tup l => rfl

/-- A move's value. -/
theorem move_spec {o : Oper} (hc : cls H o = 0) : ∃ x, (o.op = .move x ∨ o.op = .assign x) := by
  obtain ⟨dst, op, type, pos, after, guard⟩ := o
  cases op <;> simp only [cls] at hc <;> try (cases hc; done)
  case move x => exact ⟨x, .inl rfl⟩
  case assign x => exact ⟨x, .inr rfl⟩
  case alloc t => cases dst <;> simp [cls.mk] at hc
  case box t x => cases dst <;> simp [cls.mk] at hc
  case makeSlice t l c => cases dst <;> simp [cls.mk] at hc
  case slice t x lo hi mx =>
    split at hc
    · rename_i d
      cases h9 : memN d H.dm <;> rw [h9] at hc <;> simp at hc
    · simp at hc
  case call c => split at hc <;> simp at hc

/-- A move, behind a write to an object or ahead of it. -/
theorem move_act {o : Oper} (hc : cls H o = 0) {A : AState} {v : AV} (h : GE T H ops o A (.set v)) {kill : Option Nat} {A' : AState} (hev : ∀ z ∈ o.op.operands, A'.ev z = scrubV kill (A.ev z)) (hw : wantedA ops o A'.env = wantedA ops o A.env) :
    GE T H ops o A' (.set (scrubV kill v)) := by
  rcases h with ⟨h1, h2⟩ | ⟨h1, h2, h3⟩
  · subst h2
    exact .inl ⟨by rw [hw]; exact h1, by cases kill <;> rfl⟩
  · obtain ⟨x, hx⟩ := move_spec hc
    have hv := h3 (fun z => z = v) rfl
    refine .inr ⟨by rw [hw]; exact h1, h2, fun k hk => ?_⟩
    rcases hx with hx | hx <;> rw [hx] at hv hev ⊢ <;> simp only [qstep] at hv ⊢ <;> rw [hev x (by simp [Op.operands]), hv] <;> exact hk
/-- .. and back: what it has there comes from what it has here. -/
theorem move_back {o : Oper} (hc : cls H o = 0) {A : AState} {v : AV} {kill : Option Nat} {A' : AState} (hev : ∀ z ∈ o.op.operands, A'.ev z = scrubV kill (A.ev z)) (hw : wantedA ops o A'.env = wantedA ops o A.env)
    (h : GE T H ops o A' (.set v)) : ∃ v0, GE T H ops o A (.set v0) ∧ v = scrubV kill v0 := by
  rcases h with ⟨h1, h2⟩ | ⟨h1, h2, h3⟩
  · subst h2
    exact ⟨aundef, .inl ⟨by rw [← hw]; exact h1, rfl⟩, by cases kill <;> rfl⟩
  · obtain ⟨x, hx⟩ := move_spec hc
    have hv := h3 (fun z => z = v) rfl
    refine ⟨A.ev x, .inr ⟨by rw [← hw]; exact h1, h2, fun k hk => ?_⟩, ?_⟩
    · rcases hx with hx | hx <;> rw [hx] <;> exact hk
    · rcases hx with hx | hx <;> rw [hx] at hv hev <;> simp only [qstep] at hv <;> rw [← hv, hev x (by simp [Op.operands])]

theorem scrub_none (v : AV) : scrubV none v = v := rfl

theorem comm {oi oj : Oper} (hp : pairOK H ops oi oj = true) {A : AState} (hwf : wfA A) {ei ej : Eff} (hi : GE T H ops oi A ei) (hj : GE T H ops oj (ei.app A oi.dst) ej) :
    ∃ ei' ej', GE T H ops oj A ej' ∧ GE T H ops oi (ej'.app A oj.dst) ei' ∧ ei'.app (ej'.app A oj.dst) oi.dst = ej.app (ei.app A oi.dst) oj.dst := by
  unfold pairOK at hp
  simp only [Bool.and_eq_true] at hp
  obtain ⟨⟨hij, hji⟩, hcl⟩ := hp
  cases ei with
  | set vi =>
    obtain ⟨e1, e2, e3⟩ := apart_ev' hij (A := A) (A' := A.put oi.dst vi) (fun t ht => put_env' ht)
    cases ej with
    | set vj =>
      have hj' : GE T H ops oj A (.set vj) := GE.move (fun z hz => (e1 z hz).symm) e2.symm put_heap.symm hj
      obtain ⟨f1, f2, f3⟩ := apart_ev' hji (A := A) (A' := A.put oj.dst vj) (fun t ht => put_env' ht)
      exact ⟨.set vi, .set vj, hj', GE.move f1 f2 put_heap hi, (put_comm' e3).symm⟩
    | obj rj =>
      have hj' : GE T H ops oj A (.obj rj) := GE.move (fun z hz => (e1 z hz).symm) e2.symm put_heap.symm hj
      obtain ⟨g1, g2, g3⟩ := hj'
      by_cases hc2 : cls H oj = 2
      · obtain ⟨d, ob, val, k1, k2, k3, k4, k5, k6⟩ := make_spec hc2 g3
        obtain ⟨f1, f2, f3⟩ := apart_ev' hji (A := A) (A' := rj.act A oj.dst) (fun t ht => by rw [act_env ht, k4]; rfl)
        refine ⟨.set vi, .obj rj, ⟨g1, g2, g3⟩, GE.heap f1 f2 (fun z hz id hid => ?_) hi, ?_⟩
        · rw [show (Eff.obj rj).app A oj.dst = rj.act A oj.dst from rfl, act_heap, k4]
          show A.heap id = upd A.heap d (some ob) id
          rw [upd_eq, if_neg]
          intro e
          subst e
          exact hwf.ev z _ hid k3
        · show (rj.act A oj.dst).put oi.dst vi = rj.act (A.put oi.dst vi) oj.dst
          rw [act_put e3, k4]; rfl
      · -- a move beside a write
        have hc0 : cls H oi = 0 := by
          unfold clsOK at hcl
          simp only [Bool.or_eq_true, Bool.and_eq_true] at hcl
          rcases hcl with (⟨h1, h2⟩ | ⟨h1, h2⟩) | ⟨h1, h2⟩
          · have := Nat.le_of_ble_eq_true h2; omega
          · exact Nat.eq_of_beq_eq_true h1
          · have := Nat.eq_of_beq_eq_true h2; omega
        have f1 : ∀ z ∈ oi.op.operands, (rj.act A oj.dst).ev z = scrubV rj.kill (A.ev z) := by
          intro z hz
          have f := (apart_ev' hji (A := ⟨scrub rj.kill A.env, rj.heap⟩) (A' := rj.act A oj.dst) (fun t ht => act_env ht)).1 z hz
          rw [f]
          cases z with
          | tmp t => exact scrub_at _ _ _
          | _ => cases rj.kill <;> rfl
        have f2 : wantedA ops oi (rj.act A oj.dst).env = wantedA ops oi A.env := by
          rw [(apart_ev' hji (A := ⟨scrub rj.kill A.env, rj.heap⟩) (A' := rj.act A oj.dst) (fun t ht => act_env ht)).2.1]
          exact wanted_scrub _ _ _
        exact ⟨.set (scrubV rj.kill vi), .obj rj, ⟨g1, g2, g3⟩, move_act hc0 hi f1 f2, (act_put e3).symm⟩
  | obj ri =>
    obtain ⟨g1, g2, g3⟩ := hi
    by_cases hc2 : cls H oi = 2
    · obtain ⟨d, ob, val, k1, k2, k3, k4, k5, k6⟩ := make_spec hc2 g3
      obtain ⟨e1, e2, e3⟩ := apart_ev' hij (A := A) (A' := ri.act A oi.dst) (fun t ht => by rw [act_env ht, k4]; rfl)
      cases ej with
      | set vj =>
        have hj' : GE T H ops oj A (.set vj) := GE.heap (fun z hz => (e1 z hz).symm) e2.symm (fun z hz id hid => by
          rw [act_heap, k4]
          show upd A.heap d (some ob) id = A.heap id
          rw [upd_eq, if_neg]
          intro e
          subst e
          rw [e1 z hz] at hid
          exact hwf.ev z _ hid k3) hj
        obtain ⟨f1, f2, f3⟩ := apart_ev' hji (A := A) (A' := A.put oj.dst vj) (fun t ht => put_env' ht)
        refine ⟨.obj ri, .set vj, hj', GE.move f1 f2 put_heap ⟨g1, g2, g3⟩, ?_⟩
        show ri.act (A.put oj.dst vj) oi.dst = (ri.act A oi.dst).put oj.dst vj
        rw [act_put f3, k4]; rfl
      | obj rj =>
        obtain ⟨l1, l2, l3⟩ := hj
        have hcj : cls H oj = 2 := by
          unfold clsOK at hcl
          simp only [Bool.or_eq_true, Bool.and_eq_true] at hcl
          rcases hcl with (⟨h1, h2⟩ | ⟨h1, h2⟩) | ⟨h1, h2⟩
          · have := Nat.le_of_ble_eq_true h2; omega
          · have := Nat.eq_of_beq_eq_true h1; omega
          · have := Nat.eq_of_beq_eq_true h1; omega
        obtain ⟨d', ob', val', m1, m2, m3, m4, m5, m6⟩ := make_spec hcj l3
        have hdd : d ≠ d' := fun e => e3 d k1 (by rw [m1, e])
        have hA : (Eff.obj ri).app A oi.dst = ri.act A oi.dst := rfl
        rw [hA, act_heap, k4] at m3
        have m3' : A.heap d' = none := by
          rw [show (⟨none, upd A.heap d (some ob), val⟩ : WRes).heap = upd A.heap d (some ob) from rfl, upd_eq, if_neg (Ne.symm hdd)] at m3
          exact m3
        have hj' : GE T H ops oj A (.obj ⟨none, upd A.heap d' (some ob'), val'⟩) :=
          ⟨by rw [← e2]; exact l1, l2, fun k hk => by
            rw [← w_congr T oj.op (dstN oj) A.heap e1]
            exact m6 A.heap m3' k hk⟩
        obtain ⟨f1, f2, f3⟩ := apart_ev' hji (A := A) (A' := (⟨none, upd A.heap d' (some ob'), val'⟩ : WRes).act A oj.dst) (fun t ht => by rw [act_env ht]; rfl)
        refine ⟨.obj ⟨none, upd (upd A.heap d' (some ob')) d (some ob), val⟩, .obj ⟨none, upd A.heap d' (some ob'), val'⟩, hj', ⟨by rw [show (Eff.obj _).app A oj.dst = WRes.act _ A oj.dst from rfl, f2]; exact g1, g2, fun k hk => ?_⟩, ?_⟩
        · show wstep T oi.op (dstN oi) ((⟨none, upd A.heap d' (some ob'), val'⟩ : WRes).act A oj.dst).ev ((⟨none, upd A.heap d' (some ob'), val'⟩ : WRes).act A oj.dst).heap k
          rw [w_congr T oi.op (dstN oi) _ f1, act_heap]
          exact k6 _ (by show upd A.heap d' (some ob') d = none; rw [upd_eq, if_neg hdd]; exact k3) k hk
        · rw [m4, k4, k1, m1]
          show (⟨upd (upd A.env d' val') d val, _⟩ : AState) = ⟨upd (upd A.env d val) d' val', _⟩
          have sw : ∀ {α : Type} (f : Nat → α) (x y : α), upd (upd f d' x) d y = upd (upd f d y) d' x := by
            intro α f x y
            funext t
            simp only [upd_eq]
            by_cases h1 : t = d
            · rw [if_pos h1]; subst h1; rw [if_neg hdd, if_pos rfl]
            · rw [if_neg h1, if_neg h1]
          simp only [AState.mk.injEq]
          refine ⟨sw _ _ _, ?_⟩
          show upd (upd A.heap d' (some ob')) d (some ob) = upd (upd A.heap d (some ob)) d' (some ob')
          exact sw _ _ _
    · -- a write ahead of a move
      have hc0 : cls H oj = 0 := by
        unfold clsOK at hcl
        simp only [Bool.or_eq_true, Bool.and_eq_true] at hcl
        rcases hcl with (⟨h1, h2⟩ | ⟨h1, h2⟩) | ⟨h1, h2⟩
        · have := Nat.le_of_ble_eq_true h1; omega
        · have := Nat.eq_of_beq_eq_true h1; omega
        · exact Nat.eq_of_beq_eq_true h2
      cases ej with
      | obj rj => have := hj.2.1; omega
      | set vj =>
        have f1 : ∀ z ∈ oj.op.operands, (ri.act A oi.dst).ev z = scrubV ri.kill (A.ev z) := by
          intro z hz
          have f := (apart_ev' hij (A := ⟨scrub ri.kill A.env, ri.heap⟩) (A' := ri.act A oi.dst) (fun t ht => act_env ht)).1 z hz
          rw [f]
          cases z with
          | tmp t => exact scrub_at _ _ _
          | _ => cases ri.kill <;> rfl
        have f2 : wantedA ops oj (ri.act A oi.dst).env = wantedA ops oj A.env := by
          rw [(apart_ev' hij (A := ⟨scrub ri.kill A.env, ri.heap⟩) (A' := ri.act A oi.dst) (fun t ht => act_env ht)).2.1]
          exact wanted_scrub _ _ _
        obtain ⟨v0, hv0, rfl⟩ := move_back hc0 f1 f2 hj
        obtain ⟨p1, p2, p3⟩ := apart_ev' hji (A := A) (A' := A.put oj.dst v0) (fun t ht => put_env' ht)
        exact ⟨.obj ri, .set v0, hv0, GE.move p1 p2 put_heap ⟨g1, g2, g3⟩, act_put p3⟩

end
end Fw
