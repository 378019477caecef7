/- Steps that may change places. -/
import Derived.Test.YtfhlgbgclkahnaaFwQ
set_option linter.unusedVariables false
set_option linter.unusedSimpArgs false
namespace Fw
open Go Go.RowKit

theorem q_congr (T : Ctx) (op : Op) {ρ ρ' : Env} (h : Hp) (hρ : ∀ x ∈ op.operands, ρ x = ρ' x) : qstep T op ρ h = qstep T op ρ' h := by
  funext k
  have arr : ∀ xs : Array Operand, (∀ x ∈ xs, ρ x = ρ' x) → xs.toList.map ρ = xs.toList.map ρ' := fun xs hx => List.map_congr_left fun x hm => hx x (by simpa using hm)
  have parts : ∀ ps : Array (Nat × Operand), (∀ p ∈ ps, ρ p.2 = ρ' p.2) → (ps.toList.map fun p => (p.1, ρ p.2)) = ps.toList.map fun p => (p.1, ρ' p.2) := fun ps hx => List.map_congr_left fun p hm => by rw [hx p (by simpa using hm)]
  have o : ∀ z : Option Operand, (∀ x, z = some x → ρ x = ρ' x) → z.map ρ = z.map ρ' := fun z hz => by cases z with
    | none => rfl
    | some x => simp [hz x rfl]
  cases op <;> simp only [qstep] <;> simp only [Op.operands] at hρ
  case move x => rw [hρ x (by simp)]
  case assign x => rw [hρ x (by simp)]
  case pick c a b => rw [hρ c (by simp), hρ a (by simp), hρ b (by simp)]
  case load t a => rw [hρ a (by simp)]
  case nilCheck x => rw [hρ x (by simp)]
  case binOp op t x y yt => rw [hρ x (by simp), hρ y (by simp)]
  case unOp op t x => rw [hρ x (by simp)]
  case convert s t x => rw [hρ x (by simp)]
  case makeInterface t x => rw [hρ x (by simp)]
  case makeFunc fn first caps => rw [arr first fun x hx => hρ x (by simp [hx]), arr caps fun x hx => hρ x (by simp [hx])]
  case build t ps => rw [parts ps fun p hp => hρ p.2 (by simp; exact ⟨p.1, hp⟩)]
  case buildSlice t len ps => rw [parts ps fun p hp => hρ p.2 (by simp; exact ⟨p.1, hp⟩)]
  case slice t x lo hi mx => rw [hρ x (by simp), o lo fun x hx => hρ x (by simp [hx]), o hi fun x hx => hρ x (by simp [hx]), o mx fun x hx => hρ x (by simp [hx])]
  case fieldAddr s x f => rw [hρ x (by simp)]
  case field t x f => rw [hρ x (by simp)]
  case indexAddr t x ix => rw [hρ x (by simp), hρ ix (by simp)]
  case index t x ix => rw [hρ x (by simp), hρ ix (by simp)]
  case extract t ix => rw [hρ t (by simp)]
  case call c =>
    obtain ⟨callee, args, ats⟩ := c
    simp only [Call.operands] at hρ
    have ha := arr args fun x hx => hρ x (by simp [hx])
    unfold qcall
    cases callee with
    | builtin b => simp only [ha]
    | invoke r name => simp only [ha, hρ r (by simp)]
    | value f =>
      cases f with
      | func f => simp only [ha]
      | tmp t => simp only [ha, hρ (.tmp t) (by simp)]
      | const v => simp only [ha, hρ (.const v) (by simp)]
      | global g => simp only [ha, hρ (.global g) (by simp)]

theorem w_congr (T : Ctx) (op : Op) (d : Nat) {ρ ρ' : Env} (h : Hp) (hρ : ∀ x ∈ op.operands, ρ x = ρ' x) : wstep T op d ρ h = wstep T op d ρ' h := by
  funext k
  have o : ∀ z : Option Operand, (∀ x, z = some x → ρ x = ρ' x) → z.map ρ = z.map ρ' := fun z hz => by cases z with
    | none => rfl
    | some x => simp [hz x rfl]
  cases op <;> simp only [wstep] <;> simp only [Op.operands] at hρ
  case box t x => rw [hρ x (by simp)]
  case makeSlice t l c => rw [hρ l (by simp), hρ c (by simp)]
  case store t a x => rw [hρ a (by simp), hρ x (by simp)]
  case slice t x lo hi mx => rw [hρ x (by simp), o lo fun x hx => hρ x (by simp [hx]), o hi fun x hx => hρ x (by simp [hx]), o mx fun x hx => hρ x (by simp [hx])]
  case call c =>
    obtain ⟨callee, args, ats⟩ := c
    simp only [Call.operands] at hρ
    simp only
    split
    · rename_i s x ts tx h2 h3
      have hm : ∀ y, y = s ∨ y = x → y ∈ args := fun y hy => by
        have : y ∈ args.toList := by rw [h2]; simpa using hy
        simpa using this
      rw [hρ s (by simp [hm s (.inl rfl)]), hρ x (by simp [hm x (.inr rfl)])]
    · rename_i s x ts tx h2 h3
      have hm : ∀ y, y = s ∨ y = x → y ∈ args := fun y hy => by
        have : y ∈ args.toList := by rw [h2]; simpa using hy
        simpa using this
      rw [hρ s (by simp [hm s (.inl rfl)]), hρ x (by simp [hm x (.inr rfl)])]
    · rfl

/-! ### What a quiet step sees of the heap -/
theorem capD_heap {h h' : Hp} {c : D ⊕ (Nat × Nat)} (hi : ∀ id ∈ capIds [c], h id = h' id) : capD h c = capD h' c := by
  cases c with
  | inl d => rfl
  | inr p => obtain ⟨id, off⟩ := p; simp only [capD]; rw [hi id (by simp [capIds])]
theorem caps_heap {h h' : Hp} : ∀ {cs : List (D ⊕ (Nat × Nat))}, (∀ id ∈ capIds cs, h id = h' id) → cs.map (capD h) = cs.map (capD h')
  | [], _ => rfl
  | .inl d :: cs, hi => by simp only [List.map_cons]; rw [caps_heap (cs := cs) hi]; rfl
  | .inr (id, off) :: cs, hi => by
    simp only [List.map_cons]
    rw [caps_heap (cs := cs) fun i h => hi i (by simp [capIds, h]), capD_heap (c := .inr (id, off)) fun i h => hi i (by simp [capIds] at h ⊢; exact .inl h)]
theorem viewD_heap {h h' : Hp} {x : AV} (hi : ∀ id ∈ x.ids, h id = h' id) : viewD h x = viewD h' x := by
  cases x with
  | own id => simp only [viewD]; rw [hi id (by simp [AV.ids])]
  | ptr id off => simp only [viewD]; rw [hi id (by simp [AV.ids])]
  | clo f caps => simp only [viewD]; rw [caps_heap hi]
  | _ => rfl
theorem qcon_heap {C : Con} {h h' : Hp} {args : List AV} (hi : ∀ x ∈ args, ∀ id ∈ x.ids, h id = h' id) : qcon C h args = qcon C h' args := by
  funext k
  unfold qcon
  have : args.map (viewD h) = args.map (viewD h') := List.map_congr_left fun x hx => viewD_heap (hi x hx)
  rw [this]
theorem capAV_ids : ∀ {cs : List (D ⊕ (Nat × Nat))} {x : AV}, x ∈ cs.map capAV → ∀ id ∈ x.ids, id ∈ capIds cs
  | [], x, hx, id, hid => by simp at hx
  | .inl d :: cs, x, hx, id, hid => by
    simp only [List.map_cons, List.mem_cons] at hx
    rcases hx with rfl | hx
    · simp [capAV, AV.ids] at hid
    · exact capAV_ids (cs := cs) hx id hid
  | .inr (i, off) :: cs, x, hx, id, hid => by
    simp only [List.map_cons, List.mem_cons] at hx
    rcases hx with rfl | hx
    · simp [capAV, AV.ids] at hid; simp [capIds, hid]
    · simp [capIds, capAV_ids (cs := cs) hx id hid]

theorem q_heap (T : Ctx) (op : Op) {ρ : Env} {h h' : Hp} (hi : ∀ x ∈ op.operands, ∀ id ∈ (ρ x).ids, h id = h' id) : qstep T op ρ h = qstep T op ρ h' := by
  funext k
  cases op <;> simp only [qstep] <;> simp only [Op.operands] at hi
  case load t a =>
    have ha := hi a (by simp)
    unfold qload
    cases hx : ρ a with
    | ptr id off => rw [hx] at ha; simp only; rw [ha id (by simp [AV.ids])]
    | eptr id sz ix off => rw [hx] at ha; simp only; rw [ha id (by simp [AV.ids])]
    | d y => cases y <;> rfl
    | _ => rfl
  case indexAddr t x ix =>
    have ha := hi x (by simp)
    unfold qindexAddr
    cases hx : ρ x with
    | own id => rw [hx] at ha; simp only; rw [ha id (by simp [AV.ids])]
    | d y => cases y <;> rfl
    | _ => rfl
  case call c =>
    obtain ⟨callee, args, ats⟩ := c
    simp only [Call.operands] at hi
    have ha : ∀ x ∈ args.toList.map ρ, ∀ id ∈ x.ids, h id = h' id := by
      intro x hx id hid
      obtain ⟨y, hy, rfl⟩ := List.mem_map.1 hx
      exact hi y (by simp at hy ⊢; exact .inr hy) id hid
    unfold qcall
    cases callee with
    | builtin b =>
      simp only
      rw [show (args.toList.map ρ).map (viewD h) = (args.toList.map ρ).map (viewD h') from List.map_congr_left fun x hx => viewD_heap (ha x hx)]
    | invoke r name =>
      simp only
      have hr := hi r (by simp)
      split
      · rw [qcon_heap fun x hx => by
          rcases List.mem_cons.1 hx with rfl | hx
          · exact hr
          · exact ha x hx]
      · rfl
    | value f =>
      have key : ∀ v : AV, (∀ id ∈ v.ids, h id = h' id) → qcallv T v (args.toList.map ρ) h k = qcallv T v (args.toList.map ρ) h' k := by
        intro v hv
        unfold qcallv
        cases v with
        | clo g caps =>
          simp only
          split
          · rw [qcon_heap fun x hx => by
              rcases List.mem_append.1 hx with hx | hx
              · exact ha x hx
              · exact fun id hid => hv id (by simp [AV.ids]; exact capAV_ids hx id hid)]
          · rfl
        | d dv =>
          simp only
          split
          · rw [qcon_heap fun x hx => by
              rcases List.mem_cons.1 hx with rfl | hx
              · exact fun id hid => by simp [AV.ids] at hid
              · exact ha x hx]
          · split
            · split
              · rw [qcon_heap fun x hx => by
                  rcases List.mem_append.1 hx with hx | hx
                  · exact ha x hx
                  · obtain ⟨y, hy, rfl⟩ := List.mem_map.1 hx
                    exact fun id hid => by simp [AV.ids] at hid]
              · rfl
            · rfl
        | _ => rfl
      cases f with
      | func f =>
        simp only
        split
        · rw [qcon_heap ha]
        · rfl
      | tmp t => exact key _ (hi (.tmp t) (by simp))
      | const v => exact key _ (hi (.const v) (by simp))
      | global g => exact key _ (hi (.global g) (by simp))

end Fw
