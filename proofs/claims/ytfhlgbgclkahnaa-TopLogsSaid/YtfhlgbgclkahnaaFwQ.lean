/- Steps: what they depend on, and that they come to one thing. -/
import Derived.Test.YtfhlgbgclkahnaaFwO
set_option linter.unusedVariables false
set_option linter.unusedSimpArgs false
namespace Fw
open Go Go.RowKit

/-- A transformer that comes to one thing, if to any. -/
def Prin {α : Type} (F : (α → Prop) → Prop) : Prop := ∀ k, F k → ∃ v, k v ∧ ∀ k', k' v → F k'
theorem Prin.one {α : Type} (v : α) : Prin (fun k => k v) := fun k h => ⟨v, h, fun k' h' => h'⟩
theorem Prin.no {α : Type} : Prin (fun _ : α → Prop => False) := fun k h => h.elim
theorem Prin.and {α : Type} {p : Prop} {F : (α → Prop) → Prop} (h : Prin F) : Prin (fun k => p ∧ F k) := fun k ⟨hp, hF⟩ => by
  obtain ⟨v, h1, h2⟩ := h k hF
  exact ⟨v, h1, fun k' h' => ⟨hp, h2 k' h'⟩⟩
theorem Prin.bif {α : Type} {b : Bool} {F G : (α → Prop) → Prop} (h : Prin F) (g : Prin G) : Prin (fun k => bif b then F k else G k) := by
  cases b
  · exact g
  · exact h
theorem Prin.br {α : Type} {b : Bool} {F G : (α → Prop) → Prop} (h : Prin F) (g : Prin G) : Prin (fun k => Br b (F k) (G k)) := by
  cases b
  · exact g
  · exact h
theorem Prin.arrBr {α : Type} {F : Nat → (α → Prop) → Prop} (h : ∀ j, Prin (F j)) : ∀ {n j : Nat} {i : Int}, Prin (fun k => arrBr n j i (fun j => F j k))
  | 0, j, i => .no
  | n + 1, j, i => by
    unfold Fw.arrBr
    exact .br (h j) (Prin.arrBr h)
theorem Prin.arr1 {α : Type} {v : Nat → α} {n j : Nat} {i : Int} : Prin (fun k => Fw.arrBr n j i (fun j => k (v j))) := Prin.arrBr (F := fun j k => k (v j)) fun j => .one _
theorem Prin.map {α β : Type} {F : (α → Prop) → Prop} (f : α → β) (h : Prin F) : Prin (fun k : β → Prop => F (fun x => k (f x))) := fun k hF => by
  obtain ⟨v, h1, h2⟩ := h _ hF
  exact ⟨f v, h1, fun k' h' => h2 _ h'⟩

theorem Prin.qcon (C : Con) (h : Hp) (args : List AV) : Prin (qcon C h args) := by
  unfold Fw.qcon
  split
  · split
    · exact .bif (.and (.one _)) .no
    · exact .no
  · exact .no
theorem Prin.qint (op : BinOp) (kd : IntKind) (x y : Int) : Prin (qint op kd x y) := by
  show Prin (fun k => Fw.qint op kd x y k)
  cases op <;> simp only [Fw.qint] <;> first | exact .one _ | exact .and (.one _)
theorem Prin.qbin (T : Ctx) (op : BinOp) (t : Nat) (x y : AV) : Prin (qbin T op t x y) := by
  unfold Fw.qbin
  split
  · exact .bif (Prin.map (F := Fw.qint op _ _ _) AV.d (.qint _ _ _ _)) .no
  · cases op <;> first | exact .no | exact .one _ | exact .and (.one _)
  · split
    · split
      · cases op <;> first | exact .no | exact .one _
      · split <;> first | exact .no | exact .one _
    · exact .no
theorem Prin.qpick (c a b : AV) : Prin (qpick c a b) := by
  unfold Fw.qpick
  split
  · split
    · exact .one _
    · exact .br (.one _) (.one _)
  · exact .no
theorem Prin.cellsAt (i : TInf) (cs : List D) : Prin (cellsAt i cs) := by
  unfold Fw.cellsAt
  refine .bif (.bif (.one _) .no) ?_
  split
  · exact .one _
  · exact .no
theorem Prin.qload (T : Ctx) (t : Nat) (a : AV) (h : Hp) : Prin (qload T t a h) := by
  unfold Fw.qload
  split
  · split
    · exact .cellsAt _ _
    · split
      · exact .cellsAt _ _
      · exact .no
    · split
      · exact .bif (.and (.and (.cellsAt _ _))) .no
      · exact .no
    · exact .no
  · exact .no
theorem Prin.qslice (T : Ctx) (t : Nat) (x : AV) (lo hi mx : Option AV) : Prin (qslice T t x lo hi mx) := by
  unfold Fw.qslice
  split
  · split
    · split
      · unfold Fw.cutOf
        split <;> first | exact .one _ | exact .and (.and (.one _)) | exact .and (.and (.and (.one _))) | exact .no
      · exact .no
    · split
      · refine .bif ?_ .no
        split
        · unfold Fw.cutOf
          split <;> first | exact .one _ | exact .and (.and (.one _)) | exact .and (.and (.and (.one _))) | exact .no
        · unfold Fw.cutOf3
          split <;> first | exact .and (.and (.and (.one _))) | exact .and (.and (.and (.and (.one _)))) | exact .no
        · exact .no
      · exact .no
    · exact .no
  · exact .no

theorem Prin.qstep (T : Ctx) (op : Op) (ρ : Env) (h : Hp) : Prin (qstep T op ρ h) := by
  show Prin (fun k => Fw.qstep T op ρ h k)
  cases op <;> simp only [Fw.qstep]
  case move x => exact .one _
  case assign x => exact .one _
  case pick c a b => exact .qpick _ _ _
  case load t a => exact .qload _ _ _ _
  case nilCheck x =>
    unfold qnil
    split
    · exact .one _
    · exact .no
  case binOp op t x y yt => exact .qbin _ _ _ _ _
  case unOp op t x => unfold qun; split <;> first | exact .one _ | exact .no
  case convert s t x =>
    unfold qconv
    split
    · split <;> first | exact .one _ | exact .no
    · exact .no
  case makeInterface t x =>
    split
    · split
      · exact .no
      · exact .one _
    · exact .no
  case makeFunc fn first caps =>
    unfold qmakeFunc
    split
    · split
      · exact .one _
      · exact .no
    · exact .no
  case build t parts =>
    unfold qbuild
    split
    · split
      · split
        · split
          · split
            · exact .one _
            · exact .no
          · exact .no
        · exact .no
      · split
        · split
          · split
            · exact .one _
            · exact .no
          · exact .no
        · exact .no
      · exact .no
    · exact .no
  case buildSlice t len parts =>
    unfold qbuildSlice
    split
    · unfold qbs
      split
      · refine .bif ?_ .no
        split
        · split
          · exact .one _
          · exact .no
        · exact .no
      · exact .no
    · exact .no
  case slice t x lo hi mx => exact .qslice _ _ _ _ _ _
  case fieldAddr s x f =>
    unfold qfieldAddr
    split
    · split <;> first | exact .one _ | exact .no
    · exact .no
  case field t x f =>
    unfold qfield
    split
    · split
      · exact .cellsAt _ _
      · exact .no
    · exact .no
  case indexAddr t x ix =>
    unfold qindexAddr
    split
    · split
      · split
        · split
          · exact .bif (.and (.and (.one _))) .no
          · exact .no
        · exact .bif (.and (.and (.one _))) .no
        · exact .no
      · split
        · split
          · exact .arr1
          · exact .arr1
          · exact .no
        · exact .no
    · exact .no
  case index t x ix =>
    unfold qindex
    split
    · split
      · split
        · exact .and (.and (.one _))
        · exact .no
      · exact .no
    · exact .no
  case extract t ix =>
    split
    · split
      · exact .one _
      · exact .no
    · exact .no
  case call c =>
    unfold qcall
    split
    · split
      · exact .qcon _ _ _
      · exact .no
    · unfold qcallv
      split
      · split
        · exact .qcon _ _ _
        · exact .no
      · split
        · exact .qcon _ _ _
        · split
          · split
            · exact .qcon _ _ _
            · exact .no
          · exact .no
      · exact .no
    · split
      · exact .qcon _ _ _
      · exact .no
    · unfold qbuiltin
      split
      · split
        · split
          · exact .one _
          · exact .no
        · exact .no
      · exact .bif (.one _) .no
      · exact .bif (.one _) .no
      · exact .no
  all_goals exact .no

theorem Prin.wstep (T : Ctx) (op : Op) (d : Nat) (ρ : Env) (h : Hp) : Prin (wstep T op d ρ h) := by
  show Prin (fun k => Fw.wstep T op d ρ h k)
  cases op <;> simp only [Fw.wstep]
  case alloc t =>
    split
    · exact .one _
    · exact .no
  case box t x =>
    split
    · exact .bif (.one _) .no
    · exact .no
  case makeSlice t l c =>
    unfold wmake
    split
    · unfold wmk
      split
      · exact .bif (.and (.and (.and (.one _)))) .no
      · exact .no
    · exact .no
  case store t a x =>
    split
    · unfold wstore
      split
      · split
        · split
          · exact .bif (.one _) .no
          · exact .no
        · split
          · refine .bif (.and (.and ?_)) .no
            split
            · exact .one _
            · exact .no
          · exact .no
        · exact .no
      · exact .no
    · exact .no
  case slice t x lo hi mx =>
    unfold wcut
    split
    · split
      · split
        · split
          · exact .bif (.and (.and (.one _))) .no
          · exact .no
        · exact .no
      · exact .no
    · exact .no
  case call c =>
    split
    · unfold wappend
      split
      · refine .bif ?_ .no
        split
        · split
          · exact .bif (by unfold Fw.elems; split <;> first | (split <;> first | exact .and (.one _) | exact .no) | exact .and (.one _) | exact .no) .no
          · exact .no
        · split
          · unfold wapn
            exact .bif (by unfold Fw.elems; split <;> first | (split <;> first | exact .and (.one _) | exact .no) | exact .and (.one _) | exact .no) .no
          · exact .no
        · exact .no
      · exact .no
    · unfold wcopy
      split
      · refine .bif ?_ .no
        split
        · split
          · exact .bif (by unfold Fw.elems; split <;> first | (split <;> first | exact .one _ | exact .no) | exact .one _ | exact .no) .no
          · exact .no
        · exact .no
      · exact .no
    · exact .no
  all_goals exact .no

end Fw
