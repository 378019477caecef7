/- Values of a small abstract machine over Go's memory, and how they are represented in a world. -/
import Derived.WalkKit
import Derived.KernelRfl
import Derived.Laws.AppendOwn
import Derived.Laws.OwnMore
import Derived.Laws.MakeOwn
import Derived.Below
import Derived.Deep.Draws
set_option linter.unusedVariables false
set_option linter.unusedSimpArgs false
namespace Fw
open Go

/-! ### Types of plain data -/
inductive Ty where
  | int (k : IntKind) | bool | str | slc (t : Ty) | pair (a b : Ty) | unit

@[reducible] def Ty.El : Ty → Type
  | .int _ => Int
  | .bool => Bool
  | .str => ByteArray
  | .slc t => List t.El
  | .pair a b => a.El × b.El
  | .unit => Unit

def Ty.size : Ty → Nat
  | .int _ => 1 | .bool => 1 | .str => 1 | .slc _ => 1
  | .pair a b => a.size + b.size
  | .unit => 0

def Ty.dflt : (t : Ty) → t.El
  | .int _ => (0 : Int)
  | .bool => false
  | .str => (⟨#[]⟩ : ByteArray)
  | .slc _ => []
  | .pair a b => (a.dflt, b.dflt)
  | .unit => ()

def ikb : IntKind → IntKind → Bool
  | .i8, .i8 => true | .i16, .i16 => true | .i32, .i32 => true | .i64, .i64 => true
  | .u8, .u8 => true | .u16, .u16 => true | .u32, .u32 => true | .u64, .u64 => true
  | _, _ => false
theorem ikb_eq {a b : IntKind} (h : ikb a b = true) : a = b := by
  cases a <;> cases b <;> first | rfl | cases h

def Ty.beq : Ty → Ty → Bool
  | .int k, .int k' => ikb k k'
  | .bool, .bool => true
  | .str, .str => true
  | .slc t, .slc t' => Ty.beq t t'
  | .pair a b, .pair a' b' => Ty.beq a a' && Ty.beq b b'
  | .unit, .unit => true
  | _, _ => false
theorem Ty.eq_of_beq : ∀ {a b : Ty}, Ty.beq a b = true → a = b := by
  intro a
  induction a with
  | int k => intro b h; cases b <;> first | (rw [ikb_eq h]) | cases h
  | bool => intro b h; cases b <;> first | rfl | cases h
  | str => intro b h; cases b <;> first | rfl | cases h
  | slc t ih =>
    intro b h
    cases b with
    | slc t' => rw [ih (b := t') h]
    | _ => cases h
  | pair x y ihx ihy =>
    intro b h
    cases b with
    | pair x' y' =>
      simp only [Ty.beq, Bool.and_eq_true] at h
      rw [ihx h.1, ihy h.2]
    | _ => cases h
  | unit => intro b h; cases b <;> first | rfl | cases h

def castL (t t' : Ty) (xs : List t.El) : Option (List t'.El) :=
  if h : Ty.beq t t' = true then some (Ty.eq_of_beq h ▸ xs) else none

/-! ### Data -/
inductive D where
  | int (k : IntKind) (n : Int)
  | bool (b : Bool)
  | str (s : ByteArray)
  | slc (f : Bool) (t : Ty) (xs : List t.El)
  | agg (cs : List D)
  | iface (t : TypeId) (d : D)
  | rptr (cs : List D)
  | clo (f : FuncId) (cs : List D)
  | val (v : Value)
  | top

def D.cells : D → List D
  | .agg cs => cs
  | d => [d]

def Ty.cells : (t : Ty) → t.El → List D
  | .int k, n => [.int k n]
  | .bool, b => [.bool b]
  | .str, s => [.str s]
  | .slc t, xs => [.slc false t xs]
  | .pair a b, x => a.cells x.1 ++ b.cells x.2
  | .unit, _ => []

def Ty.toD : (t : Ty) → t.El → D
  | .int k, n => .int k n
  | .bool, b => .bool b
  | .str, s => .str s
  | .slc t, xs => .slc false t xs
  | .pair a b, x => .agg (a.cells x.1 ++ b.cells x.2)
  | .unit, _ => .agg []

def Ty.ofCells : (t : Ty) → List D → Option (t.El × List D)
  | .int k, .int k' n :: r => bif ikb k k' then some (n, r) else none
  | .bool, .bool b :: r => some (b, r)
  | .str, .str s :: r => some (s, r)
  | .slc t, .slc _ t' xs :: r => match castL t' t xs with | some ys => some (ys, r) | none => none
  | .slc _, .val (.slice none 0 0) :: r => some ([], r)
  | .pair a b, cs => match a.ofCells cs with
    | some (x, r) => match b.ofCells r with
      | some (y, r') => some ((x, y), r')
      | none => none
    | none => none
  | .unit, cs => some ((), cs)
  | _, _ => none

def Ty.isAgg : Ty → Bool
  | .pair _ _ => true
  | .unit => true
  | _ => false
def fin {α : Type} : Option (α × List D) → Option α
  | some (x, []) => some x
  | _ => none
def Ty.ofD (t : Ty) (d : D) : Option t.El :=
  bif t.isAgg then (match d with
    | .agg cs => fin (t.ofCells cs)
    | _ => none) else fin (t.ofCells [d])

/-! ### How data lie in a world: reading outside of the set O of blocks -/
def Rd (w : World) (O : Nat → Prop) (a : Addr) (u : Value) : Prop := ¬ O a.block ∧ w.cell? a = some u

def ERep (w : World) (O : Nat → Prop) : (t : Ty) → t.El → (Nat → Value → Prop) → Nat → Prop
  | .int k, n, f, i => f i (.int k n)
  | .bool, b, f, i => f i (.bool b)
  | .str, s, f, i => f i (.string s)
  | .slc t, xs, f, i => ∃ a c, f i (.slice a xs.length c) ∧ xs.length ≤ c ∧
      (0 < xs.length → ∃ ad, a = some ad ∧ ∀ j (h : j < xs.length), ERep w O t xs[j] (fun i u => Rd w O (ad.add i) u) (j * t.size))
  | .pair a b, x, f, i => ERep w O a x.1 f i ∧ ERep w O b x.2 f (i + a.size)
  | .unit, _, _, _ => True

def SRep (w : World) (O : Nat → Prop) (t : Ty) (xs : List t.El) (v : Value) : Prop :=
  ∃ a c, v = .slice a xs.length c ∧ xs.length ≤ c ∧
      (0 < xs.length → ∃ ad, a = some ad ∧ ∀ j (h : j < xs.length), ERep w O t xs[j] (fun i u => Rd w O (ad.add i) u) (j * t.size))

mutual
def VRep (w : World) (O : Nat → Prop) : D → Value → Prop
  | .int k n, v => v = .int k n
  | .bool b, v => v = .bool b
  | .str s, v => v = .string s
  | .slc f t xs, v => SRep w O t xs v ∧ (f = true → ∃ a n, v = .slice a n n)
  | .agg cs, v => ∃ vs : Array Value, v = .agg vs ∧ LRep w O cs vs.toList
  | .iface t d, v => ∃ u, v = .iface t u ∧ VRep w O d u
  | .rptr cs, v => ∃ ad, v = .pointer (some ad) ∧ PRep w O cs ad 0
  | .clo f cs, v => ∃ vs : Array Value, v = .func (.func f) #[] vs ∧ LRep w O cs vs.toList
  | .val u, v => v = u
  | .top, _ => True
def LRep (w : World) (O : Nat → Prop) : List D → List Value → Prop
  | [], vs => vs = []
  | d :: ds, vs => ∃ u us, vs = u :: us ∧ VRep w O d u ∧ LRep w O ds us
def PRep (w : World) (O : Nat → Prop) : List D → Addr → Nat → Prop
  | [], _, _ => True
  | d :: ds, ad, i => (∃ u, Rd w O (ad.add i) u ∧ VRep w O d u) ∧ PRep w O ds ad (i + 1)
end

/-! ### What stays when the world moves on -/
/-- From w to w' all that can be read outside of O stays, and is outside of O'. -/
structure Keeps (w : World) (O : Nat → Prop) (w' : World) (O' : Nat → Prop) : Prop where
  same : ∀ b, b < w.heap.size → ¬ O b → w'.heap[b]? = w.heap[b]?
  out : ∀ b, b < w.heap.size → ¬ O b → ¬ O' b

theorem cell_lt {w : World} {a : Addr} {u : Value} (h : w.cell? a = some u) : a.block < w.heap.size := by
  unfold World.cell? at h
  rcases Nat.lt_or_ge a.block w.heap.size with h' | h'
  · exact h'
  · simp [Array.getElem?_eq_none h'] at h

theorem Rd.keeps {w w' : World} {O O' : Nat → Prop} {a : Addr} {u : Value} (k : Keeps w O w' O') (h : Rd w O a u) : Rd w' O' a u := by
  have hl := cell_lt h.2
  refine ⟨k.out _ hl h.1, ?_⟩
  have := k.same _ hl h.1
  have h2 := h.2
  unfold World.cell? at h2 ⊢
  rw [this]; exact h2

theorem ERep.imp {w : World} {O : Nat → Prop} {w' : World} {O' : Nat → Prop} (k : Keeps w O w' O') : ∀ (t : Ty) (x : t.El) (f g : Nat → Value → Prop) (i i' : Nat),
    (∀ j u, j < t.size → f (i + j) u → g (i' + j) u) → ERep w O t x f i → ERep w' O' t x g i'
  | .int _, _, f, g, i, i', hg, h => by have := hg 0 _ (by simp [Ty.size]) (by simpa [ERep] using h); simpa [ERep] using this
  | .bool, _, f, g, i, i', hg, h => by have := hg 0 _ (by simp [Ty.size]) (by simpa [ERep] using h); simpa [ERep] using this
  | .str, _, f, g, i, i', hg, h => by have := hg 0 _ (by simp [Ty.size]) (by simpa [ERep] using h); simpa [ERep] using this
  | .slc t, xs, f, g, i, i', hg, h => by
    obtain ⟨a, c, h1, h2, h3⟩ := h
    refine ⟨a, c, by simpa using hg 0 _ (by simp [Ty.size]) (by simpa using h1), h2, fun h0 => ?_⟩
    obtain ⟨ad, ha, h4⟩ := h3 h0
    exact ⟨ad, ha, fun j hj => ERep.imp k t _ _ _ _ _ (fun j u _ hu => hu.keeps k) (h4 j hj)⟩
  | .pair a b, x, f, g, i, i', hg, h => by
    refine ⟨ERep.imp k a x.1 f g i i' (fun j u hj hu => hg j u (by simp [Ty.size]; omega) hu) h.1, ?_⟩
    refine ERep.imp k b x.2 f g (i + a.size) (i' + a.size) (fun j u hj hu => ?_) h.2
    have := hg (a.size + j) u (by simp [Ty.size]; omega) (by rw [← Nat.add_assoc]; exact hu)
    rw [← Nat.add_assoc] at this; exact this
  | .unit, _, _, _, _, _, _, _ => trivial

theorem Keeps.refl (w : World) (O : Nat → Prop) : Keeps w O w O := ⟨fun _ _ _ => rfl, fun _ _ h => h⟩

theorem SRep.keeps {w w' : World} {O O' : Nat → Prop} (k : Keeps w O w' O') {t : Ty} {xs : List t.El} {v : Value} (h : SRep w O t xs v) : SRep w' O' t xs v := by
  obtain ⟨a, c, h1, h2, h3⟩ := h
  refine ⟨a, c, h1, h2, fun h0 => ?_⟩
  obtain ⟨ad, ha, h4⟩ := h3 h0
  exact ⟨ad, ha, fun j hj => ERep.imp k t _ _ _ _ _ (fun j u _ hu => hu.keeps k) (h4 j hj)⟩

mutual
theorem VRep.keeps {w w' : World} {O O' : Nat → Prop} (k : Keeps w O w' O') : ∀ (d : D) (v : Value), VRep w O d v → VRep w' O' d v
  | .int _ _, _, h => h
  | .bool _, _, h => h
  | .str _, _, h => h
  | .slc _ _ _, _, h => ⟨h.1.keeps k, h.2⟩
  | .agg cs, _, ⟨vs, h1, h2⟩ => ⟨vs, h1, LRep.keeps k cs _ h2⟩
  | .iface _ d, _, ⟨u, h1, h2⟩ => ⟨u, h1, VRep.keeps k d _ h2⟩
  | .rptr cs, _, ⟨ad, h1, h2⟩ => ⟨ad, h1, PRep.keeps k cs _ _ h2⟩
  | .clo _ cs, _, ⟨vs, h1, h2⟩ => ⟨vs, h1, LRep.keeps k cs _ h2⟩
  | .val _, _, h => h
  | .top, _, h => h
theorem LRep.keeps {w w' : World} {O O' : Nat → Prop} (k : Keeps w O w' O') : ∀ (ds : List D) (vs : List Value), LRep w O ds vs → LRep w' O' ds vs
  | [], _, h => h
  | d :: ds, _, ⟨u, us, h1, h2, h3⟩ => ⟨u, us, h1, VRep.keeps k d _ h2, LRep.keeps k ds _ h3⟩
theorem PRep.keeps {w w' : World} {O O' : Nat → Prop} (k : Keeps w O w' O') : ∀ (ds : List D) (ad : Addr) (i : Nat), PRep w O ds ad i → PRep w' O' ds ad i
  | [], _, _, _ => trivial
  | d :: ds, ad, i, ⟨⟨u, h1, h2⟩, h3⟩ => ⟨⟨u, h1.keeps k, VRep.keeps k d _ h2⟩, PRep.keeps k ds ad _ h3⟩
end

theorem LRep.length {w : World} {O : Nat → Prop} : ∀ {ds : List D} {vs : List Value}, LRep w O ds vs → vs.length = ds.length
  | [], _, h => by cases h; rfl
  | _ :: _, _, ⟨_, _, h1, _, h3⟩ => by subst h1; simp [LRep.length h3]

theorem LRep.append {w : World} {O : Nat → Prop} : ∀ {ds es : List D} {vs us : List Value}, LRep w O ds vs → LRep w O es us → LRep w O (ds ++ es) (vs ++ us)
  | [], _, _, _, h, k => by cases h; exact k
  | d :: ds, es, _, us, ⟨u, vs', h1, h2, h3⟩, k => by subst h1; exact ⟨u, vs' ++ us, rfl, h2, LRep.append h3 k⟩

theorem LRep.split {w : World} {O : Nat → Prop} : ∀ {ds es : List D} {vs : List Value}, LRep w O (ds ++ es) vs → ∃ us ws, vs = us ++ ws ∧ LRep w O ds us ∧ LRep w O es ws
  | [], _, vs, h => ⟨[], vs, rfl, rfl, h⟩
  | d :: ds, es, _, ⟨u, us, h1, h2, h3⟩ => by
    obtain ⟨a, b, e, h4, h5⟩ := LRep.split h3
    subst h1 e
    exact ⟨u :: a, b, rfl, ⟨u, a, rfl, h2, h4⟩, h5⟩

theorem LRep.get {w : World} {O : Nat → Prop} : ∀ {ds : List D} {vs : List Value} {i : Nat} {d : D}, LRep w O ds vs → ds[i]? = some d → ∃ u, vs[i]? = some u ∧ VRep w O d u
  | [], _, i, d, _, h => by simp at h
  | d :: ds, _, 0, d', ⟨u, us, h1, h2, h3⟩, h => by subst h1; simp at h; subst h; exact ⟨u, rfl, h2⟩
  | d :: ds, _, i + 1, d', ⟨u, us, h1, h2, h3⟩, h => by subst h1; simp at h; simpa using LRep.get h3 h

theorem LRep.drop {w : World} {O : Nat → Prop} : ∀ {ds : List D} {vs : List Value} (n : Nat), LRep w O ds vs → LRep w O (ds.drop n) (vs.drop n)
  | _, _, 0, h => by simpa using h
  | [], _, n + 1, h => by cases h; rfl
  | d :: ds, _, n + 1, ⟨u, us, h1, h2, h3⟩ => by subst h1; simpa using LRep.drop n h3

theorem LRep.take {w : World} {O : Nat → Prop} : ∀ {ds : List D} {vs : List Value} (n : Nat), LRep w O ds vs → LRep w O (ds.take n) (vs.take n)
  | _, _, 0, h => by simp [LRep]
  | [], _, n + 1, h => by cases h; rfl
  | d :: ds, _, n + 1, ⟨u, us, h1, h2, h3⟩ => by subst h1; exact ⟨u, us.take n, rfl, h2, LRep.take n h3⟩

theorem LRep.set {w : World} {O : Nat → Prop} : ∀ {ds : List D} {vs : List Value} (n : Nat) {d : D} {u : Value}, LRep w O ds vs → VRep w O d u → LRep w O (ds.set n d) (vs.set n u)
  | [], _, n, _, _, h, _ => by cases h; simp [LRep]
  | d :: ds, _, 0, _, _, ⟨u, us, h1, h2, h3⟩, hv => by subst h1; exact ⟨_, us, rfl, hv, h3⟩
  | d :: ds, _, n + 1, _, _, ⟨u, us, h1, h2, h3⟩, hv => by subst h1; exact ⟨u, us.set n _, rfl, h2, LRep.set n h3 hv⟩

/-! ### Elements as lists of cells -/
/-- The values of a list, as a place to read from. -/
def lat (vs : List Value) (i : Nat) (u : Value) : Prop := vs[i]? = some u

theorem castL_spec {t t' : Ty} {xs : List t.El} {ys : List t'.El} (h : castL t t' xs = some ys) : ∃ e : t = t', ys = e ▸ xs := by
  unfold castL at h
  split at h
  · rename_i hb; exact ⟨Ty.eq_of_beq hb, by injection h with h; exact h.symm⟩
  · cases h

theorem castL_self (t : Ty) (xs : List t.El) : castL t t xs = some xs := by
  have : Ty.beq t t = true := by
    induction t with
    | int k => cases k <;> rfl
    | bool => rfl
    | str => rfl
    | slc t ih => exact ih []
    | pair a b iha ihb => simp [Ty.beq, iha [], ihb []]
    | unit => rfl
  unfold castL
  rw [dif_pos this]

end Fw
