/- The small abstract machine: what each operation does to abstract values. -/
import Derived.Test.YtfhlgbgclkahnaaFwA
set_option linter.unusedVariables false
set_option linter.unusedSimpArgs false
namespace Fw
open Go

/-! ### The table of types -/
inductive TD where
  | int (k : IntKind) | bool | str | slice (e : Nat) | ptr (e : Nat) | struct (fs : List (Nat × Nat)) | array (n e : Nat) | iface | map (k e : Nat) | func | other

structure TInf where
  size : Nat
  bytes : Nat
  desc : TD
  zero : List D

def TD.agg : TD → Bool
  | .struct _ => true
  | .array _ _ => true
  | _ => false

def tdOf : TypeDesc → TD
  | .int k => .int k
  | .bool => .bool
  | .string => .str
  | .slice e => .slice e
  | .pointer e => .ptr e
  | .struct fs => .struct (fs.toList.map fun f => (f.offset, f.type))
  | .array n e => .array n e
  | .interface _ => .iface
  | .map k e => .map k e
  | .func .. => .func
  | _ => .other

def constD0 : Value → D
  | .int k n => .int k n
  | .bool b => .bool b
  | .string s => .str s
  | v => .val v
def constD : Value → D
  | .agg cs => .agg (cs.toList.map constD0)
  | v => constD0 v
/-- Data whose value is known not to be an aggregate, or to be one that is told. -/
def D.solid : D → Bool
  | .top => false
  | .val (.agg _) => false
  | _ => true

def mkTI (P : Program) (t : Nat) : Option TInf :=
  match P.info? t with
  | some i => match P.underlying t with
    | some d => match i.zero with
      | some z => bif Nat.beq z.cells.size i.size then some ⟨i.size, i.bytes, tdOf d, z.cells.toList.map constD0⟩ else none
      | none => none
    | none => none
  | none => none

/-- Data that are one cell. -/
def D.one : D → Bool
  | .agg _ => false
  | .top => false
  | .val (.agg _) => false
  | .val (.tuple _) => false
  | _ => true

/-! ### Contracts -/
inductive Ar where
  | ty (t : Ty) | raw
@[reducible] def Ar.El : Ar → Type
  | .ty t => t.El
  | .raw => D
@[reducible] def Ars : List Ar → Type
  | [] => Unit
  | a :: l => a.El × Ars l
def Ar.dec : (a : Ar) → D → Option a.El
  | .ty t, d => t.ofD d
  | .raw, d => some d
def Ar.enc : (a : Ar) → a.El → D
  | .ty t, x => t.toD x
  | .raw, d => d
def decs : (l : List Ar) → List D → Option (Ars l)
  | [], [] => some ()
  | a :: l, d :: ds => match a.dec d with
    | some x => match decs l ds with
      | some xs => some (x, xs)
      | none => none
    | none => none
  | _, _ => none
def encs : (l : List Ar) → Ars l → List D
  | [], _ => []
  | a :: l, x => a.enc x.1 :: encs l x.2
def Ar.scalar : Ar → Bool
  | .ty (.int _) => true
  | .ty .bool => true
  | .ty .str => true
  | _ => false

structure Con where
  args : List Ar
  res : List Ar
  pre : Ars args → Prop
  post : Ars args → Ars res
  fresh : Option Nat := none      -- the one result is a new row of this element type, of nobody else's

/-! ### States -/
inductive AV where
  | d (x : D)
  | own (id : Nat)
  | ptr (id off : Nat)
  | eptr (id : Nat) (sz : Nat) (i : Int) (off : Nat)
  | clo (f : FuncId) (caps : List (D ⊕ (Nat × Nat)))
  | tup (l : List D)

inductive Obj where
  | row (e : Nat) (t : Ty) (xs : List t.El)
  | box (cs : List D)

structure AState where
  env : Nat → AV
  heap : Nat → Option Obj

def upd {α : Type} (f : Nat → α) (d : Nat) (v : α) : Nat → α := fun t => bif Nat.beq t d then v else f t
def AState.put (A : AState) (d : Option Nat) (v : AV) : AState :=
  match d with
  | some d => { A with env := upd A.env d v }
  | none => A
def aundef : AV := .d (.val (.tuple #[]))
def AState.ev (A : AState) : Operand → AV
  | .tmp t => A.env t
  | .const v => .d (constD v)
  | .global g => .d (.val (.pointer (some ⟨g, 0, none⟩)))
  | .func f => .d (.clo f [])

structure Ctx where
  tt : List (Nat × TInf)
  fs : List (Nat × Con)
  invs : List (String × Con)
  cv : Option Con

def look {α : Type} : List (Nat × α) → Nat → Option α
  | [], _ => none
  | (m, x) :: l, n => bif Nat.beq m n then some x else look l n
def looks {α : Type} : List (String × α) → String → Option α
  | [], _ => none
  | (m, x) :: l, n => match instDecidableEqString m n with
    | .isTrue _ => some x
    | .isFalse _ => looks l n

/-- One way or the other. -/
def Br (b : Bool) (X Y : Prop) : Prop := match b with
  | true => X
  | false => Y

abbrev Env := Operand → AV
abbrev Hp := Nat → Option Obj

def capD (h : Hp) : (D ⊕ (Nat × Nat)) → Option D
  | .inl d => some d
  | .inr (id, off) => match h id with
    | some (.box cs) => some (.rptr (cs.drop off))
    | _ => none
def optAll {α : Type} : List (Option α) → Option (List α)
  | [] => some []
  | some x :: l => match optAll l with
    | some xs => some (x :: xs)
    | none => none
  | none :: _ => none
/-- How a value is seen by whoever only reads. -/
def viewD (h : Hp) : AV → Option D
  | .d x => some x
  | .own id => match h id with
    | some (.row _ t xs) => some (.slc false t xs)
    | _ => none
  | .ptr id off => match h id with
    | some (.box cs) => some (.rptr (cs.drop off))
    | _ => none
  | .clo f caps => match optAll (caps.map (capD h)) with
    | some cs => some (.clo f cs)
    | none => none
  | _ => none
def AV.isD : AV → Bool
  | .d _ => true
  | _ => false

def resAV : List D → AV
  | [d] => .d d
  | ds => .tup ds

def qcon (C : Con) (h : Hp) (args : List AV) (k : AV → Prop) : Prop :=
  match optAll (args.map (viewD h)) with
  | some ds => match decs C.args ds with
    | some x => bif (args.all AV.isD || C.res.all Ar.scalar) then C.pre x ∧ k (resAV (encs C.res (C.post x))) else False
    | none => False
  | none => False

/-! ### Integers -/
def bitsv (op : BinOp) (k : IntKind) (x y : Int) : Int :=
  let a := BitVec.ofInt k.bits x
  let b := BitVec.ofInt k.bits y
  match op with
  | .and => k.wrap (a &&& b).toNat
  | .or => k.wrap (a ||| b).toNat
  | .xor => k.wrap (a ^^^ b).toNat
  | _ => k.wrap (a &&& ~~~b).toNat

def qint (op : BinOp) (kd : IntKind) (x y : Int) (k : D → Prop) : Prop :=
  match op with
  | .add => k (.int kd (kd.wrap (x + y)))
  | .sub => k (.int kd (kd.wrap (x - y)))
  | .mul => k (.int kd (kd.wrap (x * y)))
  | .quo => y ≠ 0 ∧ k (.int kd (kd.wrap (x.tdiv y)))
  | .rem => y ≠ 0 ∧ k (.int kd (x.tmod y))
  | .and => k (.int kd (bitsv .and kd x y))
  | .or => k (.int kd (bitsv .or kd x y))
  | .xor => k (.int kd (bitsv .xor kd x y))
  | .andNot => k (.int kd (bitsv .andNot kd x y))
  | .shl => 0 ≤ y ∧ k (.int kd (kd.wrap (x * 2 ^ (min y.toNat kd.bits))))
  | .shr => 0 ≤ y ∧ k (.int kd (x.fdiv (2 ^ (min y.toNat kd.bits))))
  | .eql => k (.bool (x == y))
  | .neq => k (.bool (x != y))
  | .lss => k (.bool (decide (x < y)))
  | .leq => k (.bool (decide (x ≤ y)))
  | .gtr => k (.bool (decide (x > y)))
  | .geq => k (.bool (decide (x ≥ y)))
def isShift : BinOp → Bool
  | .shl => true
  | .shr => true
  | _ => false
/-- Is it nil? of values that are compared with nil. -/
def nilOf : AV → Option Bool
  | .own _ => none
  | .ptr _ _ => some false
  | .eptr .. => some false
  | .clo _ _ => some false
  | .tup _ => none
  | .d (.rptr _) => some false
  | .d (.iface _ _) => some false
  | .d (.clo _ _) => some false
  | .d (.val (.pointer none)) => some true
  | .d (.val .nilIface) => some true
  | .d (.val .nilFunc) => some true
  | .d (.val (.slice none 0 0)) => some true
  | .d (.val (.map none)) => some true
  | _ => none
/-- A comparison with nil. -/
def eqNil : TD → AV → AV → Option Bool
  | .ptr _, x, .d (.val (.pointer none)) => (match x with
    | .ptr _ _ => some false
    | .eptr .. => some false
    | .d (.rptr _) => some false
    | .d (.val (.pointer none)) => some true
    | _ => none)
  | .iface, .d (.iface _ _), .d (.val .nilIface) => some false
  | .func, x, .d (.val .nilFunc) => (match x with
    | .clo _ _ => some false
    | .d (.clo _ _) => some false
    | .d (.val .nilFunc) => some true
    | _ => none)
  | .slice _, .d (.val (.slice none 0 0)), .d (.val (.slice none 0 0)) => some true
  | _, _, _ => none

def qbin (T : Ctx) (op : BinOp) (t : Nat) (x y : AV) (k : AV → Prop) : Prop :=
  match x, y with
  | .d (.int kd a), .d (.int kd' b) => bif (isShift op || ikb kd kd') then qint op kd a b (fun d => k (.d d)) else False
  | .d (.str a), .d (.str b) => (match op with
    | .add => ((a.size + b.size : Nat) : Int) ≤ 9223372036854775807 ∧ k (.d (.str (a ++ b)))
    | .eql => k (.d (.bool (a.toList == b.toList)))
    | .neq => k (.d (.bool (!(a.toList == b.toList))))
    | _ => False)
  | x, y => (match look T.tt t with
    | some i => (match i.desc, x, y with
      | .bool, .d (.bool a), .d (.bool b) => (match op with
        | .eql => k (.d (.bool (a == b)))
        | .neq => k (.d (.bool (!(a == b))))
        | _ => False)
      | dsc, x, y => (match eqNil dsc x y, op with
        | some b, .eql => k (.d (.bool b))
        | some b, .neq => k (.d (.bool (!b)))
        | _, _ => False))
    | none => False)

def qpick (c a b : AV) (k : AV → Prop) : Prop :=
  match c with
  | .d (.bool c) => (match a, b with
    | .d (.bool x), .d (.bool y) => k (.d (.bool (cond c x y)))
    | a, b => Br c (k a) (k b))
  | _ => False

/-! ### Memory that is read -/
def cellsAt (i : TInf) (cs : List D) (k : AV → Prop) : Prop :=
  bif i.desc.agg then (bif Nat.ble i.size cs.length then k (.d (.agg (cs.take i.size))) else False)
  else (match cs with
    | c :: _ => k (.d c)
    | [] => False)

def rd (t : Ty) (xs : List t.El) (i : Int) : t.El := xs.getD i.toNat t.dflt

def qload (T : Ctx) (t : Nat) (a : AV) (h : Hp) (k : AV → Prop) : Prop :=
  match look T.tt t with
  | some i => (match a with
    | .d (.rptr cs) => cellsAt i cs k
    | .ptr id off => (match h id with
      | some (.box cs) => cellsAt i (cs.drop off) k
      | _ => False)
    | .eptr id sz ix off => (match h id with
      | some (.row _ t' xs) => bif Nat.beq sz t'.size then 0 ≤ ix ∧ ix < xs.length ∧ cellsAt i ((t'.cells (rd t' xs ix)).drop off) k else False
      | _ => False)
    | _ => False)
  | none => False

def qnil (x : AV) (k : AV → Prop) : Prop :=
  match nilOf x with
  | some false => k x
  | _ => False

def sliceE (T : Ctx) (t : Nat) : Option (Nat × TInf) :=
  match look T.tt t with
  | some i => (match i.desc with
    | .slice e => (match look T.tt e with
      | some ie => some (e, ie)
      | none => none)
    | _ => none)
  | none => none

/-- An array's place, whichever it is. -/
def arrBr : Nat → Nat → Int → (Nat → Prop) → Prop
  | 0, _, _, _ => False
  | n + 1, j, i, f => Br (decide (i = (j : Int))) (f j) (arrBr n (j + 1) i f)
def arrayE (T : Ctx) (t : Nat) : Option (Nat × Nat × TInf) :=
  match look T.tt t with
  | some i => (match i.desc with
    | .array n e => (match look T.tt e with
      | some ie => some (n, e, ie)
      | none => none)
    | _ => none)
  | none => none

def qindexAddr (T : Ctx) (t : Nat) (x ix : AV) (h : Hp) (k : AV → Prop) : Prop :=
  match ix with
  | .d (.int _ i) => (match sliceE T t with
    | some (e, ie) => (match x with
      | .own id => (match h id with
        | some (.row _ t' xs) => bif Nat.beq ie.size t'.size then 0 ≤ i ∧ i < xs.length ∧ k (.eptr id t'.size i 0) else False
        | _ => False)
      | .d (.slc _ t' xs) => bif Nat.beq ie.size t'.size then 0 ≤ i ∧ i < xs.length ∧ k (.d (.rptr (t'.cells (rd t' xs i)))) else False
      | _ => False)
    | none => (match arrayE T t with
      | some (n, _, ie) => (match x with
        | .ptr id off => arrBr n 0 i (fun j => k (.ptr id (off + j * ie.size)))
        | .d (.rptr cs) => arrBr n 0 i (fun j => k (.d (.rptr (cs.drop (j * ie.size)))))
        | _ => False)
      | none => False))
  | _ => False

def bt (s : ByteArray) (i : Int) : Int := if h : i.toNat < s.size then ((s[i.toNat]'h).toNat : Int) else 0

def qindex (T : Ctx) (t : Nat) (x ix : AV) (k : AV → Prop) : Prop :=
  match ix with
  | .d (.int _ i) => (match look T.tt t with
    | some inf => (match inf.desc, x with
      | .str, .d (.str s) => 0 ≤ i ∧ i < s.size ∧ k (.d (.int .u8 (bt s i)))
      | _, _ => False)
    | none => False)
  | _ => False

def structF (T : Ctx) (s f : Nat) : Option (Nat × TInf) :=
  match look T.tt s with
  | some i => (match i.desc with
    | .struct fs => (match fs[f]? with
      | some (off, ft) => (match look T.tt ft with
        | some fi => bif Nat.blt 0 fi.size then some (off, fi) else none
        | none => none)
      | none => none)
    | _ => none)
  | none => none

def qfieldAddr (T : Ctx) (s : Nat) (x : AV) (f : Nat) (k : AV → Prop) : Prop :=
  match structF T s f with
  | some (off, _) => (match x with
    | .d (.rptr cs) => k (.d (.rptr (cs.drop off)))
    | .ptr id o => k (.ptr id (o + off))
    | .eptr id sz i o => k (.eptr id sz i (o + off))
    | _ => False)
  | none => False

def qfield (T : Ctx) (s : Nat) (x : AV) (f : Nat) (k : AV → Prop) : Prop :=
  match structF T s f with
  | some (off, fi) => (match x with
    | .d (.agg cs) => cellsAt fi (cs.drop off) k
    | _ => False)
  | none => False

def cutOf (lo hi : Option AV) (n : Int) (k : Int → Int → Prop) : Prop :=
  match lo, hi with
  | none, none => k 0 n
  | some (.d (.int _ l)), none => 0 ≤ l ∧ l ≤ n ∧ k l n
  | none, some (.d (.int _ h)) => 0 ≤ h ∧ h ≤ n ∧ k 0 h
  | some (.d (.int _ l)), some (.d (.int _ h)) => 0 ≤ l ∧ l ≤ h ∧ h ≤ n ∧ k l h
  | _, _ => False

def cutOf3 (lo hi : Option AV) (n : Int) (k : Int → Int → Prop) : Prop :=
  match lo, hi with
  | none, some (.d (.int _ h)) => 0 ≤ h ∧ h ≤ n ∧ k 0 h
  | some (.d (.int _ l)), some (.d (.int _ h)) => 0 ≤ l ∧ l ≤ h ∧ h ≤ n ∧ k l h
  | _, _ => False

def sub {α : Type} (xs : List α) (l h : Int) : List α := (xs.take h.toNat).drop l.toNat

def qslice (T : Ctx) (t : Nat) (x : AV) (lo hi mx : Option AV) (k : AV → Prop) : Prop :=
  match look T.tt t with
  | some inf => (match inf.desc, x with
    | .str, .d (.str s) => (match mx with
      | none => cutOf lo hi s.size (fun l h => k (.d (.str (s.extract l.toNat h.toNat))))
      | some _ => False)
    | .slice e, .d (.slc f t' xs) => (match look T.tt e with
      | some ie => bif Nat.beq ie.size t'.size then (match mx with
        | none => cutOf lo hi xs.length (fun l h => k (.d (.slc false t' (sub xs l h))))
        | some (.d (.int _ m)) => cutOf3 lo hi xs.length (fun l h => m = h ∧ k (.d (.slc true t' (sub xs l h))))
        | some _ => False) else False
      | none => False)
    | _, _ => False)
  | none => False

/-! ### Literals -/
def sizesF (tt : List (Nat × TInf)) : List (Nat × Nat) → Option (List (Nat × Nat))
  | [] => some []
  | (off, ft) :: l => (match look tt ft, sizesF tt l with
    | some i, some r => some ((off, i.size) :: r)
    | _, _ => none)
/-- New cells over those that were there. -/
def overD : List D → List D → List D
  | [], cs => cs
  | x :: new, [] => x :: overD new []
  | x :: new, _ :: cs => x :: overD new cs
def splice : List D → Nat → List D → List D
  | cs, 0, new => overD new cs
  | [], _ + 1, new => new
  | c :: cs, n + 1, new => c :: splice cs n new
theorem overD_eq : ∀ (new cs : List D), overD new cs = new ++ cs.drop new.length
  | [], cs => by simp [overD]
  | x :: new, [] => by simp [overD, overD_eq new []]
  | x :: new, _ :: cs => by simp [overD, overD_eq new cs]
theorem splice_eq : ∀ (cs : List D) (off : Nat) (new : List D), splice cs off new = cs.take off ++ new ++ cs.drop (off + new.length)
  | cs, 0, new => by cases cs <;> simp [splice, overD_eq]
  | [], _ + 1, new => by simp [splice]
  | c :: cs, n + 1, new => by
    rw [splice, splice_eq cs n new]
    simp [Nat.add_right_comm]
def fillD (pl : List (Nat × Nat)) (cs : List D) : List (Nat × D) → Option (List D)
  | [] => some cs
  | (i, d) :: rest => match pl[i]? with
    | some (off, sz) => bif (d.solid && Nat.beq d.cells.length sz && Nat.ble (off + d.cells.length) cs.length) then fillD pl (splice cs off d.cells) rest else none
    | none => none

def partsD : List (Nat × AV) → Option (List (Nat × D))
  | [] => some []
  | (i, .d x) :: l => (match partsD l with
    | some ds => some ((i, x) :: ds)
    | none => none)
  | _ :: _ => none

def qbuild (T : Ctx) (t : Nat) (parts : List (Nat × AV)) (k : AV → Prop) : Prop :=
  match look T.tt t with
  | some i => (match i.desc with
    | .struct fs => (match partsD parts with
      | some ds => (match sizesF T.tt fs with
        | some pl => (match fillD pl i.zero ds with
          | some cs => k (.d (.agg cs))
          | none => False)
        | none => False)
      | none => False)
    | .array n e => (match partsD parts with
      | some ds => (match look T.tt e with
        | some ie => (match fillD ((List.range n).map fun j => (j * ie.size, ie.size)) i.zero ds with
          | some cs => k (.d (.agg cs))
          | none => False)
        | none => False)
      | none => False)
    | _ => False)
  | none => False

def fillE (t : Ty) (xs : List t.El) : List (Nat × D) → Option (List t.El)
  | [] => some xs
  | (i, d) :: rest => match t.ofD d with
    | some x => bif Nat.blt i xs.length then fillE t (xs.set i x) rest else none
    | none => none

/-- The type of data that a Go type is told as. -/
def tyOf (tt : List (Nat × TInf)) : Nat → Nat → Ty
  | 0, _ => .unit
  | n + 1, t => match look tt t with
    | some i => (match i.desc with
      | .int k => .int k
      | .bool => .bool
      | .str => .str
      | .slice e => .slc (tyOf tt n e)
      | .struct fs => fs.foldr (fun f r => .pair (tyOf tt n f.2) r) .unit
      | _ => .unit)
    | none => .unit

def qbs (ty : Ty) (ie : TInf) (len : Nat) (parts : List (Nat × AV)) (k : AV → Prop) : Prop :=
  match ty.ofCells ie.zero with
  | some (z, []) => bif (Nat.beq ie.size ty.size && Nat.blt 0 (len * ie.size) && Nat.ble (len * ie.size) 1000000) then (match partsD parts with
    | some ds => (match fillE ty (List.replicate len z) ds with
      | some xs => k (.d (.slc true ty xs))
      | none => False)
    | none => False) else False
  | _ => False
def qbuildSlice (T : Ctx) (t : Nat) (len : Nat) (parts : List (Nat × AV)) (k : AV → Prop) : Prop :=
  match sliceE T t with
  | some (e, ie) => qbs (tyOf T.tt 6 e) ie len parts k
  | none => False

def qmakeFunc (fn : Fn) (first : List AV) (caps : List AV) (k : AV → Prop) : Prop :=
  match fn, first with
  | .func f, [] => (match optAll (caps.map capOf) with
    | some cs => k (pack f cs)
    | none => False)
  | _, _ => False
where
  capOf : AV → Option (D ⊕ (Nat × Nat))
    | .d x => some (.inl x)
    | .ptr id off => some (.inr (id, off))
    | _ => none
  pack (f : FuncId) (cs : List (D ⊕ (Nat × Nat))) : AV :=
    match optAll (cs.map fun | .inl d => some d | .inr _ => none) with
    | some ds => .d (.clo f ds)
    | none => .clo f cs

def qun (op : UnOp) (x : AV) (k : AV → Prop) : Prop :=
  match op, x with
  | .neg, .d (.int kd n) => k (.d (.int kd (kd.wrap (0 - n))))
  | .not, .d (.bool b) => k (.d (.bool (!b)))
  | .xor, .d (.int kd n) => k (.d (.int kd (bitsv .xor kd (if kd.signed then -1 else kd.max) n)))
  | _, _ => False

def qconv (T : Ctx) (src dst : Nat) (x : AV) (k : AV → Prop) : Prop :=
  match look T.tt src, look T.tt dst with
  | some s, some d => (match s.desc, d.desc, x with
    | _, .int kd, .d (.int _ n) => k (.d (.int kd (kd.wrap n)))
    | _, _, _ => False)
  | _, _ => False

def lenD (t : TD) (x : Option D) : Option Int :=
  match t, x with
  | .str, some (.str s) => some s.size
  | .slice _, some (.slc _ _ xs) => some xs.length
  | .slice _, some (.val (.slice none 0 0)) => some 0
  | _, _ => none

def qbuiltin (T : Ctx) (b : Builtin) (ts : List Nat) (args : List (Option D)) (k : AV → Prop) : Prop :=
  match b, ts, args with
  | .len, [t], [x] => (match look T.tt t with
    | some i => (match lenD i.desc x with
      | some n => k (.d (.int .i64 n))
      | none => False)
    | none => False)
  | .min, _, [some (.int kd x), some (.int kd' y)] => bif ikb kd kd' then k (.d (.int kd (if y < x then y else x))) else False
  | .max, _, [some (.int kd x), some (.int kd' y)] => bif ikb kd kd' then k (.d (.int kd (if y > x then y else x))) else False
  | _, _, _ => False

def capAV : (D ⊕ (Nat × Nat)) → AV
  | .inl d => .d d
  | .inr (id, off) => .ptr id off

/-- A call of a function value. -/
def qcallv (T : Ctx) (f : AV) (args : List AV) (h : Hp) (k : AV → Prop) : Prop :=
  match f with
  | .clo f caps => (match look T.fs f with
    | some C => qcon C h (args ++ caps.map capAV) k
    | none => False)
  | .d dv => (match T.cv with
    | some C => qcon C h (.d dv :: args) k
    | none => (match dv with
      | .clo f caps => (match look T.fs f with
        | some C => qcon C h (args ++ caps.map .d) k
        | none => False)
      | _ => False))
  | _ => False

def qcall (T : Ctx) (c : Call) (ρ : Env) (h : Hp) (k : AV → Prop) : Prop :=
  match c.callee with
  | .value (.func f) => (match look T.fs f with
    | some C => qcon C h (c.args.toList.map ρ) k
    | none => False)
  | .value x => qcallv T (ρ x) (c.args.toList.map ρ) h k
  | .invoke r name => (match looks T.invs name with
    | some C => qcon C h (ρ r :: c.args.toList.map ρ) k
    | none => False)
  | .builtin b => qbuiltin T b c.argTypes.toList ((c.args.toList.map ρ).map (viewD h)) k

/-- Operations that only compute, read, or make data. -/
def qstep (T : Ctx) (op : Op) (ρ : Env) (h : Hp) (k : AV → Prop) : Prop :=
  match op with
  | .move x => k (ρ x)
  | .assign x => k (ρ x)
  | .pick c a b => qpick (ρ c) (ρ a) (ρ b) k
  | .load t a => qload T t (ρ a) h k
  | .nilCheck x => qnil (ρ x) k
  | .binOp op t x y _ => qbin T op t (ρ x) (ρ y) k
  | .unOp op _ x => qun op (ρ x) k
  | .convert s t x => qconv T s t (ρ x) k
  | .makeInterface t x => (match ρ x, look T.tt t with
    | .d v, some i => (match i.desc with
      | .iface => False
      | _ => k (.d (.iface t v)))
    | _, _ => False)
  | .makeFunc fn first caps => qmakeFunc fn (first.toList.map ρ) (caps.toList.map ρ) k
  | .build t parts => qbuild T t (parts.toList.map fun p => (p.1, ρ p.2)) k
  | .buildSlice t len parts => qbuildSlice T t len (parts.toList.map fun p => (p.1, ρ p.2)) k
  | .slice t x lo hi mx => qslice T t (ρ x) (lo.map ρ) (hi.map ρ) (mx.map ρ) k
  | .fieldAddr s x f => qfieldAddr T s (ρ x) f k
  | .field t x f => qfield T t (ρ x) f k
  | .indexAddr t x ix => qindexAddr T t (ρ x) (ρ ix) h k
  | .index t x ix => qindex T t (ρ x) (ρ ix) k
  | .extract t ix => (match ρ t with
    | .tup l => (match l[ix]? with
      | some d => k (.d d)
      | none => False)
    | _ => False)
  | .call c => qcall T c ρ h k
  | _ => False

end Fw
