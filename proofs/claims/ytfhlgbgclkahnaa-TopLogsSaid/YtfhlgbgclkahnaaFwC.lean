/- The small abstract machine: operations that write or make memory; regions; code; functions. -/
import Derived.Test.YtfhlgbgclkahnaaFwB
set_option linter.unusedVariables false
set_option linter.unusedSimpArgs false
namespace Fw
open Go

/-! ### Hints -/
inductive Sh where
  | ty (t : Ty)                 -- the slot holds data
  | own (e : Nat) (t : Ty)      -- the slot holds a row of its own
  | box (l : List Ar)           -- the slot holds a pointer to a box of its own
@[reducible] def Sh.El : Sh → Type
  | .ty t => t.El
  | .own _ t => List t.El
  | .box l => Ars l
@[reducible] def Shs : List (Nat × Sh) → Type
  | [] => Unit
  | (_, a) :: l => a.El × Shs l

/-- What is known at the head of a loop: slots that stay, slots whose values change. -/
structure LH where
  keep : List Nat
  vars : List (Nat × Sh)

structure Hints where
  dm : List Nat                    -- makes and appends (by their slot) that make data
  fz : List (Nat × List Nat)       -- ids that become data ahead of a region
  lh : List (Nat × LH)             -- loops, by the block around them

def memN : Nat → List Nat → Bool
  | _, [] => false
  | n, m :: l => bif Nat.beq n m then true else memN n l

/-! ### Operations that change the heap -/
structure WRes where
  kill : Option Nat
  heap : Hp
  val : AV

def scrub1 (id : Nat) : AV → AV
  | .own i => bif Nat.beq i id then .d .top else .own i
  | .ptr i o => bif Nat.beq i id then .d .top else .ptr i o
  | .eptr i s ix o => bif Nat.beq i id then .d .top else .eptr i s ix o
  | .clo _ _ => .d .top
  | x => x
def scrub (kill : Option Nat) (env : Nat → AV) : Nat → AV :=
  match kill with
  | some id => fun t => scrub1 id (env t)
  | none => env


def wmk (ty : Ty) (e : Nat) (ie : TInf) (n m : Int) (h : Hp) (d : Nat) (k : WRes → Prop) : Prop :=
  match ty.ofCells ie.zero with
  | some (z, []) => bif (Nat.beq ie.size ty.size && Nat.blt 0 ie.size && Nat.blt 0 ie.bytes) then 0 ≤ n ∧ n = m ∧ m * ie.bytes ≤ 140737488355328 ∧ k ⟨none, upd h d (some (.row e ty (List.replicate n.toNat z))), .own d⟩ else False
  | _ => False
def wmake (T : Ctx) (t : Nat) (l c : AV) (h : Hp) (d : Nat) (k : WRes → Prop) : Prop :=
  match h d, l, c, sliceE T t with
  | none, .d (.int _ n), .d (.int _ m), some (e, ie) => wmk (tyOf T.tt 6 e) e ie n m h d k
  | _, _, _, _ => False

/-- The new object may take the number d: it is free, or that of the one that goes. -/
def okId (h : Hp) (id d : Nat) : Bool := bif Nat.beq d id then true else (match h d with
  | none => true
  | some _ => false)

/-- The elements that are appended or copied. -/
def elems (h : Hp) (t : Ty) (x : AV) (k : List t.El → Prop) : Prop :=
  match viewD h x with
  | some (.slc _ t' ys) => (match castL t' t ys with
    | some zs => k zs
    | none => False)
  | some (.val (.slice none 0 0)) => k []
  | _ => False

def isSliceT (T : Ctx) (t : Nat) : Bool :=
  match look T.tt t with
  | some i => (match i.desc with
    | .slice _ => true
    | _ => false)
  | none => false

def wapn (ty : Ty) (e : Nat) (ie : TInf) (x : AV) (h : Hp) (d : Nat) (k : WRes → Prop) : Prop :=
  bif (Nat.beq ie.size ty.size && Nat.blt 0 ie.size && Nat.blt 0 ie.bytes) then
    elems h ty x (fun ys => (ys.length : Int) * ie.bytes ≤ 140737488355328 ∧ k ⟨none, upd h d (some (.row e ty ys)), .own d⟩) else False

def wappend (T : Ctx) (ts tx : Nat) (s x : AV) (h : Hp) (d : Nat) (k : WRes → Prop) : Prop :=
  match sliceE T ts with
  | some (e, ie) => bif isSliceT T tx then (match s with
    | .own id => (match h id with
      | some (.row e' t xs) => bif (okId h id d && Nat.beq e e' && Nat.beq ie.size t.size && Nat.blt 0 ie.size && Nat.blt 0 ie.bytes) then
          elems h t x (fun ys => ((xs.length : Int) + ys.length) * ie.bytes ≤ 140737488355328 ∧ k ⟨some id, upd (upd h id none) d (some (.row e t (xs ++ ys))), .own d⟩) else False
      | _ => False)
    | .d (.val (.slice none 0 0)) => (match h d with
      | none => wapn (tyOf T.tt 6 e) e ie x h d k
      | _ => False)
    | _ => False) else False
  | none => False

def wcopy (T : Ctx) (ts tx : Nat) (s x : AV) (h : Hp) (k : WRes → Prop) : Prop :=
  match sliceE T ts with
  | some (e, ie) => bif isSliceT T tx then (match s with
    | .own id => (match h id with
      | some (.row e' t xs) => bif (Nat.beq ie.size t.size && Nat.blt 0 ie.size) then
          elems h t x (fun ys => k ⟨none, upd h id (some (.row e' t (ys.take xs.length ++ xs.drop ys.length))), .d (.int .i64 (if ys.length ≤ xs.length then ys.length else xs.length))⟩) else False
      | _ => False)
    | _ => False) else False
  | none => False

def wstore (a x : AV) (h : Hp) (sz : Nat) (k : WRes → Prop) : Prop :=
  match x with
  | .d v => (match a with
    | .ptr id off => (match h id with
      | some (.box cs) => bif (v.solid && v.cells.all D.one && Nat.beq v.cells.length sz && Nat.ble (off + v.cells.length) cs.length) then k ⟨none, upd h id (some (.box (splice cs off v.cells))), aundef⟩ else False
      | _ => False)
    | .eptr id s ix off => (match h id with
      | some (.row e t xs) => bif (v.solid && v.cells.all D.one && Nat.beq s t.size && Nat.beq v.cells.length sz && Nat.ble (off + v.cells.length) t.size) then
          0 ≤ ix ∧ ix < xs.length ∧ (match (bif Nat.beq sz t.size then t.ofCells v.cells else t.ofCells (splice (t.cells (rd t xs ix)) off v.cells)) with
            | some (y, []) => k ⟨none, upd h id (some (.row e t (xs.set ix.toNat y))), aundef⟩
            | _ => False) else False
      | _ => False)
    | _ => False)
  | _ => False

/-- A row of the call's own, cut behind: what is left is a new row. -/
def wcut (T : Ctx) (t : Nat) (x : AV) (lo hi mx : Option AV) (h : Hp) (d : Nat) (k : WRes → Prop) : Prop :=
  match lo, hi, mx with
  | none, some (.d (.int _ n)), none => (match x with
    | .own id => (match h id with
      | some (.row e ty xs) => (match sliceE T t with
        | some _ => bif okId h id d then 0 ≤ n ∧ n ≤ xs.length ∧ k ⟨some id, upd (upd h id none) d (some (.row e ty (xs.take n.toNat))), .own d⟩ else False
        | none => False)
      | _ => False)
    | _ => False)
  | _, _, _ => False

def sizeT (T : Ctx) (t : Nat) : Nat := match look T.tt t with
  | some i => i.size
  | none => 0

def wstep (T : Ctx) (op : Op) (d : Nat) (ρ : Env) (h : Hp) (k : WRes → Prop) : Prop :=
  match op with
  | .alloc t => (match h d, look T.tt t with
    | none, some i => k ⟨none, upd h d (some (.box i.zero)), .ptr d 0⟩
    | _, _ => False)
  | .box t x => (match h d, ρ x with
    | none, .d v => bif v.solid then k ⟨none, upd h d (some (.box v.cells)), .ptr d 0⟩ else False
    | _, _ => False)
  | .makeSlice t l c => wmake T t (ρ l) (ρ c) h d k
  | .store t a x => (match look T.tt t with
    | some i => wstore (ρ a) (ρ x) h i.size k
    | none => False)
  | .slice t x lo hi mx => wcut T t (ρ x) (lo.map ρ) (hi.map ρ) (mx.map ρ) h d k
  | .call c => (match c.callee, c.args.toList, c.argTypes.toList with
    | .builtin .append, [s, x], [ts, tx] => wappend T ts tx (ρ s) (ρ x) h d k
    | .builtin .copy, [s, x], [ts, tx] => wcopy T ts tx (ρ s) (ρ x) h k
    | _, _, _ => False)
  | _ => False

/-- 0: a move; 1: quiet; 2: makes an object; 3: changes one. -/
def cls (H : Hints) (o : Oper) : Nat :=
  match o.op with
  | .move _ => 0
  | .assign _ => 0
  | .alloc _ => mk o.dst
  | .box _ _ => mk o.dst
  | .makeSlice _ _ _ => mk o.dst
  | .store _ _ _ => 3
  | .slice _ _ _ _ _ => (match o.dst with
    | some d => bif memN d H.dm then 3 else 1
    | none => 1)
  | .call c => (match c.callee with
    | .builtin .append => 3
    | .builtin .copy => 3
    | _ => 1)
  | _ => 1
where
  mk : Option Nat → Nat
    | some _ => 2
    | none => 3

def dstN (o : Oper) : Nat := match o.dst with
  | some d => d
  | none => 0

def WRes.act (r : WRes) (A : AState) (d : Option Nat) : AState :=
  match d with
  | some d => ⟨upd (scrub r.kill A.env) d r.val, r.heap⟩
  | none => ⟨scrub r.kill A.env, r.heap⟩

def step (T : Ctx) (H : Hints) (o : Oper) (A : AState) (K : AState → Prop) : Prop :=
  bif Nat.ble 2 (cls H o) then wstep T o.op (dstN o) A.ev A.heap (fun r => K (r.act A o.dst))
  else qstep T o.op A.ev A.heap (fun v => K (A.put o.dst v))

def isUndef : AV → Bool
  | .d (.val (.tuple vs)) => vs.toList.isEmpty
  | _ => false

/-- An operation with its guard. -/
def gstep (T : Ctx) (H : Hints) (ops : Array Oper) (o : Oper) (A : AState) (K : AState → Prop) : Prop :=
  match o.guard with
  | none => step T H o A K
  | some (j, want) => (match (ops[j]?).bind (·.dst) with
    | some dj => (match A.env dj with
      | .d (.bool b) => Br b
          (bif want then step T H o (A.put (some dj) (.d (.bool true))) K else K ((A.put (some dj) (.d (.bool true))).put o.dst aundef))
          (bif want then K ((A.put (some dj) (.d (.bool false))).put o.dst aundef) else step T H o (A.put (some dj) (.d (.bool false))) K)
      | x => bif isUndef x then K (A.put o.dst aundef) else False)
    | none => False)

def aops (T : Ctx) (H : Hints) (ops : Array Oper) : List Oper → AState → (AState → Prop) → Prop
  | [], A, K => K A
  | o :: l, A, K => gstep T H ops o A (fun A' => aops T H ops l A' K)

/-! ### Which orders serve -/
def memT (d : Nat) : List Operand → Bool
  | [] => false
  | .tmp t :: l => bif Nat.beq t d then true else memT d l
  | _ :: l => memT d l
def looksN (ops : Array Oper) (o : Oper) (d : Nat) : Bool :=
  memT d o.op.operands.toList ||
  (match o.guard with
   | some (g, _) => (match (ops[g]?).bind (·.dst) with
     | some t => Nat.beq t d
     | none => false)
   | none => false)
def apart1 (ops : Array Oper) (x y : Oper) : Bool :=
  match x.dst with
  | some d => !looksN ops y d && (match y.dst with
    | some e => !Nat.beq d e
    | none => true)
  | none => true
def clsOK (i j : Nat) : Bool :=
  (Nat.ble i 2 && Nat.ble j 2) || (Nat.beq i 0 && Nat.beq j 3) || (Nat.beq i 3 && Nat.beq j 0)
def isSelect : Op → Bool
  | .select _ _ => true
  | _ => false
def pairOK (H : Hints) (ops : Array Oper) (x y : Oper) : Bool :=
  apart1 ops x y && apart1 ops y x && clsOK (cls H x) (cls H y)
def waits (o : Oper) (i : Nat) : Bool := o.after.toList.any fun e => Region.binds .any e && Nat.beq e.on i
def lexL (H : Hints) (ops : Array Oper) : Nat → List Oper → Bool
  | _, [] => true
  | k, o :: l => (o.after.toList.all fun e => !Region.binds .any e || Nat.blt e.on k) && (l.all fun p => waits p k || pairOK H ops o p) && lexL H ops (k + 1) l

/-! ### Code -/
inductive AX where
  | normal | exit (id : Nat) | ret

def freeze1 (A : AState) (id : Nat) : AState :=
  match A.heap id with
  | some (.row _ t xs) => ⟨fun s => fz1 id (.slc false t xs) .top (A.env s), upd A.heap id none⟩
  | some (.box cs) => ⟨fun s => fz2 id cs (A.env s), upd A.heap id none⟩
  | none => A
where
  fz1 (id : Nat) (x y : D) : AV → AV
    | .own i => bif Nat.beq i id then .d x else .own i
    | .ptr i o => bif Nat.beq i id then .d y else .ptr i o
    | .eptr i s ix o => bif Nat.beq i id then .d y else .eptr i s ix o
    | .clo f cs => .d .top
    | a => a
  fz2 (id : Nat) (cs : List D) : AV → AV
    | .own i => bif Nat.beq i id then .d .top else .own i
    | .ptr i o => bif Nat.beq i id then .d (.rptr (cs.drop o)) else .ptr i o
    | .eptr i s ix o => bif Nat.beq i id then .d .top else .eptr i s ix o
    | .clo f cs => .d .top
    | a => a
def freezeAll (A : AState) : List Nat → AState
  | [] => A
  | id :: l => freezeAll (freeze1 A id) l
def frozenAt (H : Hints) (A : AState) (id : Nat) : AState :=
  match look H.fz id with
  | some l => freezeAll A l
  | none => A

def dstsIn (N : Nat) : List Oper → Bool
  | [] => true
  | o :: l => (match o.dst with
    | some d => Nat.blt d N
    | none => true) && dstsIn N l

/-- The number of the object that the slot has at a loop's head. -/
def hid (s : Nat) : Nat := Nat.add 1000000 s
def varsOf (vars : List (Nat × Sh)) (x : Shs vars) (s : Nat) (els : AV) : AV :=
  match vars, x with
  | [], _ => els
  | (t, .ty ty) :: l, x => bif Nat.beq t s then .d (ty.toD x.1) else varsOf l x.2 s els
  | (t, .own _ _) :: l, x => bif Nat.beq t s then .own (hid t) else varsOf l x.2 s els
  | (t, .box _) :: l, x => bif Nat.beq t s then .ptr (hid t) 0 else varsOf l x.2 s els
def heapOf (vars : List (Nat × Sh)) (x : Shs vars) (id : Nat) : Option Obj :=
  match vars, x with
  | [], _ => none
  | (_, .ty _) :: l, x => heapOf l x.2 id
  | (t, .own e ty) :: l, x => bif Nat.beq t id then some (.row e ty x.1) else heapOf l x.2 id
  | (t, .box cs) :: l, x => bif Nat.beq t id then some (.box (encs cs x.1)) else heapOf l x.2 id
def keepOf (keep : List Nat) (S : AState) (s : Nat) : AV :=
  bif memN s keep then (match S.env s with
    | .d x => .d x
    | _ => .d .top) else .d .top
def mkState (S : AState) (L : LH) (x : Shs L.vars) : AState :=
  ⟨fun s => varsOf L.vars x s (keepOf L.keep S s), fun id => bif Nat.ble 1000000 id then heapOf L.vars x (Nat.sub id 1000000) else none⟩

/-- The values of the variables in a state; 'used': the ids that are taken already. -/
def ext (S : AState) : (vars : List (Nat × Sh)) → List Nat → (Shs vars → Prop) → Prop
  | [], _, k => k ()
  | (s, .ty t) :: l, used, k => (match viewD S.heap (S.env s) with
    | some d => (match t.ofD d with
      | some x => (bif AV.isD (S.env s) then ext S l used (fun xs => k (x, xs)) else False)
      | none => False)
    | none => False)
  | (s, .own e t) :: l, used, k => (match S.env s with
    | .own id => (match S.heap id with
      | some (.row e' t' xs) => (match castL t' t xs with
        | some ys => bif (Nat.beq e e' && !memN id used) then ext S l (id :: used) (fun zs => k (ys, zs)) else False
        | none => False)
      | _ => False)
    | .d (.val (.slice none 0 0)) => ext S l used (fun zs => k ([], zs))
    | _ => False)
  | (s, .box t) :: l, used, k => (match S.env s with
    | .ptr id 0 => (match S.heap id with
      | some (.box cs) => (match decs t cs with
        | some x => bif !memN id used then ext S l (id :: used) (fun zs => k (x, zs)) else False
        | none => False)
      | _ => False)
    | _ => False)

/-- So many rounds at most. -/
def itl {σ : Type} (F : (σ → Prop) → σ → Prop) : Nat → σ → Prop
  | 0 => fun _ => False
  | n + 1 => F (itl F n)

def writes : Code → List Nat
  | .region _ ops _ => ops.toList.filterMap (·.dst)
  | .seq a b => writes a ++ writes b
  | .cond _ a b => writes a ++ writes b
  | .block _ c => writes c
  | .loop c => writes c
  | .rangeFunc _ _ a c => writes a ++ writes c
  | .scope c => writes c
  | _ => []
def noneIn (keep : List Nat) : List Nat → Bool
  | [] => true
  | d :: l => !memN d keep && noneIn keep l
def nodupS : List (Nat × Sh) → Bool
  | [] => true
  | (s, _) :: l => !memN s (l.map (·.1)) && nodupS l

/-- N: how many slots there are; blk: the block around. -/
def awp (T : Ctx) (H : Hints) (N : Nat) : Code → Nat → (AX → AState → Prop) → AState → Prop
  | .skip, _, K, A => K .normal A
  | .label _, _, K, A => K .normal A
  | .region id ops draw, _, K, A => bif (dstsIn N ops.toList && (!draw || lexL H ops 0 ops.toList)) then aops T H ops ops.toList (frozenAt H A id) (K .normal) else False
  | .seq a b, blk, K, A => awp T H N a blk (fun e A' => match e with
    | .normal => awp T H N b blk K A'
    | e => K e A') A
  | .cond c a b, blk, K, A => (match A.ev c with
    | .d (.bool x) => Br x (awp T H N a blk K A) (awp T H N b blk K A)
    | _ => False)
  | .block id c, _, K, A => awp T H N c id (fun e A' => match e with
    | .exit i => bif Nat.beq i id then K .normal A' else K (.exit i) A'
    | e => K e A') A
  | .loop c, blk, K, A => (match look H.lh blk with
    | some L => bif (noneIn L.keep (writes c) && nodupS L.vars) then
        ext A L.vars [] (fun x => ∃ n, itl (fun G x => awp T H N c blk (fun e A' => match e with
          | .normal => ext A' L.vars [] G
          | e => K e A') (mkState A L x)) n x) else False
    | none => False)
  | .exit id, _, K, A => K (.exit id) A
  | .ret, _, K, A => K .ret A
  | _, _, _, _ => False

/-! ### Functions -/
def resD (T : Ctx) (A : AState) : List ResultVar → Option (List D)
  | [] => some []
  | .tmp t :: l => (match viewD A.heap (A.env t), resD T A l with
    | some d, some ds => some (d :: ds)
    | _, _ => none)
  | .cell a t :: l => (match A.env a, look T.tt t with
    | .ptr id off, some i => (match A.heap id with
      | some (.box cs) => (match (bif i.desc.agg then (bif Nat.ble i.size (cs.drop off).length then some (D.agg ((cs.drop off).take i.size)) else none) else (cs.drop off)[0]?), resD T A l with
        | some d, some ds => some (d :: ds)
        | _, _ => none)
      | _ => none)
    | _, _ => none)

def start (ds : List D) : AState := ⟨fun t => match ds[t]? with
  | some d => .d d
  | none => aundef, fun _ => none⟩

/-- The one result as a row of nobody else's. -/
def finishF (e : Nat) (res : List ResultVar) (C : Con) (x : Ars C.args) (A : AState) : Prop :=
  match res with
  | [.tmp t] => (match A.env t with
    | .own id => (match A.heap id with
      | some (.row e' ty xs) => bif Nat.beq e e' then (match decs C.res [.slc false ty xs] with
        | some y => y = C.post x
        | none => False) else False
      | _ => False)
    | .d (.val (.slice none 0 0)) => (match decs C.res [.val (.slice none 0 0)] with
      | some y => y = C.post x
      | none => False)
    | _ => False)
  | _ => False

def finish (T : Ctx) (res : List ResultVar) (C : Con) (x : Ars C.args) (e : AX) (A : AState) : Prop :=
  match e with
  | .exit _ => False
  | _ => (match C.fresh with
    | some e => finishF e res C x A
    | none => (match resD T A res with
      | some ds => (match decs C.res ds with
        | some y => y = C.post x
        | none => False)
      | none => False))

/-- What is to be shown of a function's text. -/
def VC (T : Ctx) (H : Hints) (fn : Func) (C : Con) (x : Ars C.args) : Prop :=
  match fn.body with
  | some c => bif Nat.ble C.args.length fn.ntmps then awp T H fn.ntmps c 0 (finish T fn.results.toList C x) (start (encs C.args x)) else False
  | none => False

end Fw
