import Derived.Deep.LoopGhost
import Derived.Lib.Walk
import Derived.Lib.SliceRun
import Derived.Test.YtfhlgbgclkahnaaM3
section
set_option linter.unusedVariables false
set_option linter.unusedSimpArgs false
set_option maxRecDepth 100000
namespace Fd
open Go Fw Go.Proofs

abbrev I : Ar := .ty i64
abbrev B : Ar := .ty .bool
abbrev L : Ar := .ty (.slc i64)
abbrev LL : Ar := .ty (.slc (.slc i64))
def tt : List (Nat × TInf) := [
 (2, ⟨1, 8, TD.int IntKind.i64, [D.int IntKind.i64 0]⟩),
 (3, ⟨1, 8, TD.int IntKind.i64, [D.int IntKind.i64 0]⟩),
 (4, ⟨1, 1, TD.bool, [D.bool false]⟩),
 (5, ⟨1, 1, TD.int IntKind.u8, [D.int IntKind.u8 0]⟩),
 (9, ⟨1, 16, TD.str, [D.str ⟨#[]⟩]⟩),
 (22, ⟨1, 24, TD.slice 30, [D.val (Value.slice none 0 0)]⟩),
 (23, ⟨1, 8, TD.ptr 112, [D.val (Value.pointer none)]⟩),
 (25, ⟨4, 32, TD.struct [(0, 3), (1, 3), (2, 3), (3, 3)], [D.int IntKind.i64 0, D.int IntKind.i64 0, D.int IntKind.i64 0, D.int IntKind.i64 0]⟩),
 (30, ⟨1, 24, TD.slice 3, [D.val (Value.slice none 0 0)]⟩),
 (31, ⟨1, 8, TD.int IntKind.i64, [D.int IntKind.i64 0]⟩),
 (37, ⟨2, 48, TD.array 2 30, [D.val (Value.slice none 0 0), D.val (Value.slice none 0 0)]⟩),
 (43, ⟨1, 8, TD.func, [D.val Value.nilFunc]⟩),
 (50, ⟨1, 8, TD.func, [D.val Value.nilFunc]⟩),
 (56, ⟨1, 8, TD.func, [D.val Value.nilFunc]⟩),
 (60, ⟨3, 24, TD.array 3 3, [D.int IntKind.i64 0, D.int IntKind.i64 0, D.int IntKind.i64 0]⟩),
 (71, ⟨2, 16, TD.array 2 3, [D.int IntKind.i64 0, D.int IntKind.i64 0]⟩),
 (76, ⟨1, 0, TD.other, [D.val (Value.tuple { toList := [Value.slice none 0 0, Value.slice none 0 0] })]⟩),
 (90, ⟨1, 8, TD.int IntKind.u64, [D.int IntKind.u64 0]⟩),
 (91, ⟨1, 8, TD.func, [D.val Value.nilFunc]⟩),
 (100, ⟨12, 96, TD.array 12 3, [D.int IntKind.i64 0, D.int IntKind.i64 0, D.int IntKind.i64 0, D.int IntKind.i64 0, D.int IntKind.i64 0, D.int IntKind.i64 0, D.int IntKind.i64 0, D.int IntKind.i64 0, D.int IntKind.i64 0, D.int IntKind.i64 0, D.int IntKind.i64 0, D.int IntKind.i64 0]⟩),
 (102, ⟨1, 8, TD.ptr 107, [D.val (Value.pointer none)]⟩),
 (105, ⟨2, 32, TD.struct [(0, 23), (1, 22)], [D.val (Value.pointer none), D.val (Value.slice none 0 0)]⟩),
 (107, ⟨4, 64, TD.struct [(0, 105), (2, 105)], [D.val (Value.pointer none), D.val (Value.slice none 0 0), D.val (Value.pointer none), D.val (Value.slice none 0 0)]⟩),
 (110, ⟨1, 16, TD.iface, [D.val Value.nilIface]⟩),
 (112, ⟨6, 72, TD.struct [(0, 110), (1, 3), (2, 3), (3, 3), (4, 30), (5, 3)], [D.val Value.nilIface, D.int IntKind.i64 0, D.int IntKind.i64 0, D.int IntKind.i64 0, D.val (Value.slice none 0 0), D.int IntKind.i64 0]⟩),
 (123, ⟨1, 8, TD.struct [(0, 3)], [D.int IntKind.i64 0]⟩),
 (127, ⟨3, 40, TD.struct [(0, 123), (1, 30), (2, 3)], [D.int IntKind.i64 0, D.val (Value.slice none 0 0), D.int IntKind.i64 0]⟩),
 (128, ⟨1, 8, TD.ptr 148, [D.val (Value.pointer none)]⟩),
 (145, ⟨1, 8, TD.map 3 4, [D.val (Value.map none)]⟩),
 (148, ⟨5, 88, TD.struct [(0, 127), (3, 30), (4, 30)], [D.int IntKind.i64 0, D.val (Value.slice none 0 0), D.int IntKind.i64 0, D.val (Value.slice none 0 0), D.val (Value.slice none 0 0)]⟩),
 (157, ⟨1, 8, TD.ptr 105, [D.val (Value.pointer none)]⟩)
]
theorem tt_all : AllTI Try.prog tt := ⟨by kernel_rfl, by kernel_rfl, by kernel_rfl, by kernel_rfl, by kernel_rfl, by kernel_rfl, by kernel_rfl, by kernel_rfl, by kernel_rfl, by kernel_rfl, by kernel_rfl, by kernel_rfl, by kernel_rfl, by kernel_rfl, by kernel_rfl, by kernel_rfl, by kernel_rfl, by kernel_rfl, by kernel_rfl, by kernel_rfl, by kernel_rfl, by kernel_rfl, by kernel_rfl, by kernel_rfl, by kernel_rfl, by kernel_rfl, by kernel_rfl, by kernel_rfl, by kernel_rfl, by kernel_rfl, by kernel_rfl, trivial⟩

theorem mixed : Try.prog.follows .mixedOrders = true := by kernel_rfl
theorem tokg {T : Ctx} (hfs : AllS Try.prog T.fs) (hpts : AllP Try.prog T.pts) (hpan : AllX Try.prog T.pt T.pan) (hinv : ∀ n C, looks T.invs n = some C → SoundInv Try.prog n C) (hcv : ∀ C, T.cv = some C → SoundCv Try.prog C) (h1 : T.tt = tt := by rfl) : Tok Try.prog T :=
 ⟨mixed, by rw [h1]; exact tt_all.spec, hfs.spec, hinv, hcv, hpts.spec, hpan.spec⟩
theorem noInv {T : Ctx} (h : T.invs = [] := by rfl) : ∀ n C, looks T.invs n = some C → SoundInv Try.prog n C := fun n C e => by rw [h] at e; cases e
theorem noCv {T : Ctx} (h : T.cv = none := by rfl) : ∀ C, T.cv = some C → SoundCv Try.prog C := fun C e => by rw [h] at e; cases e

def Pl.add (q a b : Int) : Int := (fld q).add a b
def Pl.sub (q a b : Int) : Int := (fld q).sub a b
def Pl.neg (q a : Int) : Int := (fld q).neg a
def Pl.mul (q a b : Int) : Int := (fld q).mul a b
def Pl.pow (q a n : Int) : Int := (fld q).pow a n.toNat
def Pl.inv (q a : Int) : Int := Pl.pow q a (q - 2)
def Pl.inQ (q x : Int) : Prop := 0 ≤ x ∧ x < q
def Pl.digs (p n : Int) : List Int := Fm.digs p 64 n
def Pl.num (p : Int) (l : List Int) : Int := numL p l
def Pl.red (p : Int) (md l : List Int) : List Int := lstV (min (md.length - 1) l.length) fun i => Fm.ev md (md.length - 1) l Fm.e0 i % p
def Pl.rst (p m a : Int) : Int := Fm.rst p m a

abbrev n64 (x : Int) : D := .int .i64 x
def modD (p : Int) : D := .agg [n64 p]
def slowD (q : Int) : D := .agg [n64 (Pl.lpf q), .slc false i64 (Pl.md q), n64 q]
def Pl.pwL (q : Int) : List Int := (List.range (q.toNat - 1)).map fun n => (fld q).pow (Pl.gen q) n
def Pl.lgAt (q : Int) : Nat → List Int
 | 0 => List.replicate q.toNat 0
 | n + 1 => (Pl.lgAt q n).set ((fld q).pow (Pl.gen q) n).toNat (n : Int)
def Pl.lgL (q : Int) : List Int := Pl.lgAt q (q.toNat - 1)
def tabsC (q : Int) : List D := [n64 (Pl.lpf q), .slc false i64 (Pl.md q), n64 q, .slc false i64 (Pl.pwL q), .slc false i64 (Pl.lgL q)]
def Pl.tyA (q : Int) : Nat := bif decide (Pl.K q = 1) then 123 else 128
def Pl.datA (q : Int) : D := bif decide (Pl.K q = 1) then .agg [n64 (Pl.lpf q)] else .rptr (tabsC q)
def arD (q : Int) : D := .iface (Pl.tyA q) (Pl.datA q)
def Pl.k1 (q : Int) : Bool := decide (Pl.K q = 1)
def fieldC (q : Int) : List D := [arD q, n64 q, n64 (Pl.lpf q), n64 (Pl.K q), .slc (Pl.k1 q) i64 (Pl.md q), n64 (Pl.gen q)]
def fieldD (q : Int) : D := .rptr (fieldC q)
def Pl.qA : D → Int
 | .iface 123 (.agg [.int .i64 p]) => p
 | .iface 127 (.agg [_, _, .int .i64 q]) => q
 | .iface 128 (.rptr [_, _, .int .i64 q, _, _]) => q
 | .iface 23 (.rptr (_ :: .int .i64 q :: _)) => q
 | _ => 0
def Pl.qF : D → Int
 | .rptr (_ :: .int .i64 q :: _) => q
 | _ => 0
def Pl.okA (v : D) : Prop := ∃ q, isQ q ∧ v = arD q
def Pl.okM (v : D) : Prop := ∃ q, isQ q ∧ (v = arD q ∨ (Pl.K q = 1 ∧ v = .iface 123 (modD q)) ∨ (Pl.K q ≠ 1 ∧ v = .iface 127 (slowD q)) ∨ v = .iface 23 (fieldD q))
def Pl.okF (v : D) : Prop := ∃ q, isQ q ∧ v = fieldD q

def VS : Con := ⟨[.raw, I, I], [I], fun (x : D × Int × Int × Unit) => Pl.okA x.1 ∧ Pl.inQ (Pl.qA x.1) x.2.1 ∧ Pl.inQ (Pl.qA x.1) x.2.2.1, fun (x : D × Int × Int × Unit) => (Pl.add (Pl.qA x.1) x.2.1 x.2.2.1, ()), none⟩
def VD : Con := ⟨[.raw, I, I], [I], fun (x : D × Int × Int × Unit) => Pl.okA x.1 ∧ Pl.inQ (Pl.qA x.1) x.2.1 ∧ Pl.inQ (Pl.qA x.1) x.2.2.1, fun (x : D × Int × Int × Unit) => (Pl.sub (Pl.qA x.1) x.2.1 x.2.2.1, ()), none⟩
def VP : Con := ⟨[.raw, I, I], [I], fun (x : D × Int × Int × Unit) => Pl.okM x.1 ∧ Pl.inQ (Pl.qA x.1) x.2.1 ∧ Pl.inQ (Pl.qA x.1) x.2.2.1, fun (x : D × Int × Int × Unit) => (Pl.mul (Pl.qA x.1) x.2.1 x.2.2.1, ()), none⟩
def VI : Con := ⟨[.raw, I], [I], fun (x : D × Int × Unit) => Pl.okA x.1 ∧ Pl.inQ (Pl.qA x.1) x.2.1 ∧ x.2.1 ≠ 0, fun (x : D × Int × Unit) => (Pl.inv (Pl.qA x.1) x.2.1, ()), none⟩

def H0 : Hints := ⟨[], [], [], [], []⟩
def lo (l : List (Nat × LH)) : Hints := ⟨[], [], l, [], []⟩
abbrev si : Sh := .ty i64
abbrev sb : Sh := .ty .bool
abbrev sl : Sh := .ty (.slc i64)
abbrev so : Sh := .own 3 i64
abbrev s0 : Sh := .ar 3 i64
def TT (fs : List (Nat × Con)) : Ctx := ⟨tt, fs, [], none, [], 0, [], [], 0, [], [], [], []⟩
def TV (fs : List (Nat × Con)) (invs : List (String × Con)) : Ctx := ⟨tt, fs, invs, none, [], 0, [], [], 0, [], [], [], []⟩
def TC (fs : List (Nat × Con)) (cv : Con) : Ctx := ⟨tt, fs, [], some cv, [], 0, [], [], 0, [], [], [], []⟩
def TR (fs : List (Nat × Con)) (am : List Nat) : Ctx := ⟨tt, fs, [], none, [], 100, [0], [], 0, am.map fun s => (s, 0), [(0, .aren 3 i64 [])], [], []⟩

def C123 : Con := ⟨[L], [L], fun (x : List Int × Unit) => x.1.length ≤ 1000000000, fun (x : List Int × Unit) => (x.1, ()), some 3⟩
def C123e : Con := ⟨[L], [L], fun (x : List Int × Unit) => x.1.length ≤ 1000000000 ∧ 0 < x.1.length, fun (x : List Int × Unit) => (x.1, ()), some 3⟩
def H123 : Hints := ⟨[5], [], [], [], []⟩
def Pl.okN (n p : Int) : Prop := 0 ≤ n ∧ n ≤ 4611686018427387904 ∧ 2 ≤ p ∧ p ≤ 65536
def C147 : Con := ⟨[I, I], [L], fun (x : Int × Int × Unit) => Pl.okN x.1 x.2.1, fun (x : Int × Int × Unit) => (Pl.digs x.2.1 x.1, ()), some 3⟩
def H147 : Hints := lo [(0, ⟨[1], [(0, si), (5, so)]⟩)]
def Pl.okL (p : Int) (l : List Int) : Prop := (2 ≤ p ∧ p ≤ 65536) ∧ (∀ c ∈ l, 0 ≤ c ∧ c < p) ∧ p ^ l.length ≤ 4611686018427387904 ∧ l.length ≤ 64
def C165 : Con := ⟨[L, I], [I], fun (x : List Int × Int × Unit) => Pl.okL x.2.1 x.1, fun (x : List Int × Int × Unit) => (Pl.num x.2.1 x.1, ()), none⟩
def H165 : Hints := lo [(0, ⟨[0, 1], [(5, si), (6, si)]⟩)]
def Pl.monic (p : Int) (m : List Int) : Prop := (∀ c ∈ m, 0 ≤ c ∧ c < p) ∧ 2 ≤ m.length ∧ m.length ≤ 1000 ∧ m.getD (m.length - 1) 0 = 1
def C149 : Con := ⟨[L, L, I], [L], fun (x : List Int × List Int × Int × Unit) => (2 ≤ x.2.2.1 ∧ x.2.2.1 ≤ 65536) ∧ (∀ c ∈ x.1, 0 ≤ c ∧ c < x.2.2.1) ∧ x.1.length ≤ 1000 ∧ Pl.monic x.2.2.1 x.2.1, fun (x : List Int × List Int × Int × Unit) => (Pl.red x.2.2.1 x.2.1 x.1, ()), none⟩
def H149 : Hints := ⟨[13], [], [(0, ⟨[0, 1, 2, 7], [(8, si), (0, s0)]⟩), (2, ⟨[0, 1, 2, 7, 8, 9, 29, 30], [(31, si), (0, s0)]⟩)], [], [(12, ([0], [0]))]⟩
def T149 : Ctx := TR [(123, C123)] [13]
def C148 : Con := ⟨[I, I], [I], fun (x : Int × Int × Unit) => (2 ≤ x.1 ∧ x.1 ≤ 65536) ∧ 0 ≤ x.2.1 ∧ x.1 ^ x.2.1.toNat ≤ 4611686018427387904, fun (x : Int × Int × Unit) => (x.1 ^ x.2.1.toNat, ()), none⟩
def H148 : Hints := lo [(0, ⟨[0, 6], [(5, si), (7, si)]⟩)]
def C117 : Con := ⟨[I], [L], fun (x : Int × Unit) => 1 ≤ x.1 ∧ x.1 ≤ 2147483647, fun (x : Int × Unit) => (Pl.primes x.1, ()), none⟩
def H117 : Hints := lo [(0, ⟨[], [(0, si), (3, so), (4, si)]⟩), (2, ⟨[4], [(0, si), (3, so)]⟩)]
abbrev G1 : Ar := .ty (.pair i64 .unit)
def Pl.m1 (p a b : Int) : Prop := (2 ≤ p ∧ p ≤ 65536) ∧ Pl.inQ p a ∧ Pl.inQ p b
def C184 : Con := ⟨[G1, I, I], [I], fun (x : (Int × Unit) × Int × Int × Unit) => Pl.m1 x.1.1 x.2.1 x.2.2.1, fun (x : (Int × Unit) × Int × Int × Unit) => (x.2.1 * x.2.2.1 % x.1.1, ()), none⟩
def C185 : Con := ⟨[G1, I, I], [I], fun (x : (Int × Unit) × Int × Int × Unit) => Pl.m1 x.1.1 x.2.1 x.2.2.1, fun (x : (Int × Unit) × Int × Int × Unit) => ((x.2.1 + x.2.2.1) % x.1.1, ()), none⟩
def C182 : Con := ⟨[G1, I, I], [I], fun (x : (Int × Unit) × Int × Int × Unit) => Pl.m1 x.1.1 x.2.1 x.2.2.1, fun (x : (Int × Unit) × Int × Int × Unit) => ((x.2.1 - x.2.2.1 + x.1.1) % x.1.1, ()), none⟩
def sumB (p : Int) : D := .bfn (.func 185) [.agg [n64 p]]
def difB (p : Int) : D := .bfn (.func 182) [.agg [n64 p]]
def Pl.eF : D → Int → Int → Int
 | .bfn (.func 185) [.agg [.int .i64 p]], a, b => (a + b) % p
 | .bfn (.func 182) [.agg [.int .i64 p]], a, b => (a - b + p) % p
 | _, _, _ => 0
def Pl.eP (v : D) (a b : Int) : Prop := ∃ p, (v = sumB p ∨ v = difB p) ∧ Pl.m1 p a b
def Veach : Con := ⟨[.raw, I, I], [I], fun (x : D × Int × Int × Unit) => Pl.eP x.1 x.2.1 x.2.2.1, fun (x : D × Int × Int × Unit) => (Pl.eF x.1 x.2.1 x.2.2.1, ()), none⟩
def Pl.sgn : D → Int
 | .bfn (.func 185) _ => 1
 | _ => -1
def Pl.qS : D → Int
 | .agg [_, _, .int .i64 q] => q
 | _ => 0
def Pl.eachV (q : Int) (v : D) (a b : Int) : Int := bif decide (Pl.sgn v = 1) then Pl.add q a b else Pl.sub q a b
def Pl.okE (s : D) (a b : Int) (v : D) : Prop := ∃ q, isQ q ∧ s = slowD q ∧ Pl.inQ q a ∧ Pl.inQ q b ∧ (v = sumB (Pl.lpf q) ∨ v = difB (Pl.lpf q))
def C189 : Con := ⟨[.raw, I, I, .raw], [I], fun (x : D × Int × Int × D × Unit) => Pl.okE x.1 x.2.1 x.2.2.1 x.2.2.2.1, fun (x : D × Int × Int × D × Unit) => (Pl.eachV (Pl.qS x.1) x.2.2.2.1 x.2.1 x.2.2.1, ()), none⟩
def H189 : Hints := ⟨[], [(1, [4])], [(0, ⟨[3, 4], [(1, si), (2, si), (9, si), (10, si)]⟩)], [], []⟩
def T189 : Ctx := TC [] Veach
def Pl.okS (s : D) (a b : Int) : Prop := ∃ q, isQ q ∧ Pl.K q ≠ 1 ∧ s = slowD q ∧ Pl.inQ q a ∧ Pl.inQ q b
def Cs (f : Int → Int → Int → Int) : Con := ⟨[.raw, I, I], [I], fun (x : D × Int × Int × Unit) => Pl.okS x.1 x.2.1 x.2.2.1, fun (x : D × Int × Int × Unit) => (f (Pl.qS x.1) x.2.1 x.2.2.1, ()), none⟩
def C188 : Con := Cs Pl.add
def C186 : Con := Cs Pl.sub
def C152 : Con := Cs Pl.mul
def Hf3 : Hints := ⟨[], [(1, [3])], [], [], []⟩
def T188 : Ctx := TT [(189, C189)]
def H152 : Hints := ⟨[38], [(1, [3]), (14, [1000009])], [(0, ⟨[3, 8, 39, 40], [(41, si), (9, so)]⟩), (2, ⟨[3, 8, 10, 11, 39, 40, 41, 46, 47], [(48, si), (9, so)]⟩)], [], []⟩
def T152 : Ctx := TT [(147, C147), (149, C149), (165, C165)]
def C100 : Con := ⟨[.raw, I, I], [I], fun (x : D × Int × Int × Unit) => Pl.okM x.1 ∧ Pl.inQ (Pl.qA x.1) x.2.1 ∧ 0 ≤ x.2.2.1 ∧ x.2.2.1 ≤ 4611686018427387904, fun (x : D × Int × Int × Unit) => (Pl.pow (Pl.qA x.1) x.2.1 x.2.2.1, ()), none⟩
def H100 : Hints := lo [(0, ⟨[0], [(1, si), (2, si), (7, si)]⟩)]
def T100 : Ctx := TV [] [("dauber/field.product", VP)]
def Pl.ok1 (p a : Int) : Prop := isQ p ∧ Pl.K p = 1 ∧ Pl.inQ p a
def C183 : Con := ⟨[G1, I], [I], fun (x : (Int × Unit) × Int × Unit) => Pl.ok1 x.1.1 x.2.1, fun (x : (Int × Unit) × Int × Unit) => (Pl.inv x.1.1 x.2.1, ()), none⟩
def T183 : Ctx := TT [(100, C100)]
def Pl.qT : D → Int
 | .rptr [_, _, .int .i64 q, _, _] => q
 | _ => 0
def Pl.okT (v : D) (a : Int) : Prop := ∃ q, isQ q ∧ v = .rptr (tabsC q) ∧ Pl.inQ q a
def C191 : Con := ⟨[.raw, I, I], [I], fun (x : D × Int × Int × Unit) => Pl.okT x.1 x.2.1 ∧ Pl.okT x.1 x.2.2.1, fun (x : D × Int × Int × Unit) => (Pl.mul (Pl.qT x.1) x.2.1 x.2.2.1, ()), none⟩
def C190 : Con := ⟨[.raw, I], [I], fun (x : D × Int × Unit) => Pl.okT x.1 x.2.1 ∧ x.2.1 ≠ 0, fun (x : D × Int × Unit) => (Pl.inv (Pl.qT x.1) x.2.1, ()), none⟩

end Fd
end
section
set_option linter.unusedVariables false
set_option linter.unusedSimpArgs false
set_option maxRecDepth 100000
namespace Fd
open Go Fw Go.Proofs

theorem tok0 {T : Ctx} (hfs : AllS Try.prog T.fs) (h0 : T.pts = [] := by rfl) (h2 : T.pan = [] := by rfl) (h3 : T.invs = [] := by rfl) (h4 : T.cv = none := by rfl) (h1 : T.tt = tt := by rfl) : Tok Try.prog T :=
 tokg hfs (by rw [h0]; trivial) (by rw [h2]; trivial) (noInv h3) (noCv h4) h1
theorem mul_small {p a b : Int} (hp : p ≤ 65536) (a0 : 0 ≤ a) (a1 : a < p) (b0 : 0 ≤ b) (b1 : b < p) : 0 ≤ a * b ∧ a * b ≤ 4294967296 := by
 refine ⟨Int.mul_nonneg a0 b0, ?_⟩
 have h1 : a * b ≤ 65536 * b := Int.mul_le_mul_of_nonneg_right (by omega) b0
 omega
theorem tdiv_pos {a b : Int} (ha : 0 ≤ a) : a.tdiv b = a / b := Int.tdiv_eq_ediv_of_nonneg ha
theorem tmod_pos {a b : Int} (ha : 0 ≤ a) : a.tmod b = a % b := Int.tmod_eq_emod_of_nonneg ha
theorem getD_mem {l : List Int} {i : Nat} (hi : i < l.length) : l.getD i 0 ∈ l := by
 rw [List.getD_eq_getElem?_getD, List.getElem?_eq_getElem hi]; exact List.getElem_mem hi
theorem rd_getD (l : List Int) (i : Int) : rd i64 l i = l.getD i.toNat 0 := rfl

theorem vc123 : ∀ x, C123e.pre x → VC (TT []) H123 Try.f123 C123e x := by
 rintro ⟨(l : List Int), ⟨⟩⟩ ⟨(hl : l.length ≤ 1000000000), (h0 : 0 < l.length)⟩
 show 0 < l.length ∧ ((([] : List Int).length : Int) + (l.length : Int)) * 8 ≤ (140737488355328 : Int) ∧ (l, ()) = (l, ())
 refine ⟨h0, ?_, rfl⟩
 simp only [List.length_nil]
 omega
theorem vc147 : ∀ x, C147.pre x → VC (TT []) H147 Try.f147 C147 x := by
 rintro ⟨(n : Int), (p : Int), ⟨⟩⟩ ⟨(n0 : 0 ≤ n), (n1 : n ≤ 4611686018427387904), (p2 : 2 ≤ p), (p6 : p ≤ 65536)⟩
 show ∃ (n_1 : Nat), itl (fun (G : Int × List Int × PUnit → Prop) (x : Int × List Int × PUnit) => Br (decide (x.fst > (0 : Int))) (p ≠ (0 : Int) ∧ ((↑(List.length x.snd.fst) : Int) + (↑[Int.tmod x.fst p].length : Int)) * (8 : Int) ≤ (140737488355328 : Int) ∧ p ≠ (0 : Int) ∧ G (IntKind.i64.wrap (Int.tdiv x.fst p), List.append x.snd.fst [Int.tmod x.fst p], ())) (x.snd = C147.post (n, p, ()))) n_1 (n, [], ())
 refine itl_rule (fun s => ∃ f : Nat, Fm.digs p 64 n = s.2.1 ++ Fm.digs p f s.1 ∧ 0 ≤ s.1 ∧ s.1 ≤ 4611686018427387904 ∧ s.1 < p ^ f ∧ s.2.1.length + f = 64) (fun s => s.1.toNat) ⟨64, rfl, n0, n1, ?_, rfl⟩ ?_
 ·have h1 : (2 : Int) ^ 64 ≤ p ^ 64 := by
   obtain ⟨k, rfl⟩ : ∃ k : Nat, p = k := ⟨p.toNat, by omega⟩
   have : 2 ^ 64 ≤ k ^ 64 := Nat.pow_le_pow_left (by omega) 64
   exact_mod_cast this
  have h2 : (4611686018427387904 : Int) < 2 ^ 64 := by decide
  exact Int.lt_of_le_of_lt n1 (Int.lt_of_lt_of_le h2 h1)
 ·rintro ⟨m, out, ⟨⟩⟩ G ⟨f, e, m0, m1, mf, hlen⟩ hG
  simp only at e m0 m1 mf hlen hG ⊢
  refine Br_of (fun h => ?_) (fun h => ?_)
  ·have h : m > 0 := of_decide_eq_true h
   obtain ⟨f', rfl⟩ : ∃ f', f = f' + 1 := by
    cases f with
    | zero => simp at mf; omega
    | succ f => exact ⟨f, rfl⟩
   have hd0 : 0 ≤ m / p := Int.ediv_nonneg m0 (by omega)
   have hdlt : m / p < m := Int.ediv_lt_of_lt_mul (by omega) (by
    have : m * 2 ≤ m * p := Int.mul_le_mul_of_nonneg_left p2 m0
    omega)
   rw [tdiv_pos m0, tmod_pos m0, wrap_i64 (by omega) (by omega)]
   refine ⟨by omega, ?_, by omega, hG _ ⟨f', ?_, hd0, by simp only; omega, ?_, ?_⟩ (by simp only; omega)⟩
   ·simp only [List.length_singleton]
    have : (out.length : Int) ≤ 64 := by omega
    omega
   ·show _ = List.append out [m % p] ++ _
    rw [e, Fm.digs, decide_eq_true h, cond_true]
    simp
   ·exact Int.ediv_lt_of_lt_mul (by omega) (by rw [← Int.pow_succ]; exact mf)
   ·show (out ++ [m % p]).length + f' = 64
    simp
    omega
  ·have h : ¬ m > 0 := of_decide_eq_false h
   have : m = 0 := by omega
   subst this
   have hz : Fm.digs p f 0 = [] := by cases f <;> simp [Fm.digs]
   rw [hz, List.append_nil] at e
   show (out, ()) = (Pl.digs p n, ())
   unfold Pl.digs
   rw [e]
theorem numL_range {p : Int} (hp : 2 ≤ p) : ∀ {l : List Int}, (∀ c ∈ l, 0 ≤ c ∧ c < p) → 0 ≤ numL p l ∧ numL p l < p ^ l.length
 | [], _ => by simp [numL]
 | c :: l, h => by
  obtain ⟨h1, h2⟩ := numL_range hp (l := l) fun x hx => h x (by simp [hx])
  have h3 := h c (by simp)
  rw [numL, List.length_cons, Int.pow_succ]
  have h4 : (numL p l + 1) * p ≤ p ^ l.length * p := Int.mul_le_mul_of_nonneg_right (by omega) (by omega)
  have h5 := Int.mul_nonneg h1 (show 0 ≤ p by omega)
  rw [Int.add_mul] at h4
  omega
theorem numL_drop {p : Int} {l : List Int} {i : Nat} (h : i < l.length) : numL p (l.drop i) = numL p (l.drop (i + 1)) * p + l.getD i 0 := by
 rw [List.drop_eq_getElem_cons h, numL, List.getD_eq_getElem?_getD, List.getElem?_eq_getElem h]; rfl
theorem vc165 : ∀ x, C165.pre x → VC (TT []) H165 Try.f165 C165 x := by
 rintro ⟨(l : List Int), (p : Int), ⟨⟩⟩ ⟨⟨(p2 : 2 ≤ p), (p6 : p ≤ 65536)⟩, (hl : ∀ c ∈ l, 0 ≤ c ∧ c < p), (hb : p ^ l.length ≤ 4611686018427387904), (h64 : l.length ≤ 64)⟩
 show ∃ (n : Nat), itl (fun (G : Int × Int × PUnit → Prop) (x : Int × Int × PUnit) => Br (decide (x.snd.fst ≥ (0 : Int))) ((0 : Int) ≤ x.snd.fst ∧ x.snd.fst < (↑l.length : Int) ∧ G (IntKind.i64.wrap (IntKind.i64.wrap (x.fst * p) + rd i64 l x.snd.fst), IntKind.i64.wrap (x.snd.fst - (1 : Int)), ())) ((x.fst, ()) = C165.post (l, p, ()))) n ((0 : Int), IntKind.i64.wrap ((↑l.length : Int) - (1 : Int)), ())
 rw [wrap_i64 (by omega) (by omega)]
 refine itl_rule (fun s => ∃ i : Nat, s.2.1 = (i : Int) - 1 ∧ i ≤ l.length ∧ s.1 = numL p (l.drop i)) (fun s => (s.2.1 + 1).toNat) ⟨l.length, rfl, Nat.le_refl _, by simp [numL]⟩ ?_
 rintro ⟨n, j, ⟨⟩⟩ G ⟨i, e1, hi, e2⟩ hG
 simp only at e1 e2 hG ⊢
 subst e1 e2
 refine Br_of (fun h => ?_) (fun h => ?_)
 ·have h : (i : Int) - 1 ≥ 0 := of_decide_eq_true h
  obtain ⟨k, rfl⟩ : ∃ k, i = k + 1 := ⟨i - 1, by omega⟩
  have e : (((k + 1 : Nat) : Int) - 1) = k := by omega
  rw [e] at hG ⊢
  rw [rd_getD, Int.toNat_natCast]
  have hk : k < l.length := by omega
  obtain ⟨r1, r2⟩ := numL_range p2 (l := l.drop k) fun c hc => hl c (List.mem_of_mem_drop hc)
  rw [numL_drop hk] at r1 r2
  have hg := hl _ (getD_mem hk)
  obtain ⟨s1, s2⟩ := numL_range p2 (l := l.drop (k + 1)) fun c hc => hl c (List.mem_of_mem_drop hc)
  have hpow : p ^ (l.drop k).length ≤ p ^ l.length := pow_mono p2 (by simp)
  have hm := Int.mul_nonneg s1 (show 0 ≤ p by omega)
  rw [wrap_i64 (x := numL p (l.drop (k + 1)) * p) (by omega) (by omega), wrap_i64 (by omega) (by omega), wrap_i64 (by omega) (by omega)]
  exact ⟨by omega, by omega, hG _ ⟨k, rfl, by omega, (numL_drop hk).symm⟩ (by simp only; omega)⟩
 ·have h : ¬ ((i : Int) - 1 ≥ 0) := of_decide_eq_false h
  have : i = 0 := by omega
  subst this
  rfl
theorem vc148 : ∀ x, C148.pre x → VC (TT []) H148 Try.f148 C148 x := by
 rintro ⟨(a : Int), (n : Int), ⟨⟩⟩ ⟨⟨(a2 : 2 ≤ a), (a6 : a ≤ 65536)⟩, (n0 : 0 ≤ n), (hb : a ^ n.toNat ≤ 4611686018427387904)⟩
 show ∃ (n_1 : Nat),
   itl
    (fun (G : Int × Int × PUnit → Prop) (x : Int × Int × PUnit) =>
     Br (decide (x.snd.fst < n)) (G (IntKind.i64.wrap (x.fst * a), IntKind.i64.wrap (x.snd.fst + (1 : Int)), ()))
      ((x.fst, ()) = C148.post (a, n, ())))
    n_1 ((1 : Int), (0 : Int), ())
 have hn63 : n < 63 := by
  rcases ilt n 63 with h | h
  ·exact h
  ·exfalso
   have h1 : a ^ 63 ≤ a ^ n.toNat := pow_mono a2 (by omega)
   have h2 : (2 : Int) ^ 63 ≤ a ^ 63 := by
    obtain ⟨k, rfl⟩ : ∃ k : Nat, a = k := ⟨a.toNat, by omega⟩
    have : 2 ^ 63 ≤ k ^ 63 := Nat.pow_le_pow_left (by omega) 63
    exact_mod_cast this
   have h3 : (4611686018427387904 : Int) < 2 ^ 63 := by decide
   omega
 refine itl_rule (fun s => ∃ i : Nat, s.2.1 = (i : Int) ∧ i ≤ n.toNat ∧ s.1 = a ^ i) (fun s => (n - s.2.1).toNat) ⟨0, rfl, Nat.zero_le _, by simp⟩ ?_
 rintro ⟨m, j, ⟨⟩⟩ G ⟨i, e1, hi, e2⟩ hG
 simp only at e1 e2 hG ⊢
 subst e1 e2
 refine Br_of (fun h => ?_) (fun h => ?_)
 ·have h : (i : Int) < n := of_decide_eq_true h
  have h1 : a ^ (i + 1) ≤ a ^ n.toNat := pow_mono a2 (by omega)
  have h0 : 0 < a ^ (i + 1) := Int.pow_pos (by omega)
  have e9 : a ^ i * a = a ^ (i + 1) := (Int.pow_succ a i).symm
  rw [e9, wrap_i64 (by omega) (by omega), wrap_i64 (by omega) (by omega)]
  exact hG _ ⟨i + 1, by simp, by omega, rfl⟩ (by simp only; omega)
 ·have h : ¬ (i : Int) < n := of_decide_eq_false h
  have : i = n.toNat := by omega
  subst this
  rfl
theorem vc184 : ∀ x, C184.pre x → VC (TT []) H0 Try.f184 C184 x := by
 rintro ⟨⟨(p : Int), ⟨⟩⟩, (a : Int), (b : Int), ⟨⟩⟩ ⟨⟨(p2 : 2 ≤ p), (p6 : p ≤ 65536)⟩, ⟨(a0 : 0 ≤ a), (a1 : a < p)⟩, (b0 : 0 ≤ b), (b1 : b < p)⟩
 show p ≠ (0 : Int) ∧ ((IntKind.i64.wrap (a * b)).tmod p, ()) = C184.post ((p, ()), a, b, ())
 obtain ⟨m0, m1⟩ := mul_small p6 a0 a1 b0 b1
 refine ⟨by omega, ?_⟩
 rw [wrap_i64 (by omega) (by omega), tmod_pos m0]
 rfl
theorem vc185 : ∀ x, C185.pre x → VC (TT []) H0 Try.f185 C185 x := by
 rintro ⟨⟨(p : Int), ⟨⟩⟩, (a : Int), (b : Int), ⟨⟩⟩ ⟨⟨(p2 : 2 ≤ p), (p6 : p ≤ 65536)⟩, ⟨(a0 : 0 ≤ a), (a1 : a < p)⟩, (b0 : 0 ≤ b), (b1 : b < p)⟩
 show p ≠ (0 : Int) ∧ ((IntKind.i64.wrap (a + b)).tmod p, ()) = C185.post ((p, ()), a, b, ())
 refine ⟨by omega, ?_⟩
 rw [wrap_i64 (by omega) (by omega), tmod_pos (by omega)]
 rfl
theorem vc182 : ∀ x, C182.pre x → VC (TT []) H0 Try.f182 C182 x := by
 rintro ⟨⟨(p : Int), ⟨⟩⟩, (a : Int), (b : Int), ⟨⟩⟩ ⟨⟨(p2 : 2 ≤ p), (p6 : p ≤ 65536)⟩, ⟨(a0 : 0 ≤ a), (a1 : a < p)⟩, (b0 : 0 ≤ b), (b1 : b < p)⟩
 show p ≠ (0 : Int) ∧ ((IntKind.i64.wrap (IntKind.i64.wrap (a - b) + p)).tmod p, ()) = C182.post ((p, ()), a, b, ())
 refine ⟨by omega, ?_⟩
 rw [wrap_i64 (x := a - b) (by omega) (by omega), wrap_i64 (by omega) (by omega), tmod_pos (by omega)]
 rfl

theorem vc117 : ∀ x, C117.pre x → VC (TT []) H117 Try.f117 C117 x := by
 rintro ⟨(n : Int), ⟨⟩⟩ ⟨(n1 : 1 ≤ n), (n2 : n ≤ 2147483647)⟩
 show ∃ (n_1 : Nat), itl (fun (G : Int × List Int × Int × PUnit → Prop) (x : Int × List Int × Int × PUnit) => Br (decide (IntKind.i64.wrap (x.snd.snd.fst * x.snd.snd.fst) ≤ x.fst)) (x.snd.snd.fst ≠ (0 : Int) ∧ Br (Int.tmod x.fst x.snd.snd.fst == (0 : Int)) (((↑(List.length x.snd.fst) : Int) + (↑[x.snd.snd.fst].length : Int)) * (8 : Int) ≤ (140737488355328 : Int) ∧ ∃ (n : Nat), itl (fun (G_1 : Int × List Int × PUnit → Prop) (x_1 : Int × List Int × PUnit) => x.snd.snd.fst ≠ (0 : Int) ∧ Br (Int.tmod x_1.fst x.snd.snd.fst == (0 : Int)) (x.snd.snd.fst ≠ (0 : Int) ∧ G_1 (IntKind.i64.wrap (Int.tdiv x_1.fst x.snd.snd.fst), x_1.snd)) (G (x_1.fst, x_1.snd.1, IntKind.i64.wrap (x.snd.snd.fst + (1 : Int)), ()))) n (x.fst, List.append x.snd.fst [x.snd.snd.fst], ())) (G (x.fst, x.snd.1, IntKind.i64.wrap (x.snd.snd.fst + (1 : Int)), ()))) (Br (decide (x.fst > (1 : Int))) (((↑(List.length x.snd.fst) : Int) + (↑[x.fst].length : Int)) * (8 : Int) ≤ (140737488355328 : Int) ∧ (List.append x.snd.fst [x.fst], ()) = C117.post (n, ())) ((x.snd.1, ()) = C117.post (n, ())))) n_1 (n, [], (2 : Int), ())
 generalize hR : Pl.primesL 50000 n 2 [] = R
 refine itl_rule (fun s => ∃ f : Nat, R = Pl.primesL f s.1 s.2.2.1 s.2.1 ∧ 1 ≤ s.1 ∧ s.1 ≤ 2147483647 ∧ 2 ≤ s.2.2.1 ∧ s.2.2.1 ≤ 46342 ∧ (f : Int) + s.2.2.1 = 50002 ∧ (s.2.1.length : Int) ≤ s.2.2.1) (fun s => (50000 - s.2.2.1).toNat) ⟨50000, hR.symm, n1, n2, by simp, by simp, by simp, by simp⟩ ?_
 rintro ⟨m, out, p, ⟨⟩⟩ G ⟨f, e, m1, m2, p2, p4, hf, hlen⟩ hG
 simp only at e m1 m2 p2 p4 hf hlen hG ⊢
 obtain ⟨f', rfl⟩ : ∃ f', f = f' + 1 := ⟨f - 1, by omega⟩
 have hpp0 : 0 ≤ p * p := Int.mul_nonneg (by omega) (by omega)
 have hpp : p * p ≤ 46342 * 46342 := Int.mul_le_mul p4 p4 (by omega) (by omega)
 rw [wrap_i64 (x := p * p) (by omega) (by omega)]
 rw [Pl.primesL] at e
 refine Br_of (fun h => ?_) (fun h => ?_)
 ·have h := of_decide_eq_true h
  rw [decide_eq_true h, cond_true] at e
  have hp46 : p ≤ 46340 := by
   rcases ilt p 46341 with h' | h'
   ·omega
   ·have : 46341 * 46341 ≤ p * p := Int.mul_le_mul h' h' (by omega) (by omega)
    omega
  rw [tmod_pos (by omega)]
  refine ⟨by omega, Br_of (fun hm => ?_) (fun hm => ?_)⟩
  ·have hm : m % p = 0 := by simpa using hm
   rw [decide_eq_true hm, cond_true] at e
   refine ⟨by simp only [List.length_singleton]; omega, ?_⟩
   generalize hS : Pl.divL p 64 m = S at *
   refine itl_rule (fun s => ∃ k : Nat, S = Pl.divL p k s.1 ∧ s.2.1 = out ++ [p] ∧ 1 ≤ s.1 ∧ s.1 ≤ m ∧ s.1 < p ^ k) (fun s => s.1.toNat) ⟨64, hS.symm, rfl, m1, Int.le_refl _, pow64 p2 (by omega)⟩ ?_
   rintro ⟨z, o, ⟨⟩⟩ G1 ⟨k, e1, e2, z1, z2, zk⟩ hG1
   simp only at e1 e2 z1 z2 zk hG1 ⊢
   subst e2
   rw [tmod_pos (by omega)]
   obtain ⟨k', rfl⟩ : ∃ k', k = k' + 1 := by
    cases k with
    | zero => simp at zk; omega
    | succ k => exact ⟨k, rfl⟩
   rw [Pl.divL] at e1
   refine ⟨by omega, Br_of (fun hz => ?_) (fun hz => ?_)⟩
   ·have hz : z % p = 0 := by simpa using hz
    rw [decide_eq_true hz, cond_true] at e1
    obtain ⟨c, rfl⟩ := Int.dvd_of_emod_eq_zero hz
    rw [tdiv_pos (by omega), Int.mul_ediv_cancel_left _ (by omega)] at *
    have hc1 : 1 ≤ c := by
     rcases ilt c 1 with h3 | h3
     ·have : p * c ≤ p * 0 := Int.mul_le_mul_of_nonneg_left (by omega) (by omega)
      omega
     ·exact h3
    have hc2 : 2 * c ≤ p * c := Int.mul_le_mul_of_nonneg_right (by omega) (by omega)
    rw [wrap_i64 (by omega) (by omega)]
    refine ⟨by omega, hG1 _ ⟨k', e1, rfl, hc1, by simp only; omega, ?_⟩ (by simp only; omega)⟩
    rw [Int.pow_succ, Int.mul_comm (p ^ k')] at zk
    exact Int.lt_of_mul_lt_mul_left zk (by omega)
   ·have hz : z % p ≠ 0 := by simpa using hz
    rw [decide_eq_false hz, cond_false] at e1
    rw [wrap_i64 (by omega) (by omega)]
    refine hG _ ⟨f', by simp only; rw [e, e1], by simp only; omega, by simp only; omega, by simp only; omega, by simp only; omega, by simp only; omega, by simp; omega⟩ (by simp only; omega)
  ·have hm : m % p ≠ 0 := by simpa using hm
   rw [decide_eq_false hm, cond_false] at e
   rw [wrap_i64 (by omega) (by omega)]
   exact hG _ ⟨f', e, m1, m2, by simp only; omega, by simp only; omega, by simp only; omega, by simp only; omega⟩ (by simp only; omega)
 ·have h := of_decide_eq_false h
  rw [decide_eq_false h, cond_false] at e
  refine Br_of (fun hm => ?_) (fun hm => ?_)
  ·have hm := of_decide_eq_true hm
   rw [decide_eq_true hm, cond_true] at e
   refine ⟨by simp only [List.length_singleton]; omega, ?_⟩
   show _ = (Pl.primesL 50000 n 2 [], ())
   rw [hR, e]; rfl
  ·have hm := of_decide_eq_false hm
   rw [decide_eq_false hm, cond_false] at e
   show _ = (Pl.primesL 50000 n 2 [], ())
   rw [hR, e]
theorem snd147 : Sound Try.prog 147 C147 := fn_sound (T := TT []) (fn := Try.f147) (tok0 trivial) Try.func147 (by kernel_rfl) H147 vc147 (by kernel_rfl)
theorem snd165 : Sound Try.prog 165 C165 := fn_sound (T := TT []) (fn := Try.f165) (tok0 trivial) Try.func165 (by kernel_rfl) H165 vc165 (by kernel_rfl)
theorem snd148 : Sound Try.prog 148 C148 := fn_sound (T := TT []) (fn := Try.f148) (tok0 trivial) Try.func148 (by kernel_rfl) H148 vc148 (by kernel_rfl)
theorem snd117 : Sound Try.prog 117 C117 := fn_sound (T := TT []) (fn := Try.f117) (tok0 trivial) Try.func117 (by kernel_rfl) H117 vc117 (by kernel_rfl)
theorem snd184 : Sound Try.prog 184 C184 := fn_sound (T := TT []) (fn := Try.f184) (tok0 trivial) Try.func184 (by kernel_rfl) H0 vc184 (by kernel_rfl)
theorem snd185 : Sound Try.prog 185 C185 := fn_sound (T := TT []) (fn := Try.f185) (tok0 trivial) Try.func185 (by kernel_rfl) H0 vc185 (by kernel_rfl)
theorem snd182 : Sound Try.prog 182 C182 := fn_sound (T := TT []) (fn := Try.f182) (tok0 trivial) Try.func182 (by kernel_rfl) H0 vc182 (by kernel_rfl)
end Fd
end
section
set_option linter.unusedVariables false
set_option linter.unusedSimpArgs false
set_option maxRecDepth 100000
namespace Go.Proofs
open Go.RowKit Go.Lib
set_option maxHeartbeats 2000000 in
theorem clone0_nil (c : Nat) (w : World) : Calls Try.prog 123 #[.slice none 0 c] w fun e w' => e = .returned (.slice none 0 0) ∧ w' = w := by
 have t30 : Try.prog.underlying 30 = some (.slice 3) := by kernel_rfl
 have q22 : ∀ (w : World) (a : Option Addr) (n c n' c' : Nat), (binOp .eql 30 (.slice a n c) (.slice none n' c')).run Try.prog w = .ok (.bool a.isNone) w := fun w a n c n' c' => Lib.run_eql_slice_nil w _ _ a n c n' c' t30
 go_enter Try.func123, Try.ntmps123
 go_wp2
 go_ret
 exact ⟨rfl, rfl⟩
set_option maxHeartbeats 2000000 in
theorem clone0_some (a : Addr) (c : Nat) (w : World) : Calls Try.prog 123 #[.slice (some a) 0 c] w fun e w' => ∃ v', e = .returned v' ∧ w'.ownsRow w.heap.size 3 1 v' 0 [] ∧ Below w.heap.size w w' := by
 have t30 : Try.prog.underlying 30 = some (.slice 3) := by kernel_rfl
 have t3 : Try.prog.underlying 3 = some (.int .i64) := by kernel_rfl
 obtain ⟨i0, hi, hz0, hz1, hz2⟩ := info_parts (P := Try.prog) (e := 3) (z := .int .i64 0) (size := 1) (bytes := 8) (by kernel_rfl)
 have q22 : ∀ (w : World) (a : Option Addr) (n c n' c' : Nat), (binOp .eql 30 (.slice a n c) (.slice none n' c')).run Try.prog w = .ok (.bool a.isNone) w := fun w a n c n' c' => Lib.run_eql_slice_nil w _ _ a n c n' c' t30
 have u22 : ∀ w, Sem.run Try.prog (underlying 30) w = .ok (TypeDesc.slice 3) w := run_underlying t30
 have z3 : ∀ w, (Go.sizeOf 3).run Try.prog w = .ok 1 w := fun w => by simp [Go.sizeOf, typeInfo, hi, hz1]
 go_enter Try.func123, Try.ntmps123
 go_wp2_with (at_builtin; refine wpList_append_own _ rfl _ _ 30 rfl w.heap.size 3 i0 (.int .i64 0) 1 8 t30 hi hz0 hz1 hz2 rfl (by decide) _ _ _ rfl (World.ownsRow_made w #[] 0 (Nat.le_refl _) (Nat.zero_le _) rfl) a 0 c [] rfl rfl (by intro j u hj; simp at hj) (by intro u hu; cases hu) (by unfold maxLen; omega) (by omega) (by simp) ?_)
 intro v' w1 hown hgrow hnil
 go_wp2
 go_ret
 refine ⟨v', rfl, by simpa using hown, ?_⟩
 exact ((Below.refl _ w).alloc (Nat.le_refl _) _).grown hgrow (by simp) (by intro k hk; simp [Value.ownBlock] at hk; omega)
end Go.Proofs
namespace Fd
open Go Fw Go.Proofs Go.RowKit
theorem clone0_post (w w' : World) (O : OO) (v : Value) (hb : Below w.heap.size w w') (ho : w'.ownsRow w.heap.size 3 1 v 0 []) (x : List Int) (hx : x = []) : CPost C123 (x, ()) w O (.returned v) w' := by
 subst hx
 refine ⟨v, rfl, hb, fun ι => ?_, fun e he t xs hxs => ?_⟩
 ·show VRep w' O (.slc false i64 []) v
  rcases ho.2 with ⟨h5, h6⟩ | ⟨g, cap, cur, h5, _⟩
  ·subst h5; exact ⟨⟨none, 0, rfl, Nat.le_refl _, fun h => by simp at h⟩, fun h => by cases h⟩
  ·subst h5; exact ⟨⟨some ⟨g, 0, none⟩, cap, rfl, by simp, fun h => by simp at h⟩, fun h => by cases h⟩
 ·have he' : (3 : Nat) = e := by injection he
  subst he'
  have e1 : encs C123.res (C123.post (([] : List Int), ())) = [.slc false i64 []] := rfl
  rw [e1] at hxs
  injection hxs with h1 h2
  injection h1 with h3 h4 h5
  subst h4
  have h5 := eq_of_heq h5
  subst h5
  exact ⟨[], ho, fun j hj => by simp at hj⟩
theorem snd123 : Sound Try.prog 123 C123 := by
 have hne : Sound Try.prog 123 C123e := fn_sound (T := TT []) (fn := Try.f123) (tok0 trivial) Try.func123 (by kernel_rfl) H123 vc123 (by kernel_rfl)
 refine ⟨nrc_ty rfl, ?_⟩
 rintro ⟨(l : List Int), ⟨⟩⟩ hpre w O vs hO hl
 by_cases h0 : 0 < l.length
 ·rcases hne.2 (l, ()) ⟨hpre, h0⟩ w O vs hO hl with ⟨h1, h2⟩ | ⟨v, w', h1, h2⟩
  ·exact .inl ⟨h1, h2⟩
  ·exact .inr ⟨v, w', h1, h2⟩
 ·have hl0 : l = [] := List.eq_nil_of_length_eq_zero (by omega)
  subst hl0
  obtain ⟨u, us, e1, hu, e2⟩ := hl
  have e2 : us = [] := e2
  subst e2
  have hvs : vs = #[u] := by
   have := congrArg List.toArray e1
   simpa using this
  subst hvs
  obtain ⟨⟨a, c, rfl, _, _⟩, _⟩ := hu
  left
  refine ⟨run_callFunc Try.func123 (by kernel_rfl) (by kernel_rfl) _, ?_⟩
  cases a with
  | none =>
   refine (clone0_nil c w).mono ?_
   rintro e w' ⟨rfl, rfl⟩
   exact clone0_post _ _ _ _ (Below.refl _ _) (World.ownsRow_nil _ _ _ _) _ rfl
  | some ad =>
   refine (clone0_some ad c w).mono ?_
   rintro e w' ⟨v, rfl, ho, hb⟩
   exact clone0_post _ _ _ _ hb ho _ rfl
end Fd
end
section
set_option linter.unusedVariables false
set_option linter.unusedSimpArgs false
set_option maxRecDepth 100000
namespace Fd
open Go Fw Go.Proofs
open Fm (V Eqv ev e0 Xp)

theorem lin_step {p : Int} {md : List Int} {d : Nat} {out y : List Int} {A v : V} {c : Int} {s j : Nat} (hj : j < y.length) (ho : s + j < out.length)
  (h : Eqv p d (ev md d out v) (Fm.add A (Fm.smul c (Xp md d s (ev md d (y.take j) v))))) {z : Int} (hz : p ∣ z - (out.getD (s + j) 0 + c * y.getD j 0)) :
  Eqv p d (ev md d (out.set (s + j) z) v) (Fm.add A (Fm.smul c (Xp md d s (ev md d (y.take (j + 1)) v)))) := by
 rw [Fm.ev_set _ _ _ _ ho, Fm.ev_take _ hj, Fm.Xp_add, Fm.smul_add, ← Fm.add_assoc, Fm.Xp_smul, Fm.smul_smul, Fm.Xp_Xp]
 refine h.add (Eqv.smul ?_ (Eqv.refl _))
 obtain ⟨k, hk⟩ := hz
 exact ⟨k, by grind⟩
theorem emod_dvd (a p : Int) : p ∣ a % p - a := ⟨-(a / p), by have := Int.emod_add_mul_ediv a p; grind⟩
theorem eqv_zero {d : Nat} {v w : V} (h : Eqv 0 d v w) {i : Nat} (hi : i < d) : v i = w i := by
 obtain ⟨k, hk⟩ := h i hi
 omega
theorem getD_take (l : List Int) (k i : Nat) : (l.take k).getD i 0 = if i < k then l.getD i 0 else 0 := by
 rw [List.getD_eq_getElem?_getD, List.getElem?_take, List.getD_eq_getElem?_getD]
 split <;> rfl
theorem ev_low {md : List Int} {k : Nat} {l : List Int} (h : ∀ i, k ≤ i → l.getD i 0 = 0) {i : Nat} (hi : i < k) : ev md k l e0 i = l.getD i 0 := by
 have h1 : Eqv 0 k (ev md k l e0) (ev md k (l.take k) e0) := Fm.eqv_evl _ fun j => by
  rw [getD_take]
  split
  ·exact Fm.dvd_self_sub _
  ·rw [h j (by omega)]; exact Fm.dvd_self_sub _
 rw [eqv_zero h1 hi, Fm.ev_e0 (by simp; omega)]
 show (l.take k).getD i 0 = _
 rw [getD_take, if_pos hi]
theorem set_getD (l : List Int) (j : Nat) (z : Int) (i : Nat) (hj : j < l.length) : (l.set j z).getD i 0 = if i = j then z else l.getD i 0 := by
 rw [List.getD_eq_getElem?_getD, List.getElem?_set, List.getD_eq_getElem?_getD]
 by_cases h : j = i
 ·subst h; simp [hj]
 ·rw [if_neg h, if_neg (fun e => h e.symm)]
theorem set_mem {P : Int → Prop} {l : List Int} {j : Nat} {z : Int} (h : ∀ c ∈ l, P c) (hz : P z) : ∀ c ∈ l.set j z, P c := by
 intro c hc
 rcases List.mem_or_eq_of_mem_set hc with h1 | h1
 ·exact h c h1
 ·subst h1; exact hz
theorem mrow1 (l : List Int) : mrow [some l] (([] : List (Option (List Int))).length + 1) = l := rfl
theorem mal1 (l : List Int) : mal [some l] (([] : List (Option (List Int))).length + 1) := ⟨l, rfl⟩
theorem mset1 (l l' : List Int) : mset [some l] (([] : List (Option (List Int))).length + 1) l' = [some l'] := rfl
theorem lstV_take {p : Int} {k n : Nat} {l : List Int} {v : V} (hn : n ≤ l.length) (h : ∀ i, i < n → l.getD i 0 = v i) : l.take n = lstV n v := by
 refine List.ext_getElem? fun i => ?_
 by_cases hi : i < n
 ·rw [List.getElem?_take, if_pos hi]
  have h1 := h i hi
  have h2 : (lstV n v).getD i 0 = v i := by rw [lstV_getD, if_pos hi]
  rw [List.getD_eq_getElem?_getD, List.getElem?_eq_getElem (by omega)] at h1
  rw [List.getD_eq_getElem?_getD, List.getElem?_eq_getElem (by rw [lstV_length]; exact hi)] at h2
  simp only [Option.getD] at h1 h2
  rw [List.getElem?_eq_getElem (by omega), List.getElem?_eq_getElem (by rw [lstV_length]; exact hi), h1, h2]
 ·rw [List.getElem?_eq_none (by simp; omega), List.getElem?_eq_none (by rw [lstV_length]; omega)]
theorem vc149 : ∀ x, C149.pre x → VC T149 H149 Try.f149 C149 x := by
 rintro ⟨(l : List Int), (m : List Int), (p : Int), ⟨⟩⟩ ⟨⟨(p2 : 2 ≤ p), (p6 : p ≤ 65536)⟩, (hl : ∀ c ∈ l, 0 ≤ c ∧ c < p), (hlen : l.length ≤ 1000), (hm : ∀ c ∈ m, 0 ≤ c ∧ c < p), (m2 : 2 ≤ m.length), (m10 : m.length ≤ 1000), (mt : m.getD (m.length - 1) 0 = 1)⟩
 show l.length ≤ (1000000000 : Nat) ∧ mal (mnew [] l) ([].length + (1 : Nat)) ∧ ∃ (n : Nat), itl (fun (G : Int × List (Option (List Int)) × PUnit → Prop) (x : Int × List (Option (List Int)) × PUnit) => Br (decide (x.fst ≥ IntKind.i64.wrap ((↑m.length : Int) - (1 : Int)))) (mal x.snd.fst ([].length + (1 : Nat)) ∧ (0 : Int) ≤ x.fst ∧ x.fst < (↑(mrow x.snd.fst ([].length + (1 : Nat))).length : Int) ∧ mal x.snd.fst ([].length + (1 : Nat)) ∧ (0 : Int) ≤ x.fst ∧ x.fst < (↑(mrow x.snd.fst ([].length + (1 : Nat))).length : Int) ∧ ∃ (n : Nat), itl (fun (G_1 : Int × List (Option (List Int)) × PUnit → Prop) (x_1 : Int × List (Option (List Int)) × PUnit) => Br (decide (x_1.fst < (↑m.length : Int))) ((0 : Int) ≤ x_1.fst ∧ x_1.fst < (↑m.length : Int) ∧ mal x_1.snd.fst ([].length + (1 : Nat)) ∧ (0 : Int) ≤ IntKind.i64.wrap (IntKind.i64.wrap (x.fst - IntKind.i64.wrap ((↑m.length : Int) - (1 : Int))) + x_1.fst) ∧ IntKind.i64.wrap (IntKind.i64.wrap (x.fst - IntKind.i64.wrap ((↑m.length : Int) - (1 : Int))) + x_1.fst) < (↑(mrow x_1.snd.fst ([].length + (1 : Nat))).length : Int) ∧ mal x_1.snd.fst ([].length + (1 : Nat)) ∧ (0 : Int) ≤ IntKind.i64.wrap (IntKind.i64.wrap (x.fst - IntKind.i64.wrap ((↑m.length : Int) - (1 : Int))) + x_1.fst) ∧ IntKind.i64.wrap (IntKind.i64.wrap (x.fst - IntKind.i64.wrap ((↑m.length : Int) - (1 : Int))) + x_1.fst) < (↑(mrow x_1.snd.fst ([].length + (1 : Nat))).length : Int) ∧ p ≠ (0 : Int) ∧ mal x_1.snd.fst ([].length + (1 : Nat)) ∧ (0 : Int) ≤ IntKind.i64.wrap (IntKind.i64.wrap (x.fst - IntKind.i64.wrap ((↑m.length : Int) - (1 : Int))) + x_1.fst) ∧ IntKind.i64.wrap (IntKind.i64.wrap (x.fst - IntKind.i64.wrap ((↑m.length : Int) - (1 : Int))) + x_1.fst) < (↑(mrow x_1.snd.fst ([].length + (1 : Nat))).length : Int) ∧ mal x_1.snd.fst ([].length + (1 : Nat)) ∧ (0 : Int) ≤ IntKind.i64.wrap (IntKind.i64.wrap (x.fst - IntKind.i64.wrap ((↑m.length : Int) - (1 : Int))) + x_1.fst) ∧ IntKind.i64.wrap (IntKind.i64.wrap (x.fst - IntKind.i64.wrap ((↑m.length : Int) - (1 : Int))) + x_1.fst) < (↑(mrow x_1.snd.fst ([].length + (1 : Nat))).length : Int) ∧ G_1 (IntKind.i64.wrap (x_1.fst + (1 : Int)), mset x_1.snd.fst ([].length + (1 : Nat)) ((mrow x_1.snd.fst ([].length + (1 : Nat))).set (IntKind.i64.wrap (IntKind.i64.wrap (x.fst - IntKind.i64.wrap ((↑m.length : Int) - (1 : Int))) + x_1.fst)).toNat ((IntKind.i64.wrap (rd i64 (mrow x_1.snd.fst ([].length + (1 : Nat))) (IntKind.i64.wrap (IntKind.i64.wrap (x.fst - IntKind.i64.wrap ((↑m.length : Int) - (1 : Int))) + x_1.fst)) + IntKind.i64.wrap (IntKind.i64.wrap (p - rd i64 (mrow x.snd.fst ([].length + (1 : Nat))) x.fst) * rd i64 m x_1.fst))).tmod p)), ())) (G (IntKind.i64.wrap (x.fst - (1 : Int)), x_1.snd))) n ((0 : Int), x.snd)) (mal x.snd.fst ([].length + (1 : Nat)) ∧ ((0 : Int) ≤ if (↑(mrow x.snd.fst ([].length + (1 : Nat))).length : Int) < IntKind.i64.wrap ((↑m.length : Int) - (1 : Int)) then (↑(mrow x.snd.fst ([].length + (1 : Nat))).length : Int) else IntKind.i64.wrap ((↑m.length : Int) - (1 : Int))) ∧ (if (↑(mrow x.snd.fst ([].length + (1 : Nat))).length : Int) < IntKind.i64.wrap ((↑m.length : Int) - (1 : Int)) then (↑(mrow x.snd.fst ([].length + (1 : Nat))).length : Int) else IntKind.i64.wrap ((↑m.length : Int) - (1 : Int))) ≤ (↑(mrow x.snd.fst ([].length + (1 : Nat))).length : Int) ∧ (sub (mrow x.snd.fst ([].length + (1 : Nat))) (0 : Int) (if (↑(mrow x.snd.fst ([].length + (1 : Nat))).length : Int) < IntKind.i64.wrap ((↑m.length : Int) - (1 : Int)) then (↑(mrow x.snd.fst ([].length + (1 : Nat))).length : Int) else IntKind.i64.wrap ((↑m.length : Int) - (1 : Int))), ()) = C149.post (l, m, p, ()))) n (IntKind.i64.wrap ((↑(mrow (mnew [] l) ([].length + (1 : Nat))).length : Int) - (1 : Int)), mnew [] l, ())
 obtain ⟨k, hk⟩ : ∃ k, m.length = k + 1 := ⟨m.length - 1, by omega⟩
 have hk1 : 1 ≤ k := by omega
 have mt' : m.getD k 0 = 1 := by rw [hk] at mt; simpa using mt
 have hmd : ev m k m e0 = Fm.zero := Fm.ev_md hk1 hk mt'
 have ewk : IntKind.wrap .i64 ((m.length : Int) - 1) = k := by rw [wrap_i64 (by omega) (by omega)]; omega
 refine ⟨by omega, mal1 l, ?_⟩
 rw [ewk, show mnew ([] : List (Option (List Int))) l = [some l] from rfl, mrow1, wrap_i64 (x := (l.length : Int) - 1) (by omega) (by omega)]
 refine itl_rule (fun s => ∃ l' : List Int, s.2.1 = [some l'] ∧ l'.length = l.length ∧ (∀ c ∈ l', 0 ≤ c ∧ c < p) ∧ -1 ≤ s.1 ∧ s.1 < (l.length : Int) ∧ (∀ j : Nat, s.1 < (j : Int) → k ≤ j → l'.getD j 0 = 0) ∧ Eqv p k (ev m k l' e0) (ev m k l e0))
  (fun s => (s.1 + 1).toNat) ⟨l, rfl, rfl, hl, by simp only; omega, by simp only; omega, fun j hj hkj => ?_, Eqv.refl _⟩ ?_
 ·simp only at hj
  rw [List.getD_eq_getElem?_getD, List.getElem?_eq_none (by omega)]; rfl
 ·rintro ⟨i, ms, ⟨⟩⟩ G ⟨l', e1, hl', hin, i1, i2, hz, heq⟩ hG
  simp only at e1 i1 i2 hz hG ⊢
  subst e1
  simp only [mrow1]
  refine Br_of (fun h => ?_) (fun h => ?_)
  ·have h : i ≥ k := of_decide_eq_true h
   obtain ⟨i', rfl⟩ : ∃ i' : Nat, i = i' := ⟨i.toNat, by omega⟩
   have hi' : i' < l'.length := by omega
   have hc := hin _ (getD_mem hi')
   refine ⟨mal1 l', by omega, by omega, mal1 l', by omega, by omega, ?_⟩
   rw [rd_getD, Int.toNat_natCast]
   generalize hcv : l'.getD i' 0 = c at hc ⊢
   refine itl_rule (fun s => ∃ (j : Nat) (l2 : List Int), s.1 = (j : Int) ∧ s.2.1 = [some l2] ∧ j ≤ k + 1 ∧ l2.length = l.length ∧ (∀ c ∈ l2, 0 ≤ c ∧ c < p) ∧ (∀ t : Nat, i' < t → l2.getD t 0 = l'.getD t 0) ∧ (j ≤ k → l2.getD i' 0 = c) ∧ (j = k + 1 → l2.getD i' 0 = 0) ∧
    Eqv p k (ev m k l2 e0) (Fm.add (ev m k l' e0) (Fm.smul (p - c) (Xp m k (i' - k) (ev m k (m.take j) e0))))) (fun s => ((k : Int) + 1 - s.1).toNat)
    ⟨0, l', rfl, rfl, by omega, hl', hin, fun _ _ => rfl, fun _ => hcv, fun h => by omega, ?_⟩ ?_
   ·rw [List.take_zero, ev, Fm.Xp_zero, Fm.smul_zero, Fm.add_zero]; exact Eqv.refl _
   ·rintro ⟨j0, ms, ⟨⟩⟩ G1 ⟨j, l2, e1, e2, hj, hl2, hin2, hz2, hc2, hc3, heq2⟩ hG1
    simp only at e1 e2 hG1 ⊢
    subst e1 e2
    simp only [mrow1, mset1]
    refine Br_of (fun hjm => ?_) (fun hjm => ?_)
    ·have hjm : (j : Int) < m.length := of_decide_eq_true hjm
     have ew : IntKind.wrap .i64 (IntKind.wrap .i64 ((i' : Int) - k) + j) = ((i' - k + j : Nat) : Int) := by
      rw [wrap_i64 (x := (i' : Int) - k) (by omega) (by omega), wrap_i64 (by omega) (by omega)]; omega
     have hlt : i' - k + j < l2.length := by omega
     have hg := hin2 _ (getD_mem hlt)
     have hmj := hm _ (getD_mem (l := m) (i := j) (by omega))
     have hmul : 0 ≤ (p - c) * m.getD j 0 ∧ (p - c) * m.getD j 0 ≤ 65536 * 65536 := by
      refine ⟨Int.mul_nonneg (by omega) (by omega), Int.mul_le_mul (by omega) (by omega) (by omega) (by omega)⟩
     rw [ew, rd_getD, rd_getD, Int.toNat_natCast, Int.toNat_natCast, wrap_i64 (x := p - c) (by omega) (by omega), wrap_i64 (x := (p - c) * m.getD j 0) (by omega) (by omega), wrap_i64 (x := l2.getD (i' - k + j) 0 + (p - c) * m.getD j 0) (by omega) (by omega),
      tmod_pos (by omega), wrap_i64 (x := (j : Int) + 1) (by omega) (by omega)]
     refine ⟨by omega, hjm, mal1 l2, by omega, by omega, mal1 l2, by omega, by omega, by omega, mal1 l2, by omega, by omega, mal1 l2, by omega, by omega, hG1 _ ⟨j + 1, _, rfl, rfl, by omega, by rw [List.length_set]; exact hl2,
      set_mem hin2 ⟨Int.emod_nonneg _ (by omega), Int.emod_lt_of_pos _ (by omega)⟩, fun t ht => ?_, fun hle => ?_, fun he => ?_, lin_step (by omega) hlt heq2 (emod_dvd _ _)⟩ (by simp only; omega)⟩
     ·rw [set_getD _ _ _ _ hlt, if_neg (by omega)]; exact hz2 t ht
     ·rw [set_getD _ _ _ _ hlt, if_neg (by omega)]; exact hc2 (by omega)
     ·have hjk : j = k := by omega
      subst hjk
      rw [set_getD _ _ _ _ hlt, if_pos (by omega), show i' - j + j = i' by omega, hc2 (Nat.le_refl _), mt', Int.mul_one, show c + (p - c) = p by omega, Int.emod_self]
    ·have hjm : ¬ (j : Int) < m.length := of_decide_eq_false hjm
     have hjk : j = k + 1 := by omega
     subst hjk
     rw [wrap_i64 (by omega) (by omega)]
     refine hG _ ⟨l2, rfl, hl2, hin2, by simp only; omega, by simp only; omega, fun t ht hkt => ?_, ?_⟩ (by simp only; omega)
     ·simp only at ht
      by_cases e : t = i'
      ·subst e; exact hc3 rfl
      ·rw [hz2 t (by omega)]; exact hz t (by omega) hkt
     ·rw [← hk, List.take_length, hmd, Fm.Xp_zero, Fm.smul_zero, Fm.add_zero] at heq2
      exact heq2.trans heq
  ·have h : ¬ i ≥ k := of_decide_eq_false h
   have hmin : (if (l'.length : Int) < (k : Int) then (l'.length : Int) else (k : Int)) = (min k l'.length : Nat) := by split <;> omega
   show mal [some l'] (([] : List (Option (List Int))).length + 1) ∧ 0 ≤ (if (l'.length : Int) < (k : Int) then (l'.length : Int) else (k : Int)) ∧ (if (l'.length : Int) < (k : Int) then (l'.length : Int) else (k : Int)) ≤ (l'.length : Int) ∧ (sub l' 0 (if (l'.length : Int) < (k : Int) then (l'.length : Int) else (k : Int)), ()) = C149.post (l, m, p, ())
   rw [hmin]
   refine ⟨mal1 l', by omega, by omega, ?_⟩
   show ((l'.take ((min k l'.length : Nat) : Int).toNat).drop 0, ()) = (lstV (min (m.length - 1) l.length) fun i => ev m (m.length - 1) l e0 i % p, ())
   rw [Int.toNat_natCast, List.drop_zero, hk, Nat.add_sub_cancel, ← hl']
   congr 1
   refine lstV_take (p := p) (k := k) (by omega) fun j hj => ?_
   have hjl : j < l'.length := by omega
   have hjk : j < k := by omega
   have h1 := hin _ (getD_mem hjl)
   rw [← ev_low (md := m) (fun t ht => hz t (by omega) ht) hjk] at h1 ⊢
   obtain ⟨z, hz9⟩ := heq j hjk
   have h3 : ev m k l e0 j = ev m k l' e0 j + p * (-z) := by grind
   rw [h3, Int.add_mul_emod_self_left, Int.emod_eq_of_lt h1.1 h1.2]
theorem snd149 : Sound Try.prog 149 C149 := fn_sound (T := T149) (fn := Try.f149) (tok0 ⟨snd123, trivial⟩) Try.func149 (by kernel_rfl) H149 vc149 (by kernel_rfl)

theorem num_snoc {p : Int} : ∀ (n : Nat) (v : V), Fm.num p (n + 1) v = Fm.num p n v + p ^ n * (v n % p)
 | 0, v => by simp [Fm.num]
 | n + 1, v => by
  rw [Fm.num, num_snoc n, Fm.num, Int.pow_succ]
  grind
theorem num_tail {p : Int} {n : Nat} {v : V} (h : ∀ j, n ≤ j → p ∣ v j) : ∀ m, Fm.num p (n + m) v = Fm.num p n v
 | 0 => rfl
 | m + 1 => by
  rw [← Nat.add_assoc, num_snoc, num_tail h m, Int.emod_eq_zero_of_dvd (h _ (by omega)), Int.mul_zero, Int.add_zero]
theorem eF_val {p a b : Int} {v : D} (hv : v = sumB p ∨ v = difB p) : Pl.eF v a b = (a + Pl.sgn v * b) % p := by
 rcases hv with rfl | rfl
 ·show (a + b) % p = (a + 1 * b) % p
  rw [Int.one_mul]
 ·show (a - b + p) % p = (a + -1 * b) % p
  rw [Int.add_emod_right, show a + -1 * b = a - b by omega]
theorem vc189 : ∀ x, C189.pre x → VC T189 H189 Try.f189 C189 x := by
 rintro ⟨sd, (a : Int), (b : Int), v, ⟨⟩⟩ hpre
 obtain ⟨q, hq, (rfl : sd = _), (⟨a0, a1⟩ : Pl.inQ q a), (⟨b0, b1⟩ : Pl.inQ q b), (hv : v = sumB (Pl.lpf q) ∨ v = difB (Pl.lpf q))⟩ := hpre
 have hp := hq.prime.1
 have hp6 : Pl.lpf q ≤ 65536 := by have := (lpf_spec hq.1 hq.2.1).2.1; have := hq.2.1; omega
 have hq6 := hq.2.1
 have hqp := hq.pow
 obtain ⟨f, cs, rfl⟩ : ∃ f cs, v = .bfn f cs := by
  rcases hv with rfl | rfl
  ·exact ⟨_, _, rfl⟩
  ·exact ⟨_, _, rfl⟩
 show ∃ (n : Nat), itl (fun (G : Int × Int × Int × Int × PUnit → Prop) (x : Int × Int × Int × Int × PUnit) => Br (decide (x.fst > (0 : Int))) (Pl.lpf q ≠ (0 : Int) ∧ Pl.lpf q ≠ (0 : Int) ∧ Pl.eP (D.bfn f cs) (Int.tmod x.fst (Pl.lpf q)) (Int.tmod x.snd.fst (Pl.lpf q)) ∧ Pl.lpf q ≠ (0 : Int) ∧ Pl.lpf q ≠ (0 : Int) ∧ G (IntKind.i64.wrap (Int.tdiv x.fst (Pl.lpf q)), IntKind.i64.wrap (Int.tdiv x.snd.fst (Pl.lpf q)), IntKind.i64.wrap (x.snd.snd.fst + IntKind.i64.wrap (x.snd.snd.snd.fst * Pl.eF (D.bfn f cs) (Int.tmod x.fst (Pl.lpf q)) (Int.tmod x.snd.fst (Pl.lpf q)))), IntKind.i64.wrap (x.snd.snd.snd.fst * Pl.lpf q), ())) (Br (decide (x.snd.fst > (0 : Int))) (Pl.lpf q ≠ (0 : Int) ∧ Pl.lpf q ≠ (0 : Int) ∧ Pl.eP (D.bfn f cs) (Int.tmod x.fst (Pl.lpf q)) (Int.tmod x.snd.fst (Pl.lpf q)) ∧ Pl.lpf q ≠ (0 : Int) ∧ Pl.lpf q ≠ (0 : Int) ∧ G (IntKind.i64.wrap (Int.tdiv x.fst (Pl.lpf q)), IntKind.i64.wrap (Int.tdiv x.snd.fst (Pl.lpf q)), IntKind.i64.wrap (x.snd.snd.fst + IntKind.i64.wrap (x.snd.snd.snd.fst * Pl.eF (D.bfn f cs) (Int.tmod x.fst (Pl.lpf q)) (Int.tmod x.snd.fst (Pl.lpf q)))), IntKind.i64.wrap (x.snd.snd.snd.fst * Pl.lpf q), ())) ((x.snd.snd.fst, ()) = C189.post (slowD q, a, b, D.bfn f cs, ())))) n (a, b, (0 : Int), (1 : Int), ())
 generalize hP : Pl.lpf q = p at *
 let W : V := Fm.add (Fm.dg p a) (Fm.smul (Pl.sgn (.bfn f cs)) (Fm.dg p b))
 have hpow0 : ∀ i : Nat, 0 < p ^ i := fun i => Int.pow_pos (by omega)
 have hsg : Pl.sgn (.bfn f cs) = 1 ∨ Pl.sgn (.bfn f cs) = -1 := by
  rcases hv with h | h
  ·left; rw [h]; rfl
  ·right; rw [h]; rfl
 have step : ∀ (i : Nat) (x y n u : Int), x = a / p ^ i → y = b / p ^ i → u = p ^ i → n = Fm.num p i W → p ^ i ≤ 65536 →
   0 ≤ x ∧ x ≤ 65536 ∧ 0 ≤ y ∧ y ≤ 65536 ∧ Pl.eP (.bfn f cs) (x % p) (y % p) ∧ IntKind.wrap .i64 (n + IntKind.wrap .i64 (u * Pl.eF (.bfn f cs) (x % p) (y % p))) = Fm.num p (i + 1) W ∧ IntKind.wrap .i64 (u * p) = p ^ (i + 1) := by
  intro i x y n u hx hy hu hn hi
  have hx0 : 0 ≤ x := by rw [hx]; exact Int.ediv_nonneg a0 (by have := hpow0 i; omega)
  have hy0 : 0 ≤ y := by rw [hy]; exact Int.ediv_nonneg b0 (by have := hpow0 i; omega)
  have hx1 : x ≤ a := by rw [hx]; exact Int.ediv_le_self _ a0
  have hy1 : y ≤ b := by rw [hy]; exact Int.ediv_le_self _ b0
  have hxm := Int.emod_nonneg x (show p ≠ 0 by omega)
  have hxl := Int.emod_lt_of_pos x (show 0 < p by omega)
  have hym := Int.emod_nonneg y (show p ≠ 0 by omega)
  have hyl := Int.emod_lt_of_pos y (show 0 < p by omega)
  have hE : Pl.eF (.bfn f cs) (x % p) (y % p) = W i % p := by
   rw [eF_val hv, hx, hy]; rfl
  have hE0 := Int.emod_nonneg (W i) (show p ≠ 0 by omega)
  have hE1 := Int.emod_lt_of_pos (W i) (show 0 < p by omega)
  have hm : 0 ≤ u * (W i % p) ∧ u * (W i % p) ≤ 65536 * 65536 := ⟨Int.mul_nonneg (by have := hpow0 i; omega) hE0, Int.mul_le_mul (by omega) (by omega) hE0 (by omega)⟩
  have hup : 0 ≤ u * p ∧ u * p ≤ 65536 * 65536 := ⟨Int.mul_nonneg (by have := hpow0 i; omega) (by omega), Int.mul_le_mul (by omega) (by omega) (by omega) (by omega)⟩
  obtain ⟨r0, r1⟩ := Fm.num_range (p := p) (by omega) (n := i) (v := W)
  refine ⟨hx0, by omega, hy0, by omega, ⟨p, hv, ⟨hp, hp6⟩, ⟨hxm, hxl⟩, hym, hyl⟩, ?_, ?_⟩
  ·rw [hE, wrap_i64 (x := u * (W i % p)) (by omega) (by omega), wrap_i64 (by omega) (by omega), num_snoc, hn, hu]
  ·rw [wrap_i64 (by omega) (by omega), hu]; exact (Int.pow_succ p i).symm
 have div : ∀ (i : Nat) (x z : Int), x = z / p ^ i → x / p = z / p ^ (i + 1) := by
  intro i x z hx
  rw [hx, Int.pow_succ, Int.ediv_mul, if_neg (by have := hpow0 i; omega), Int.add_zero]
 refine itl_rule (fun s => ∃ i : Nat, s.1 = a / p ^ i ∧ s.2.1 = b / p ^ i ∧ s.2.2.1 = Fm.num p i W ∧ s.2.2.2.1 = p ^ i) (fun s => (s.1 + s.2.1).toNat) ⟨0, by simp, by simp, rfl, by simp⟩ ?_
 rintro ⟨x, y, n, u, ⟨⟩⟩ G ⟨i, hx, hy, hn, hu⟩ hG
 simp only at hx hy hn hu hG ⊢
 have hxe := hx
 have hye := hy
 have fin : ∀ z : Int, 0 ≤ z → z < q → z / p ^ i > 0 → p ^ i ≤ 65536 := by
  intro z z0 z1 hz
  rcases ilt z (p ^ i) with h | h
  ·rw [Int.ediv_eq_zero_of_lt z0 h] at hz; omega
  ·omega
 have hx0 : 0 ≤ x := by rw [hx]; exact Int.ediv_nonneg a0 (by have := hpow0 i; omega)
 have hy0 : 0 ≤ y := by rw [hy]; exact Int.ediv_nonneg b0 (by have := hpow0 i; omega)
 have hdx : x / p ≤ x := Int.ediv_le_self _ hx0
 have hdy : y / p ≤ y := Int.ediv_le_self _ hy0
 have hdx0 : 0 ≤ x / p := Int.ediv_nonneg hx0 (by omega)
 have hdy0 : 0 ≤ y / p := Int.ediv_nonneg hy0 (by omega)
 rw [tmod_pos hx0, tmod_pos hy0, tdiv_pos hx0, tdiv_pos hy0]
 refine Br_of (fun h => ?_) (fun h => Br_of (fun h2 => ?_) (fun h2 => ?_))
 ·have h : x > 0 := of_decide_eq_true h
  obtain ⟨_, x6, _, y6, hE, e1, e2⟩ := step i x y n u hx hy hu hn (fin a a0 a1 (by rw [← hx]; exact h))
  have hdlt : x / p < x := Int.ediv_lt_of_lt_mul (by omega) (by
   have : x * 2 ≤ x * p := Int.mul_le_mul_of_nonneg_left hp hx0
   omega)
  rw [e1, e2, wrap_i64 (x := x / p) (by omega) (by omega), wrap_i64 (x := y / p) (by omega) (by omega)]
  exact ⟨by omega, by omega, hE, by omega, by omega, hG _ ⟨i + 1, div i x a hx, div i y b hy, rfl, rfl⟩ (by simp only; omega)⟩
 ·have h2 : y > 0 := of_decide_eq_true h2
  obtain ⟨_, x6, _, y6, hE, e1, e2⟩ := step i x y n u hx hy hu hn (fin b b0 b1 (by rw [← hy]; exact h2))
  have hdlt : y / p < y := Int.ediv_lt_of_lt_mul (by omega) (by
   have : y * 2 ≤ y * p := Int.mul_le_mul_of_nonneg_left hp hy0
   omega)
  rw [e1, e2, wrap_i64 (x := x / p) (by omega) (by omega), wrap_i64 (x := y / p) (by omega) (by omega)]
  exact ⟨by omega, by omega, hE, by omega, by omega, hG _ ⟨i + 1, div i x a hx, div i y b hy, rfl, rfl⟩ (by simp only; omega)⟩
 ·have h : ¬ x > 0 := of_decide_eq_false h
  have h2 : ¬ y > 0 := of_decide_eq_false h2
  have hxz : x = 0 := by omega
  have hyz : y = 0 := by omega
  have zt : ∀ (z : Int), 0 ≤ z → ∀ m j : Nat, z < p ^ m → m ≤ j → Fm.dg p z j = 0 := by
   intro z z0 m j hz hmj
   simp only [Fm.dg]
   rw [Int.ediv_eq_zero_of_lt z0 (Int.lt_of_lt_of_le hz (pow_mono hp hmj))]
   simp
  have lt_of : ∀ z : Int, 0 ≤ z → z / p ^ i = 0 → z < p ^ i := by
   intro z z0 hz
   rcases ilt z (p ^ i) with h | h
   ·exact h
   ·have := (Int.le_ediv_iff_mul_le (hpow0 i) (a := 1) (b := z)).2 (by omega)
    omega
  have tail : ∀ m : Nat, a < p ^ m → b < p ^ m → ∀ j, m ≤ j → p ∣ W j := by
   intro m ha hb j hj
   show p ∣ Fm.dg p a j + Pl.sgn (.bfn f cs) * Fm.dg p b j
   rw [zt a a0 m j ha hj, zt b b0 m j hb hj]
   simp
  have hn2 : n = Fm.num p (Pl.K q).toNat W := by
   rw [hn]
   rcases Nat.le_total i (Pl.K q).toNat with hle | hle
   ·have := num_tail (tail i (lt_of a a0 (by rw [← hx]; exact hxz)) (lt_of b b0 (by rw [← hy]; exact hyz))) ((Pl.K q).toNat - i)
    rw [← this]; congr 1; omega
   ·have := num_tail (tail (Pl.K q).toNat (by rw [← hqp]; exact a1) (by rw [← hqp]; exact b1)) (i - (Pl.K q).toNat)
    rw [← this]; congr 1; omega
  show (n, ()) = (Pl.eachV q (.bfn f cs) a b, ())
  rw [hn2]
  congr 1
  unfold Pl.eachV
  rcases hsg with h | h
  ·rw [decide_eq_true h, cond_true]
   show Fm.num p _ (Fm.add (Fm.dg p a) (Fm.smul (Pl.sgn (.bfn f cs)) (Fm.dg p b))) = _
   rw [h, Fm.one_smul, ← hP]; rfl
  ·rw [decide_eq_false (by omega), cond_false]
   show Fm.num p _ (Fm.add (Fm.dg p a) (Fm.smul (Pl.sgn (.bfn f cs)) (Fm.dg p b))) = _
   rw [h, ← hP]; rfl
theorem sndVeach : SoundCv Try.prog Veach := cv_of fun x hx => by
 obtain ⟨v, (a : Int), (b : Int), ⟨⟩⟩ := x
 obtain ⟨p, hv, hm⟩ := hx
 rcases hv with hv | hv
 ·have hv : v = sumB p := hv
  subst hv
  exact ⟨185, [.agg [n64 p]], [n64 a, n64 b], C185, ((p, ()), a, b, ()), snd185, .inr ⟨rfl, rfl⟩, hm, rfl, rfl⟩
 ·have hv : v = difB p := hv
  subst hv
  exact ⟨182, [.agg [n64 p]], [n64 a, n64 b], C182, ((p, ()), a, b, ()), snd182, .inr ⟨rfl, rfl⟩, hm, rfl, rfl⟩
theorem nr_slow (q : Int) : (slowD q).nr := ⟨trivial, rfl, trivial, trivial⟩
theorem nrc189 : NRC C189 := by
 refine ⟨?_, fun x hx => ⟨trivial, trivial⟩⟩
 rintro ⟨sd, (a : Int), (b : Int), v, ⟨⟩⟩ hpre
 obtain ⟨q, hq, (rfl : sd = _), _, _, (hv : v = sumB (Pl.lpf q) ∨ v = difB (Pl.lpf q))⟩ := hpre
 refine ⟨nr_slow q, trivial, trivial, ?_, trivial⟩
 rcases hv with rfl | rfl <;> exact ⟨⟨trivial, trivial⟩, trivial⟩
theorem snd189 : Sound Try.prog 189 C189 := fn_sound (T := T189) (fn := Try.f189) (tokg (T := T189) trivial trivial trivial noInv (fun C h => by injection h with h; subst h; exact sndVeach)) Try.func189 (by kernel_rfl) H189 vc189 (by kernel_rfl) (hC := nrc189)
theorem nrcS (f : Int → Int → Int → Int) : NRC (Cs f) := by
 refine ⟨?_, fun x hx => ⟨trivial, trivial⟩⟩
 rintro ⟨sd, (a : Int), (b : Int), ⟨⟩⟩ hpre
 obtain ⟨q, hq, _, (rfl : sd = _), _, _⟩ := hpre
 exact ⟨nr_slow q, trivial, trivial, trivial⟩
theorem vc188 : ∀ x, C188.pre x → VC T188 Hf3 Try.f188 C188 x := by
 rintro ⟨sd, (a : Int), (b : Int), ⟨⟩⟩ hpre
 obtain ⟨q, hq, hK, (rfl : sd = _), (ha : Pl.inQ q a), (hb : Pl.inQ q b)⟩ := hpre
 show Pl.okE (D.agg [n64 (Pl.lpf q), D.slc false i64 (Pl.md q), n64 q]) a b
    (D.bfn (Fn.func (185 : Nat)) [D.agg [n64 (Pl.lpf q)]]) ∧
   (Pl.eachV (Pl.qS (D.agg [n64 (Pl.lpf q), D.slc false i64 (Pl.md q), n64 q]))
      (D.bfn (Fn.func (185 : Nat)) [D.agg [n64 (Pl.lpf q)]]) a b,
     ()) =
    C188.post (slowD q, a, b, ())
 exact ⟨⟨q, hq, rfl, ha, hb, .inl rfl⟩, rfl⟩
theorem vc186 : ∀ x, C186.pre x → VC T188 Hf3 Try.f186 C186 x := by
 rintro ⟨sd, (a : Int), (b : Int), ⟨⟩⟩ hpre
 obtain ⟨q, hq, hK, (rfl : sd = _), (ha : Pl.inQ q a), (hb : Pl.inQ q b)⟩ := hpre
 show Pl.okE (D.agg [n64 (Pl.lpf q), D.slc false i64 (Pl.md q), n64 q]) a b
    (D.bfn (Fn.func (182 : Nat)) [D.agg [n64 (Pl.lpf q)]]) ∧
   (Pl.eachV (Pl.qS (D.agg [n64 (Pl.lpf q), D.slc false i64 (Pl.md q), n64 q]))
      (D.bfn (Fn.func (182 : Nat)) [D.agg [n64 (Pl.lpf q)]]) a b,
     ()) =
    C186.post (slowD q, a, b, ())
 exact ⟨⟨q, hq, rfl, ha, hb, .inr rfl⟩, rfl⟩
theorem snd188 : Sound Try.prog 188 C188 := fn_sound (T := T188) (fn := Try.f188) (tok0 ⟨snd189, trivial⟩) Try.func188 (by kernel_rfl) Hf3 vc188 (by kernel_rfl) (hC := nrcS _)
theorem snd186 : Sound Try.prog 186 C186 := fn_sound (T := T188) (fn := Try.f186) (tok0 ⟨snd189, trivial⟩) Try.func186 (by kernel_rfl) Hf3 vc186 (by kernel_rfl) (hC := nrcS _)
end Fd
end
section
set_option linter.unusedVariables false
set_option linter.unusedSimpArgs false
set_option linter.unusedSectionVars false
set_option maxRecDepth 100000
namespace Fd
open Go Fw Go.RowKit Go.Proofs
open Fm (V Eqv ev e0 Xp)

section
variable {q : Int} (hq : isQ q)
include hq
theorem isQ.p6 : Pl.lpf q ≤ 65536 := by have := (lpf_spec hq.1 hq.2.1).2.1; have := hq.2.1; omega
theorem digs_lt {a : Int} (a0 : 0 ≤ a) (a1 : a < q) : (Fm.digs (Pl.lpf q) 64 a).length ≤ (Pl.K q).toNat := by
 have e := hq.pow
 exact Fm.digs_len_le hq.prime.1 64 (Pl.K q).toNat a a0 (by rw [← e]; exact a1)
theorem digs_dgL {a : Int} (a0 : 0 ≤ a) (a1 : a < q) (i : Nat) : (Fm.digs (Pl.lpf q) 64 a).getD i 0 = (Fm.dgL (Pl.lpf q) (Pl.K q).toNat a).getD i 0 := by
 have hp2 := hq.prime.1
 have e := hq.pow
 show (Fm.digs (Pl.lpf q) 64 a).getD i 0 = _
 rw [Fm.digs_getD hp2 64 _ a0 (pow64 hp2 (by have := hq.2.1; omega)), Fm.dgL_getD (by omega)]
 split
 ·rfl
 ·rename_i hi
  simp only [Fm.dg]
  have hle : q ≤ Pl.lpf q ^ i := by
   conv => lhs; rw [e]
   exact pow_mono hp2 (by omega)
  rw [Int.ediv_eq_zero_of_lt a0 (Int.lt_of_lt_of_le a1 hle)]
  simp
theorem ev_digs_mul {a b : Int} (a0 : 0 ≤ a) (a1 : a < q) (b0 : 0 ≤ b) (b1 : b < q) :
  Fm.num (Pl.lpf q) (Pl.K q).toNat (ev (Pl.md q) (Pl.K q).toNat (Fm.digs (Pl.lpf q) 64 a) (ev (Pl.md q) (Pl.K q).toNat (Fm.digs (Pl.lpf q) 64 b) e0)) = Pl.mul q a b := by
 refine Fm.num_congr ((Fm.eqv_evl _ fun i => by rw [digs_dgL hq a0 a1]; exact Fm.dvd_self_sub _).trans (Eqv.ev _ ?_))
 refine (Fm.eqv_evl (l' := Fm.dgL (Pl.lpf q) (Pl.K q).toNat b) _ fun i => by rw [digs_dgL hq b0 b1]; exact Fm.dvd_self_sub _).trans ?_
 exact Fm.Fld.dgl_eqv (fld_ok hq) b
end
theorem digs_pos {p a : Int} (ha : 0 < a) : 0 < (Fm.digs p 64 a).length := by
 show 0 < (Fm.digs p 64 a).length
 rw [Fm.digs, decide_eq_true (by omega), cond_true]
 simp
theorem lstV_mem {P : Int → Prop} : ∀ {n : Nat} {v : V}, (∀ i, P (v i)) → ∀ c ∈ lstV n v, P c
 | 0, _, _, c, hc => by simp [lstV] at hc
 | n + 1, v, h, c, hc => by
  rw [lstV, List.mem_cons] at hc
  rcases hc with rfl | hc
  ·exact h 0
  ·exact lstV_mem (fun i => h (i + 1)) c hc
theorem vc152 : ∀ x, C152.pre x → VC T152 H152 Try.f152 C152 x := by
 rintro ⟨sd, (a : Int), (b : Int), ⟨⟩⟩ hpre
 obtain ⟨q, hq, hK, (rfl : sd = _), (⟨a0, a1⟩ : Pl.inQ q a), (⟨b0, b1⟩ : Pl.inQ q b)⟩ := hpre
 show Pl.okN a (Pl.lpf q) ∧ Pl.okN b (Pl.lpf q) ∧ Br ((↑(Pl.digs (Pl.lpf q) a).length : Int) == (0 : Int)) (((0 : Int), ()) = C152.post (slowD q, a, b, ())) (Br ((↑(Pl.digs (Pl.lpf q) b).length : Int) == (0 : Int)) (((0 : Int), ()) = C152.post (slowD q, a, b, ())) ((0 : Int) ≤ IntKind.i64.wrap (IntKind.i64.wrap ((↑(Pl.digs (Pl.lpf q) a).length : Int) + (↑(Pl.digs (Pl.lpf q) b).length : Int)) - (1 : Int)) ∧ IntKind.i64.wrap (IntKind.i64.wrap ((↑(Pl.digs (Pl.lpf q) a).length : Int) + (↑(Pl.digs (Pl.lpf q) b).length : Int)) - (1 : Int)) = IntKind.i64.wrap (IntKind.i64.wrap ((↑(Pl.digs (Pl.lpf q) a).length : Int) + (↑(Pl.digs (Pl.lpf q) b).length : Int)) - (1 : Int)) ∧ IntKind.i64.wrap (IntKind.i64.wrap ((↑(Pl.digs (Pl.lpf q) a).length : Int) + (↑(Pl.digs (Pl.lpf q) b).length : Int)) - (1 : Int)) * (8 : Int) ≤ (140737488355328 : Int) ∧ ∃ (n : Nat), itl (fun (G : Int × List Int × PUnit → Prop) (x : Int × List Int × PUnit) => Br (decide (x.fst < (↑(Pl.digs (Pl.lpf q) a).length : Int))) ((0 : Int) ≤ x.fst ∧ x.fst < (↑(Pl.digs (Pl.lpf q) a).length : Int) ∧ ∃ (n : Nat), itl (fun (G_1 : Int × List Int × PUnit → Prop) (x_1 : Int × List Int × PUnit) => Br (decide (x_1.fst < (↑(Pl.digs (Pl.lpf q) b).length : Int))) ((0 : Int) ≤ x_1.fst ∧ x_1.fst < (↑(Pl.digs (Pl.lpf q) b).length : Int) ∧ (0 : Int) ≤ IntKind.i64.wrap (x.fst + x_1.fst) ∧ IntKind.i64.wrap (x.fst + x_1.fst) < (↑(List.length x_1.snd.fst) : Int) ∧ (0 : Int) ≤ IntKind.i64.wrap (x.fst + x_1.fst) ∧ IntKind.i64.wrap (x.fst + x_1.fst) < (↑(List.length x_1.snd.fst) : Int) ∧ Pl.lpf q ≠ (0 : Int) ∧ (0 : Int) ≤ IntKind.i64.wrap (x.fst + x_1.fst) ∧ IntKind.i64.wrap (x.fst + x_1.fst) < (↑(List.length x_1.snd.fst) : Int) ∧ (0 : Int) ≤ IntKind.i64.wrap (x.fst + x_1.fst) ∧ IntKind.i64.wrap (x.fst + x_1.fst) < (↑(List.length x_1.snd.fst) : Int) ∧ G_1 (IntKind.i64.wrap (x_1.fst + (1 : Int)), List.set x_1.snd.fst (IntKind.i64.wrap (x.fst + x_1.fst)).toNat ((IntKind.i64.wrap (rd i64 x_1.snd.fst (IntKind.i64.wrap (x.fst + x_1.fst)) + IntKind.i64.wrap (rd i64 (Pl.digs (Pl.lpf q) a) x.fst * rd i64 (Pl.digs (Pl.lpf q) b) x_1.fst))).tmod (Pl.lpf q)), ())) (G (IntKind.i64.wrap (x.fst + (1 : Int)), x_1.snd))) n ((0 : Int), x.snd)) ((((2 : Int) ≤ Pl.lpf q ∧ Pl.lpf q ≤ (65536 : Int)) ∧ (∀ (c : Int), c ∈ x.snd.1 → (0 : Int) ≤ c ∧ c < Pl.lpf q) ∧ List.length x.snd.1 ≤ (1000 : Nat) ∧ Pl.monic (Pl.lpf q) (Pl.md q)) ∧ Pl.okL (Pl.lpf q) (Pl.red (Pl.lpf q) (Pl.md q) x.snd.1) ∧ (Pl.num (Pl.lpf q) (Pl.red (Pl.lpf q) (Pl.md q) x.snd.1), ()) = C152.post (slowD q, a, b, ()))) n ((0 : Int), List.replicate (IntKind.i64.wrap (IntKind.i64.wrap ((↑(Pl.digs (Pl.lpf q) a).length : Int) + (↑(Pl.digs (Pl.lpf q) b).length : Int)) - (1 : Int))).toNat (0 : Int), ())))
 have hp2 := hq.prime.1
 have hp6 := hq.p6
 have hq6 := hq.2.1
 have hk17 := hq.K64
 have la := digs_lt hq a0 a1
 have lb := digs_lt hq b0 b1
 have ok := fld_ok hq
 obtain ⟨ml, mt⟩ := md_spec hq
 have hmin := md_in hq
 have hval := ev_digs_mul hq a0 a1 b0 b1
 have hax : ∀ c ∈ Fm.digs (Pl.lpf q) 64 a, 0 ≤ c ∧ c < Pl.lpf q := Fm.digs_in hp2 64 a
 have hbx : ∀ c ∈ Fm.digs (Pl.lpf q) 64 b, 0 ≤ c ∧ c < Pl.lpf q := Fm.digs_in hp2 64 b
 have hk1 : 1 ≤ (Pl.K q).toNat := by have := hq.2.2; omega
 have hpk := hq.pow
 refine ⟨⟨a0, by omega, hp2, hp6⟩, ⟨b0, by omega, hp2, hp6⟩, ?_⟩
 have ed : ∀ z, Pl.digs (Pl.lpf q) z = Fm.digs (Pl.lpf q) 64 z := fun _ => rfl
 rw [ed, ed]
 by_cases az : a = 0
 ·subst az
  refine Br_of (fun _ => ?_) (fun h => ?_)
  ·show ((0 : Int), ()) = (Pl.mul q 0 b, ())
   congr 1
   exact (Fm.Fld.zero_mul ok b).symm
  ·exfalso
   have : Fm.digs (Pl.lpf q) 64 0 = [] := rfl
   rw [this] at h
   simp at h
 have xa := digs_pos (p := Pl.lpf q) (show 0 < a by omega)
 refine Br_of (fun h => by have h := eq_of_beq h; omega) (fun _ => ?_)
 by_cases bz : b = 0
 ·subst bz
  refine Br_of (fun _ => ?_) (fun h => ?_)
  ·show ((0 : Int), ()) = (Pl.mul q a 0, ())
   congr 1
   exact (Fm.Fld.mul_zero ok a).symm
  ·exfalso
   have : Fm.digs (Pl.lpf q) 64 0 = [] := rfl
   rw [this] at h
   simp at h
 have xb := digs_pos (p := Pl.lpf q) (show 0 < b by omega)
 refine Br_of (fun h => by have h := eq_of_beq h; omega) (fun _ => ?_)
 generalize hx : Fm.digs (Pl.lpf q) 64 a = x at *
 generalize hy : Fm.digs (Pl.lpf q) 64 b = y at *
 generalize hP : Pl.lpf q = p at *
 generalize hM : Pl.md q = md at *
 generalize hD : (Pl.K q).toNat = d at *
 have elen : IntKind.wrap .i64 (IntKind.wrap .i64 ((x.length : Int) + (y.length : Int)) - 1) = ((x.length + y.length - 1 : Nat) : Int) := by
  rw [wrap_i64 (x := (x.length : Int) + (y.length : Int)) (by omega) (by omega), wrap_i64 (by omega) (by omega)]; omega
 rw [elen, Int.toNat_natCast]
 refine ⟨by omega, rfl, by omega, ?_⟩
 have mulb : ∀ {u v : Int}, 0 ≤ u ∧ u < p → 0 ≤ v ∧ v < p → 0 ≤ u * v ∧ u * v ≤ 4294967296 := fun hu hv => mul_small hp6 hu.1 hu.2 hv.1 hv.2
 refine itl_rule (fun s => ∃ i : Nat, s.1 = (i : Int) ∧ i ≤ x.length ∧ s.2.1.length = x.length + y.length - 1 ∧ (∀ c ∈ s.2.1, 0 ≤ c ∧ c < p) ∧ Eqv p d (ev md d s.2.1 e0) (ev md d (x.take i) (ev md d y e0))) (fun s => ((x.length : Int) - s.1).toNat)
  ⟨0, rfl, Nat.zero_le _, by simp, by intro c hc; have := (List.mem_replicate.1 hc).2; subst this; omega, by simp only; rw [Fm.ev_replicate]; exact Eqv.refl _⟩ ?_
 rintro ⟨i0, out, ⟨⟩⟩ G ⟨i, e1, hi, hlen, hin, heq⟩ hG
 simp only at e1 hlen hin heq hG ⊢
 subst e1
 refine Br_of (fun h => ?_) (fun h => ?_)
 ·have h : (i : Int) < x.length := of_decide_eq_true h
  refine ⟨by omega, h, ?_⟩
  refine itl_rule (fun s => ∃ j : Nat, s.1 = (j : Int) ∧ j ≤ y.length ∧ s.2.1.length = x.length + y.length - 1 ∧ (∀ c ∈ s.2.1, 0 ≤ c ∧ c < p) ∧ Eqv p d (ev md d s.2.1 e0) (Fm.add (ev md d (x.take i) (ev md d y e0)) (Fm.smul (x.getD i 0) (Xp md d i (ev md d (y.take j) e0))))) (fun s => ((y.length : Int) - s.1).toNat)
   ⟨0, rfl, Nat.zero_le _, hlen, hin, by simp only; rw [conv_row0]; exact heq⟩ ?_
  rintro ⟨j0, out2, ⟨⟩⟩ G1 ⟨j, e1, hj, hlen2, hin2, heq2⟩ hG1
  simp only at e1 hlen2 hin2 heq2 hG1 ⊢
  subst e1
  refine Br_of (fun h2 => ?_) (fun h2 => ?_)
  ·have h2 : (j : Int) < y.length := of_decide_eq_true h2
   have ew : IntKind.wrap .i64 ((i : Int) + j) = ((i + j : Nat) : Int) := by rw [wrap_i64 (by omega) (by omega)]; omega
   have hlt : i + j < out2.length := by omega
   have hg := hin2 _ (getD_mem hlt)
   obtain ⟨m0, m1⟩ := mulb (hax _ (getD_mem (l := x) (i := i) (by omega))) (hbx _ (getD_mem (l := y) (i := j) (by omega)))
   rw [ew, rd_getD, rd_getD, rd_getD, Int.toNat_natCast, Int.toNat_natCast, Int.toNat_natCast, wrap_i64 (x := x.getD i 0 * y.getD j 0) (by omega) (by omega), wrap_i64 (x := out2.getD (i + j) 0 + x.getD i 0 * y.getD j 0) (by omega) (by omega), tmod_pos (by omega), wrap_i64 (x := (j : Int) + 1) (by omega) (by omega)]
   refine ⟨by omega, h2, by omega, by omega, by omega, by omega, by omega, by omega, by omega, by omega, by omega, hG1 _ ⟨j + 1, rfl, by omega, by simp only; rw [List.length_set]; exact hlen2,
    set_mem hin2 ⟨Int.emod_nonneg _ (by omega), Int.emod_lt_of_pos _ (by omega)⟩, conv_step (by omega) (by omega) hlt heq2⟩ (by simp only; omega)⟩
  ·have h2 : ¬ (j : Int) < y.length := of_decide_eq_false h2
   have : j = y.length := by omega
   subst this
   rw [conv_row (by omega)] at heq2
   rw [wrap_i64 (by omega) (by omega)]
   exact hG _ ⟨i + 1, rfl, by omega, hlen2, hin2, heq2⟩ (by simp only; omega)
 ·have h : ¬ (i : Int) < x.length := of_decide_eq_false h
  have : i = x.length := by omega
  subst this
  rw [List.take_length] at heq
  have hmonic : Pl.monic p md := ⟨hmin, by omega, by omega, by rw [ml, Nat.add_sub_cancel]; exact mt⟩
  have hred : Pl.red p md out = lstV (min d out.length) fun i => ev md d out e0 i % p := by unfold Pl.red; rw [ml, Nat.add_sub_cancel]
  have hrl : (Pl.red p md out).length = min d out.length := by rw [hred, lstV_length]
  have hrin : ∀ c ∈ Pl.red p md out, 0 ≤ c ∧ c < p := by
   rw [hred]
   exact lstV_mem fun i => ⟨Int.emod_nonneg _ (by omega), Int.emod_lt_of_pos _ (by omega)⟩
  refine ⟨⟨⟨hp2, hp6⟩, hin, by omega, hmonic⟩, ⟨⟨hp2, hp6⟩, hrin, ?_, by omega⟩, ?_⟩
  ·have : p ^ (Pl.red p md out).length ≤ p ^ d := pow_mono hp2 (by omega)
   omega
  ·show (numL p (Pl.red p md out), ()) = (Pl.mul q a b, ())
   congr 1
   rw [← hval, ← Fm.num_congr heq, numL_eq (v := ev md d out e0) (fun i hi => ?_) hrin, hrl]
   ·rcases Nat.le_total d out.length with hle | hle
    ·rw [Nat.min_eq_left hle]
    ·rw [Nat.min_eq_right hle]
     have := num_tail (p := p) (n := out.length) (v := fun i => if i < d then ev md d out e0 i else 0) (fun j hj => by
      by_cases hjd : j < d
      ·rw [if_pos hjd, ev_low (fun t ht => by rw [List.getD_eq_getElem?_getD, List.getElem?_eq_none (by omega)]; rfl) hjd, List.getD_eq_getElem?_getD, List.getElem?_eq_none hj]; exact Int.dvd_zero p
      ·rw [if_neg hjd]; exact Int.dvd_zero p) (d - out.length)
     have e2 : ∀ n, n ≤ d → Fm.num p n (fun i => if i < d then ev md d out e0 i else 0) = Fm.num p n (ev md d out e0) := fun n hn => Fm.num_congr fun t ht => by
      rw [if_pos (by omega)]; exact Fm.dvd_self_sub _
     rw [e2 _ hle, show out.length + (d - out.length) = d by omega, e2 _ (Nat.le_refl _)] at this
     exact this.symm
   ·rw [hred, lstV_getD, if_pos (by rw [← hrl]; exact hi)]
    exact emod_dvd _ _
theorem snd152 : Sound Try.prog 152 C152 := fn_sound (T := T152) (fn := Try.f152) (tok0 ⟨snd147, snd149, snd165, trivial⟩) Try.func152 (by kernel_rfl) H152 vc152 (by kernel_rfl) (hC := nrcS _)

section
variable {q : Int} (hq : isQ q)
include hq
theorem pwL_length : (Pl.pwL q).length = q.toNat - 1 := by unfold Pl.pwL; simp
theorem pwL_getD {i : Nat} (hi : i < q.toNat - 1) : (Pl.pwL q).getD i 0 = (fld q).pow (Pl.gen q) i := by
 unfold Pl.pwL
 rw [List.getD_eq_getElem?_getD, List.getElem?_map, List.getElem?_range hi]; rfl
theorem gen_in (i : Nat) : 0 ≤ (fld q).pow (Pl.gen q) i ∧ (fld q).pow (Pl.gen q) i < q := (in_iff hq _).1 (Fm.Fld.pow_in (fld_ok hq) _ _)
theorem lgAt_spec : ∀ n, n ≤ q.toNat - 1 → (Pl.lgAt q n).length = q.toNat ∧ (∀ c ∈ Pl.lgAt q n, 0 ≤ c ∧ c < q) ∧ ∀ i, i < n → (Pl.lgAt q n).getD ((fld q).pow (Pl.gen q) i).toNat 0 = i
 | 0, _ => ⟨by simp [Pl.lgAt], by intro c hc; have := (List.mem_replicate.1 hc).2; subst this; have := hq.1; omega, fun i hi => by omega⟩
 | n + 1, h => by
  obtain ⟨h1, h2, h3⟩ := lgAt_spec n (by omega)
  have hg := gen_in hq n
  refine ⟨by rw [Pl.lgAt, List.length_set]; exact h1, by rw [Pl.lgAt]; exact set_mem h2 ⟨by omega, by omega⟩, fun i hi => ?_⟩
  rw [Pl.lgAt, set_getD _ _ _ _ (by rw [h1]; omega)]
  have hgi := gen_in hq i
  by_cases e : i = n
  ·subst e; rw [if_pos rfl]
  ·rw [if_neg (fun e2 => e ?_)]
   ·exact h3 i (by omega)
   ·exact (gen_spec hq).2.2.2.2.inj (fld_ok hq) i n (by omega) (by omega) (by omega)
theorem lgL_getD {i : Nat} (hi : i < q.toNat - 1) : (Pl.lgL q).getD ((fld q).pow (Pl.gen q) i).toNat 0 = i := (lgAt_spec hq _ (Nat.le_refl _)).2.2 i hi
theorem lgL_length : (Pl.lgL q).length = q.toNat := (lgAt_spec hq _ (Nat.le_refl _)).1
theorem pow_modN (m : Nat) : (fld q).pow (Pl.gen q) (m % (q.toNat - 1)) = (fld q).pow (Pl.gen q) m := by
 have ok := fld_ok hq
 have hord := (gen_spec hq).2.2.2.2
 conv => rhs; rw [← Nat.div_add_mod m (q.toNat - 1)]
 rw [Fm.Fld.pow_add ok, Fm.Fld.pow_mul ok, hord.2.1, Fm.Fld.one_pow ok, Fm.Fld.one_mul ok (Fm.Fld.pow_in ok _ _)]
end
theorem vc191 : ∀ x, C191.pre x → VC (TT []) H0 Try.f191 C191 x := by
 rintro ⟨td, (a : Int), (b : Int), ⟨⟩⟩ ⟨⟨q, hq, (rfl : td = _), (⟨a0, a1⟩ : Pl.inQ q a)⟩, q', hq', h', hb'⟩
 have hqq : q = q' := by
  simp only [tabsC] at h'
  injection h' with h'
  injection h' with _ h'
  injection h' with _ h'
  injection h' with h' _
  injection h' with _ h'
 subst hqq
 obtain ⟨b0, b1⟩ := (show 0 ≤ b ∧ b < q from hb')
 show Br (a == (0 : Int)) (((0 : Int), ()) = C191.post (D.rptr (tabsC q), a, b, ())) (Br (b == (0 : Int)) (((0 : Int), ()) = C191.post (D.rptr (tabsC q), a, b, ())) ((0 : Int) ≤ a ∧ a < (↑(Pl.lgL q).length : Int) ∧ (0 : Int) ≤ b ∧ b < (↑(Pl.lgL q).length : Int) ∧ (↑(Pl.pwL q).length : Int) ≠ (0 : Int) ∧ (0 : Int) ≤ (IntKind.i64.wrap (rd i64 (Pl.lgL q) a + rd i64 (Pl.lgL q) b)).tmod (↑(Pl.pwL q).length : Int) ∧ (IntKind.i64.wrap (rd i64 (Pl.lgL q) a + rd i64 (Pl.lgL q) b)).tmod (↑(Pl.pwL q).length : Int) < (↑(Pl.pwL q).length : Int) ∧ (rd i64 (Pl.pwL q) ((IntKind.i64.wrap (rd i64 (Pl.lgL q) a + rd i64 (Pl.lgL q) b)).tmod (↑(Pl.pwL q).length : Int)), ()) = C191.post (D.rptr (tabsC q), a, b, ())))
 have ok := fld_ok hq
 have hl := pwL_length hq
 have hg := lgL_length hq
 have hq2 := hq.1
 have hq6 := hq.2.1
 refine Br_of (fun h => ?_) (fun h => Br_of (fun h2 => ?_) (fun h2 => ?_))
 ·have h : a = 0 := by simpa using h
  subst h
  show ((0 : Int), ()) = (Pl.mul q 0 b, ())
  congr 1
  exact (Fm.Fld.zero_mul ok b).symm
 ·have h2 : b = 0 := by simpa using h2
  subst h2
  show ((0 : Int), ()) = (Pl.mul q a 0, ())
  congr 1
  exact (Fm.Fld.mul_zero ok a).symm
 ·have h : a ≠ 0 := by simpa using h
  have h2 : b ≠ 0 := by simpa using h2
  obtain ⟨i, hi, ei⟩ := gen_pow hq a0 a1 h
  obtain ⟨j, hj, ej⟩ := gen_pow hq b0 b1 h2
  rw [rd_getD, rd_getD, rd_getD, ← ei, ← ej, lgL_getD hq hi, lgL_getD hq hj, wrap_i64 (by omega) (by omega), tmod_pos (by omega), hl, hg]
  have em : ((i : Int) + j) % ((q.toNat - 1 : Nat) : Int) = ((i + j) % (q.toNat - 1) : Nat) := by rw [Int.natCast_emod]; rfl
  have hml := Nat.mod_lt (i + j) (show q.toNat - 1 > 0 by omega)
  rw [em, Int.toNat_natCast, pwL_getD hq hml, pow_modN hq]
  have g1 := gen_in hq i
  have g2 := gen_in hq j
  refine ⟨g1.1, by omega, g2.1, by omega, by omega, by omega, by omega, ?_⟩
  show _ = ((fld q).mul _ _, ())
  rw [Fm.Fld.pow_add ok]
theorem vc190 : ∀ x, C190.pre x → VC (TT []) H0 Try.f190 C190 x := by
 rintro ⟨td, (a : Int), ⟨⟩⟩ ⟨⟨q, hq, (rfl : td = _), (⟨a0, a1⟩ : Pl.inQ q a)⟩, (h : a ≠ 0)⟩
 show (0 : Int) ≤ a ∧ a < (↑(Pl.lgL q).length : Int) ∧ (↑(Pl.pwL q).length : Int) ≠ (0 : Int) ∧ (0 : Int) ≤ (IntKind.i64.wrap ((↑(Pl.pwL q).length : Int) - rd i64 (Pl.lgL q) a)).tmod (↑(Pl.pwL q).length : Int) ∧ (IntKind.i64.wrap ((↑(Pl.pwL q).length : Int) - rd i64 (Pl.lgL q) a)).tmod (↑(Pl.pwL q).length : Int) < (↑(Pl.pwL q).length : Int) ∧ (rd i64 (Pl.pwL q) ((IntKind.i64.wrap ((↑(Pl.pwL q).length : Int) - rd i64 (Pl.lgL q) a)).tmod (↑(Pl.pwL q).length : Int)), ()) = C190.post (D.rptr (tabsC q), a, ())
 have ok := fld_ok hq
 have hl := pwL_length hq
 have hg := lgL_length hq
 have hq2 := hq.1
 have hq6 := hq.2.1
 obtain ⟨i, hi, ei⟩ := gen_pow hq a0 a1 h
 rw [rd_getD, rd_getD, ← ei, lgL_getD hq hi, hl, hg, wrap_i64 (by omega) (by omega), tmod_pos (by omega)]
 have em : (((q.toNat - 1 : Nat) : Int) - i) % ((q.toNat - 1 : Nat) : Int) = ((q.toNat - 1 - i) % (q.toNat - 1) : Nat) := by rw [show ((q.toNat - 1 : Nat) : Int) - i = ((q.toNat - 1 - i : Nat) : Int) by omega]; exact (Int.natCast_emod _ _).symm
 have hml := Nat.mod_lt (q.toNat - 1 - i) (show q.toNat - 1 > 0 by omega)
 rw [em, Int.toNat_natCast, pwL_getD hq hml, pow_modN hq]
 have g1 := gen_in hq i
 refine ⟨g1.1, by omega, by omega, by omega, by omega, ?_⟩
 show _ = ((fld q).pow ((fld q).pow (Pl.gen q) i) (q - 2).toNat, ())
 congr 1
 have hord := (gen_spec hq).2.2.2.2
 have hgen := (gen_spec hq)
 rw [← Fm.Fld.pow_mul ok]
 refine Fm.Fld.mul_cancel ok (dom hq) (Fm.Fld.pow_in ok (Pl.gen q) i) (Fm.Fld.pow_in ok _ _) (Fm.Fld.pow_in ok _ _) (Fm.Fld.pow_ne ok (dom hq) ((in_iff hq _).2 ⟨by omega, hgen.2.1⟩) (by omega) i) ?_
 rw [← Fm.Fld.pow_add ok, ← Fm.Fld.pow_add ok, show i + (q.toNat - 1 - i) = q.toNat - 1 by omega, hord.2.1]
 have e : i + i * (q - 2).toNat = (q.toNat - 1) * i := by
  have : (q - 2).toNat + 1 = q.toNat - 1 := by omega
  rw [← this, Nat.add_mul, Nat.one_mul, Nat.mul_comm i, Nat.add_comm]
 rw [e, Fm.Fld.pow_mul ok, hord.2.1, Fm.Fld.one_pow ok]
theorem nr_tabs (q : Int) : D.nrs (tabsC q) := ⟨trivial, rfl, trivial, rfl, rfl, trivial⟩
theorem nrc191 : NRC C191 := by
 refine ⟨?_, fun x hx => ⟨trivial, trivial⟩⟩
 rintro ⟨td, (a : Int), (b : Int), ⟨⟩⟩ ⟨⟨q, hq, (rfl : td = _), _⟩, _⟩
 exact ⟨nr_tabs q, trivial, trivial, trivial⟩
theorem nrc190 : NRC C190 := by
 refine ⟨?_, fun x hx => ⟨trivial, trivial⟩⟩
 rintro ⟨td, (a : Int), ⟨⟩⟩ ⟨⟨q, hq, (rfl : td = _), _⟩, _⟩
 exact ⟨nr_tabs q, trivial, trivial⟩
theorem snd191 : Sound Try.prog 191 C191 := fn_sound (T := TT []) (fn := Try.f191) (tok0 trivial) Try.func191 (by kernel_rfl) H0 vc191 (by kernel_rfl) (hC := nrc191)
theorem snd190 : Sound Try.prog 190 C190 := fn_sound (T := TT []) (fn := Try.f190) (tok0 trivial) Try.func190 (by kernel_rfl) H0 vc190 (by kernel_rfl) (hC := nrc190)
end Fd
end
section
set_option linter.unusedVariables false
set_option linter.unusedSimpArgs false
set_option maxRecDepth 100000
namespace Fd
open Go Fw Go.RowKit Go.Proofs

noncomputable def mrowOf (t : Nat) (name : String) : Option (List (Nat × Nat × Bool) × Option (FuncId × Bool)) := (Try.prog.info? t).bind fun i => (i.methods.find? (·.name == name)).map fun m => (m.path.toList.map fun s => (s.struct, s.index, s.deref), m.func)
theorem mrow_find {t : Nat} {name : String} {p : List (Nat × Nat × Bool)} {f : Option (FuncId × Bool)} (h : mrowOf t name = some (p, f)) {inf : TypeInfo} (h1 : Try.prog.info? t = some inf) :
  ∃ m, inf.methods.find? (·.name == name) = some m ∧ (m.path.toList.map fun s => (s.struct, s.index, s.deref)) = p ∧ m.func = f := by
 unfold mrowOf at h
 rw [h1] at h
 simp only [Option.bind_some] at h
 cases hf : inf.methods.find? (·.name == name) with
 | none => rw [hf] at h; cases h
 | some m =>
  rw [hf] at h
  simp only [Option.map_some, Option.some.injEq, Prod.mk.injEq] at h
  exact ⟨m, rfl, h.1, h.2⟩
theorem methS {t f : Nat} {name : String} {i : TInf} (hi : look tt t = some i) (hst : ∃ fs, i.desc = .struct fs) (hm : mrowOf t name = some ([], some (f, false))) (fuel : Nat) (v : Value) (w : World) :
  (Go.method (fuel + 1) t v name).run Try.prog w = .ok (f, v) w := by
 obtain ⟨inf, d, z, h1, h2, h3, h4, h5, h6, h7⟩ := mkTI_spec (tt_all.spec t _ hi)
 obtain ⟨fs, hst⟩ := hst
 rw [hst] at h6
 obtain ⟨fa, rfl, _⟩ := tdOf_struct h6
 obtain ⟨m, hf, hp, hfn⟩ := mrow_find hm h1
 have hp' : m.path.toList = [] := List.map_eq_nil_iff.1 hp
 unfold Go.method
 simp [typeInfo, h1, hf, hp', hfn, follow, receiverAt, run_underlying h2, Place.get]
theorem methP {t f : Nat} {name : String} {i : TInf} (hi : look tt t = some i) (hst : ∃ e, i.desc = .ptr e) (hm : mrowOf t name = some ([], some (f, true))) (fuel : Nat) (v : Value) (w : World) :
  (Go.method (fuel + 1) t v name).run Try.prog w = .ok (f, v) w := by
 obtain ⟨inf, d, z, h1, h2, h3, h4, h5, h6, h7⟩ := mkTI_spec (tt_all.spec t _ hi)
 obtain ⟨e, hst⟩ := hst
 rw [hst] at h6
 obtain ⟨e', rfl⟩ : ∃ e', d = .pointer e' := by cases d <;> simp [tdOf] at h6; exact ⟨_, rfl⟩
 obtain ⟨m, hf, hp, hfn⟩ := mrow_find hm h1
 have hp' : m.path.toList = [] := List.map_eq_nil_iff.1 hp
 unfold Go.method
 simp [typeInfo, h1, hf, hp', hfn, follow, receiverAt, run_underlying h2, Place.get]
theorem path_one {m : List FieldStep} {a b : Nat} {c : Bool} (h : (m.map fun s => (s.struct, s.index, s.deref)) = [(a, b, c)]) : ∃ s, m = [s] ∧ s.struct = a ∧ s.index = b ∧ s.deref = c := by
 cases m with
 | nil => simp at h
 | cons s l => cases l with
  | nil =>
   simp only [List.map_cons, List.map_nil, List.cons.injEq, Prod.mk.injEq, and_true] at h
   exact ⟨s, rfl, h.1, h.2.1, h.2.2⟩
  | cons s2 l2 => simp at h
theorem field0 {fa : Array Field} {fs : List (Nat × Nat)} (hfa : fs = fa.toList.map fun f => (f.offset, f.type)) {o t : Nat} (h : fs[0]? = some (o, t)) : ∃ f, fa[0]? = some f ∧ f.offset = o ∧ f.type = t := by
 rw [hfa, List.getElem?_map] at h
 cases hx : fa.toList[0]? with
 | none => rw [hx] at h; cases h
 | some f =>
  rw [hx] at h
  simp only [Option.map_some, Option.some.injEq, Prod.mk.injEq] at h
  exact ⟨f, by simpa using hx, h.1, h.2⟩
theorem methT {f : Nat} {name : String} (hm : mrowOf 128 name = some ([(148, 0, true)], some (f, false))) (fuel : Nat) {ad : Addr} {w : World} {O : OO} {q : Int} (hr : PRep w O (tabsC q) ad 0) :
  ∃ rv, (Go.method (fuel + 1) 128 (.pointer (some ad)) name).run Try.prog w = .ok (f, rv) w ∧ VRep w O (slowD q) rv := by
 obtain ⟨inf, d, z, h1, h2, h3, h4, h5, h6, h7⟩ := mkTI_spec (tt_all.spec 128 _ (by rfl))
 obtain ⟨inf2, d2, z2, g1, g2, g3, g4, g5, g6, g7⟩ := mkTI_spec (tt_all.spec 148 _ (by rfl))
 obtain ⟨inf3, d3, z3, k1, k2, k3, k4, k5, k6, k7⟩ := mkTI_spec (tt_all.spec 127 _ (by rfl))
 obtain ⟨fa, rfl, hfa⟩ := tdOf_struct g6
 obtain ⟨fa3, rfl, _⟩ := tdOf_struct k6
 obtain ⟨m, hf, hp, hfn⟩ := mrow_find hm h1
 obtain ⟨s, hs, e1, e2, e3⟩ := path_one hp
 obtain ⟨fl, hf0, hoff, hty⟩ := field0 hfa (o := 0) (t := 127) rfl
 obtain ⟨us, l1, l2⟩ := hr.lrep
 obtain ⟨v, hv1, hv2⟩ := run_load_d (P := Try.prog) (w := w) (tt_all.spec 127 _ (by rfl)) (ad := ad) l1 (fun j u hj => by have := (l2 j u hj).2; rwa [Nat.zero_add] at this) (d := slowD q) rfl
 refine ⟨v, ?_, hv2⟩
 have hmt : m.path.isEmpty = false := by
  cases hpe : m.path with
  | mk l => rw [hpe] at hs; simp at hs; subst hs; rfl
 unfold Go.method
 have ha0 : ad.add 0 = ad := add_zero' ad
 simp [typeInfo, h1, hf, hs, hfn, follow, e1, e2, e3, run_underlying g2, hf0, Place.get, asAddr, fieldPlace, hty, hoff, run_size k1, k4, receiverAt, run_underlying k2, ha0, hv1, hmt]
theorem methF {name : String} (hm : mrowOf 23 name = some ([(112, 0, true)], none)) (fuel : Nat) {ad : Addr} {t : Nat} {v : Value} {w : World} (h : w.cell? (ad.add 0) = some (.iface t v)) :
  (Go.method (fuel + 2) 23 (.pointer (some ad)) name).run Try.prog w = (Go.method (fuel + 1) t v name).run Try.prog w := by
 obtain ⟨inf, d, z, h1, h2, h3, h4, h5, h6, h7⟩ := mkTI_spec (tt_all.spec 23 _ (by rfl))
 obtain ⟨inf2, d2, z2, g1, g2, g3, g4, g5, g6, g7⟩ := mkTI_spec (tt_all.spec 112 _ (by rfl))
 obtain ⟨inf3, d3, z3, k1, k2, k3, k4, k5, k6, k7⟩ := mkTI_spec (tt_all.spec 110 _ (by rfl))
 obtain ⟨fa, rfl, hfa⟩ := tdOf_struct g6
 obtain ⟨m, hf, hp, hfn⟩ := mrow_find hm h1
 obtain ⟨s, hs, e1, e2, e3⟩ := path_one hp
 obtain ⟨fl, hf0, hoff, hty⟩ := field0 hfa (o := 0) (t := 110) rfl
 have hagg : (isAgg 110).run Try.prog w = .ok false w := by
  unfold isAgg
  simp only [Sem.run_bind, run_underlying k2]
  cases d3 <;> first | rfl | (simp [tdOf] at k6)
 rw [show fuel + 2 = (fuel + 1) + 1 from rfl]
 conv => lhs; unfold Go.method
 simp [typeInfo, h1, hf, hs, hfn, follow, e1, e2, e3, run_underlying g2, hf0, Place.get, asAddr, fieldPlace, hty, hoff, run_size k1, k4, loadVar, hagg, load, Sem.run, h]
theorem fuel2 : ∃ k, Try.prog.types.size + Made.depth = k + 2 := by
 have h : Nat.ble 2 (Try.prog.types.size + Made.depth) = true := by kernel_rfl
 have := Nat.le_of_ble_eq_true h
 exact ⟨_, (Nat.sub_add_cancel this).symm⟩
theorem inv_one {w : World} {O : Nat → Prop} {r : Value} {vs : List Value} {name : String} {V Cf : Con} {x : Ars V.args} {y : Ars Cf.args} {f : FuncId} {rd : D} {ds : List D} {rv : Value}
  (hS : Sound Try.prog f Cf) (hy : Cf.pre y) (hO : OKO O w) (ey : encs Cf.args y = rd :: ds) (hds : LRep w ⟨O, nn⟩ ds vs) (hrv : VRep w ⟨O, nn⟩ rd rv)
  (hrun : (callMethod r name vs.toArray).run Try.prog w = (callFunc f (#[rv] ++ vs.toArray)).run Try.prog w) (hp : encs Cf.res (Cf.post y) = encs V.res (V.post x)) (hfr : V.fresh = none) :
  (∃ f args', (callMethod r name vs.toArray).run Try.prog w = .ok (.enter f args') w ∧ Calls Try.prog f args' w (CPost V x w ⟨O, nn⟩)) ∨ (∃ v w', (callMethod r name vs.toArray).run Try.prog w = .ok (.value v) w' ∧ CPost V x w ⟨O, nn⟩ (.returned v) w') := by
 have post : ∀ e w', CPost Cf y w ⟨O, nn⟩ e w' → CPost V x w ⟨O, nn⟩ e w' := by
  rintro e w' ⟨v, he, hb, hv, _⟩
  refine ⟨v, he, hb, fun ι => ?_, fun e he => by rw [hfr] at he; cases he⟩
  rw [← hp]
  exact hv ι
 rcases hS.2 y hy w O (#[rv] ++ vs.toArray) hO (by rw [ey]; exact ⟨rv, vs, by simp, hrv, hds⟩) with ⟨h1, h2⟩ | ⟨v, w', h1, h2⟩
 ·exact .inl ⟨f, _, hrun.trans h1, h2.mono post⟩
 ·exact .inr ⟨v, w', hrun.trans h1, post _ _ h2⟩
theorem call_of {t : Nat} {v rv : Value} {name : String} {f : FuncId} {vs : List Value} {w : World} {k : Nat} (hk : Try.prog.types.size + Made.depth = k) (hm : (Go.method k t v name).run Try.prog w = .ok (f, rv) w) :
  (callMethod (.iface t v) name vs.toArray).run Try.prog w = (callFunc f (#[rv] ++ vs.toArray)).run Try.prog w := by
 unfold callMethod
 simp only [Sem.run_bind, run_program, Result.andThen, hk, hm]
theorem arD_cases {q : Int} (hq : isQ q) : (Pl.K q = 1 ∧ arD q = .iface 123 (modD q)) ∨ (Pl.K q ≠ 1 ∧ arD q = .iface 128 (.rptr (tabsC q))) := by
 unfold arD Pl.tyA Pl.datA
 by_cases h : Pl.K q = 1
 ·rw [decide_eq_true h, lpf_K1 hq h]; exact .inl ⟨h, rfl⟩
 ·rw [decide_eq_false h]; exact .inr ⟨h, rfl⟩
theorem qA_ar {q : Int} (hq : isQ q) : Pl.qA (arD q) = q := by
 rcases arD_cases hq with ⟨_, e⟩ | ⟨_, e⟩ <;> rw [e] <;> rfl
theorem nr_ar {q : Int} (hq : isQ q) : (arD q).nr := by
 rcases arD_cases hq with ⟨_, e⟩ | ⟨_, e⟩ <;> rw [e]
 ·exact ⟨trivial, trivial⟩
 ·exact nr_tabs q
theorem nr_field {q : Int} (hq : isQ q) : (fieldD q).nr := ⟨nr_ar hq, trivial, trivial, trivial, rfl, trivial, trivial⟩
theorem okM_nr {v : D} (h : Pl.okM v) : v.nr := by
 obtain ⟨q, hq, rfl | ⟨_, rfl⟩ | ⟨_, rfl⟩ | rfl⟩ := h
 ·exact nr_ar hq
 ·exact ⟨trivial, trivial⟩
 ·exact nr_slow q
 ·exact nr_field hq
theorem okA_nr {v : D} (h : Pl.okA v) : v.nr := by
 obtain ⟨q, hq, rfl⟩ := h
 exact nr_ar hq
theorem m1_of {q a b : Int} (hq : isQ q) (ha : Pl.inQ q a) (hb : Pl.inQ q b) : Pl.m1 q a b := ⟨⟨hq.1, hq.2.1⟩, ha, hb⟩

theorem sndVP : SoundInv Try.prog "dauber/field.product" VP := by
 refine ⟨⟨fun x hx => ⟨okM_nr hx.1, trivial, trivial, trivial⟩, fun x hx => ⟨trivial, trivial⟩⟩, ?_⟩
 rintro ⟨d, (a : Int), (b : Int), ⟨⟩⟩ ⟨h0, h1, h2⟩ w O r vs hO hl
 obtain ⟨u, us, e, hu, hds⟩ := hl
 injection e with e1 e2
 subst e1 e2
 obtain ⟨k, hk⟩ := fuel2
 simp only at h0 h1 h2
 have mod : ∀ q, isQ q → Pl.K q = 1 → Pl.qA d = q → (∃ rv, (callMethod r "dauber/field.product" vs.toArray).run Try.prog w = (callFunc 184 (#[rv] ++ vs.toArray)).run Try.prog w ∧ VRep w ⟨O, nn⟩ (modD q) rv) → _ := fun q hq hK hqa ⟨rv, hrun, hrv⟩ =>
  inv_one (V := VP) (x := (d, a, b, ())) (Cf := C184) (y := ((q, ()), a, b, ())) (rd := modD q) (ds := [n64 a, n64 b]) snd184 (m1_of hq (hqa ▸ h1) (hqa ▸ h2)) hO rfl hds hrv hrun (by
   show [n64 (a * b % q)] = [n64 (Pl.mul (Pl.qA d) a b)]
   rw [hqa]; unfold Pl.mul; rw [mul1 hq hK]) rfl
 have tab : ∀ q, isQ q → Pl.qA d = q → (∃ rv, (callMethod r "dauber/field.product" vs.toArray).run Try.prog w = (callFunc 191 (#[rv] ++ vs.toArray)).run Try.prog w ∧ VRep w ⟨O, nn⟩ (.rptr (tabsC q)) rv) → _ := fun q hq hqa ⟨rv, hrun, hrv⟩ =>
  inv_one (V := VP) (x := (d, a, b, ())) (Cf := C191) (y := (.rptr (tabsC q), a, b, ())) (rd := .rptr (tabsC q)) (ds := [n64 a, n64 b]) snd191 ⟨⟨q, hq, rfl, hqa ▸ h1⟩, q, hq, rfl, hqa ▸ h2⟩ hO rfl hds hrv hrun (by
   show [n64 (Pl.mul q a b)] = [n64 (Pl.mul (Pl.qA d) a b)]
   rw [hqa]) rfl
 obtain ⟨q, hq, rfl | ⟨hK, rfl⟩ | ⟨hK, rfl⟩ | rfl⟩ := h0
 ·have hqa := qA_ar hq
  rcases arD_cases hq with ⟨hK, e⟩ | ⟨hK, e⟩
  ·rw [e] at hu
   obtain ⟨v, rfl, hv⟩ := hu
   exact mod q hq hK hqa ⟨v, call_of hk (methS (by rfl) ⟨_, rfl⟩ (by kernel_rfl) (k + 1) v w), hv⟩
  ·rw [e] at hu
   obtain ⟨v, rfl, hv⟩ := hu
   exact tab q hq hqa ⟨v, call_of hk (methP (by rfl) ⟨_, rfl⟩ (by kernel_rfl) (k + 1) v w), hv⟩
 ·obtain ⟨v, rfl, hv⟩ := hu
  exact mod q hq hK rfl ⟨v, call_of hk (methS (by rfl) ⟨_, rfl⟩ (by kernel_rfl) (k + 1) v w), hv⟩
 ·obtain ⟨v, rfl, hv⟩ := hu
  exact inv_one (V := VP) (x := (.iface 127 (slowD q), a, b, ())) (Cf := C152) (y := (slowD q, a, b, ())) (rd := slowD q) (ds := [n64 a, n64 b]) snd152 ⟨q, hq, hK, rfl, h1, h2⟩ hO rfl hds hv (call_of hk (methS (by rfl) ⟨_, rfl⟩ (by kernel_rfl) (k + 1) v w)) rfl rfl
 ·obtain ⟨v, rfl, hv⟩ := hu
  obtain ⟨ad, rfl, ⟨c, hc1, hc2⟩, _⟩ := hv
  rcases arD_cases hq with ⟨hK, e⟩ | ⟨hK, e⟩
  ·rw [e] at hc2
   obtain ⟨v', rfl, hv'⟩ := hc2
   exact mod q hq hK rfl ⟨v', call_of hk ((methF (by kernel_rfl) k hc1.2).trans (methS (by rfl) ⟨_, rfl⟩ (by kernel_rfl) k v' w)), hv'⟩
  ·rw [e] at hc2
   obtain ⟨v', rfl, hv'⟩ := hc2
   exact tab q hq rfl ⟨v', call_of hk ((methF (by kernel_rfl) k hc1.2).trans (methP (by rfl) ⟨_, rfl⟩ (by kernel_rfl) k v' w)), hv'⟩

theorem okM_q {v : D} (h : Pl.okM v) : isQ (Pl.qA v) ∧ ∃ t d, v = .iface t d := by
 obtain ⟨q, hq, rfl | ⟨_, rfl⟩ | ⟨_, rfl⟩ | rfl⟩ := h
 ·exact ⟨by rw [qA_ar hq]; exact hq, _, _, rfl⟩
 ·exact ⟨hq, _, _, rfl⟩
 ·exact ⟨hq, _, _, rfl⟩
 ·exact ⟨hq, _, _, rfl⟩
theorem vc100 : ∀ x, C100.pre x → VC T100 H100 Try.f100 C100 x := by
 rintro ⟨v, (a : Int), (n : Int), ⟨⟩⟩ ⟨h0, (⟨a0, a1⟩ : Pl.inQ (Pl.qA v) a), (n0 : 0 ≤ n), (n1 : n ≤ 4611686018427387904)⟩
 obtain ⟨hq, t, d, rfl⟩ := okM_q h0
 show ∃ (n_1 : Nat), itl (fun (G : Int × Int × Int × PUnit → Prop) (x : Int × Int × Int × PUnit) => Br (decide (x.snd.fst > (0 : Int))) ((2 : Int) ≠ (0 : Int) ∧ Br (Int.tmod x.snd.fst (2 : Int) == (1 : Int)) ((Pl.okM (D.iface t d) ∧ Pl.inQ (Pl.qA (D.iface t d)) x.snd.snd.fst ∧ Pl.inQ (Pl.qA (D.iface t d)) x.fst) ∧ (Pl.okM (D.iface t d) ∧ Pl.inQ (Pl.qA (D.iface t d)) x.fst ∧ Pl.inQ (Pl.qA (D.iface t d)) x.fst) ∧ (2 : Int) ≠ (0 : Int) ∧ G (Pl.mul (Pl.qA (D.iface t d)) x.fst x.fst, IntKind.i64.wrap (Int.tdiv x.snd.fst (2 : Int)), Pl.mul (Pl.qA (D.iface t d)) x.snd.snd.fst x.fst, ())) ((Pl.okM (D.iface t d) ∧ Pl.inQ (Pl.qA (D.iface t d)) x.fst ∧ Pl.inQ (Pl.qA (D.iface t d)) x.fst) ∧ (2 : Int) ≠ (0 : Int) ∧ G (Pl.mul (Pl.qA (D.iface t d)) x.fst x.fst, IntKind.i64.wrap (Int.tdiv x.snd.fst (2 : Int)), x.snd.snd))) (x.snd.snd = C100.post (D.iface t d, a, n, ()))) n_1 (a, n, (1 : Int), ())
 simp only at h0
 generalize hQ : Pl.qA (D.iface t d) = q at *
 have ok := fld_ok hq
 have hin : ∀ x, Pl.inQ q x ↔ (fld q).In x := fun x => (in_iff hq x).symm
 refine itl_rule (fun s => Pl.inQ q s.1 ∧ 0 ≤ s.2.1 ∧ s.2.1 ≤ 4611686018427387904 ∧ Pl.inQ q s.2.2.1 ∧ (fld q).mul s.2.2.1 ((fld q).pow s.1 s.2.1.toNat) = (fld q).pow a n.toNat) (fun s => s.2.1.toNat)
  ⟨⟨a0, a1⟩, n0, n1, (hin 1).2 (Fm.Fld.in1 ok), Fm.Fld.one_mul ok (Fm.Fld.pow_in ok _ _)⟩ ?_
 rintro ⟨x, m, out, ⟨⟩⟩ G ⟨hx, m0, m1, ho, e⟩ hG
 simp only at hx m0 m1 ho e hG ⊢
 refine Br_of (fun h => ?_) (fun h => ?_)
 ·have h : m > 0 := of_decide_eq_true h
  rw [tmod_pos m0, tdiv_pos m0, wrap_i64 (by omega) (by omega)]
  have hx2 : Pl.inQ q (Pl.mul q x x) := (hin _).2 (Fm.Fld.mul_in ok _ _)
  have hxo : Pl.inQ q (Pl.mul q out x) := (hin _).2 (Fm.Fld.mul_in ok _ _)
  have sq : ∀ j, (fld q).pow ((fld q).mul x x) j = (fld q).pow x (j + j) := fun j => by rw [Fm.Fld.mul_pow ok, ← Fm.Fld.pow_add ok]
  refine ⟨by omega, Br_of (fun h2 => ?_) (fun h2 => ?_)⟩
  ·have h2 : m % 2 = 1 := eq_of_beq h2
   refine ⟨⟨h0, ho, hx⟩, ⟨h0, hx, hx⟩, by omega, hG _ ⟨hx2, by simp only; omega, by simp only; omega, hxo, ?_⟩ (by simp only; omega)⟩
   show (fld q).mul ((fld q).mul out x) ((fld q).pow ((fld q).mul x x) (m / 2).toNat) = _
   rw [sq, ← e, Fm.Fld.mul_assoc ok]
   conv => rhs; rw [show m.toNat = ((m / 2).toNat + (m / 2).toNat) + 1 by omega]
   rw [Fm.Fld.pow, Fm.Fld.mul_comm ok x]
  ·have h2 : m % 2 ≠ 1 := fun h3 => by rw [h3] at h2; cases h2
   refine ⟨⟨h0, hx, hx⟩, by omega, hG _ ⟨hx2, by simp only; omega, by simp only; omega, ho, ?_⟩ (by simp only; omega)⟩
   show (fld q).mul out ((fld q).pow ((fld q).mul x x) (m / 2).toNat) = _
   rw [sq, ← e, show m.toNat = (m / 2).toNat + (m / 2).toNat by omega]
 ·have h : ¬ m > 0 := of_decide_eq_false h
  have hm : m.toNat = 0 := by omega
  rw [hm, Fm.Fld.pow, Fm.Fld.mul_one ok ((hin _).1 ho)] at e
  show (out, ()) = (Pl.pow (Pl.qA (.iface t d)) a n, ())
  rw [hQ]
  unfold Pl.pow
  rw [e]
theorem nrc100 : NRC C100 := ⟨fun x hx => ⟨okM_nr hx.1, trivial, trivial, trivial⟩, fun x hx => ⟨trivial, trivial⟩⟩
theorem invs1 {name : String} {V : Con} (h : SoundInv Try.prog name V) : ∀ n C, looks [(name, V)] n = some C → SoundInv Try.prog n C := by
 intro n C e
 unfold looks at e
 split at e
 ·rename_i hn _
  subst hn
  injection e with e
  subst e
  exact h
 ·cases e
theorem snd100 : Sound Try.prog 100 C100 := fn_sound (T := T100) (fn := Try.f100) (tokg (T := T100) trivial trivial trivial (invs1 sndVP) noCv) Try.func100 (by kernel_rfl) H100 vc100 (by kernel_rfl) (hC := nrc100)
theorem vc183 : ∀ x, C183.pre x → VC T183 H0 Try.f183 C183 x := by
 rintro ⟨⟨(p : Int), ⟨⟩⟩, (a : Int), ⟨⟩⟩ ⟨(hq : isQ p), (hK : Pl.K p = 1), (ha : Pl.inQ p a)⟩
 show (Pl.okM (D.iface (123 : Nat) (D.agg [D.int IntKind.i64 p])) ∧
    Pl.inQ (Pl.qA (D.iface (123 : Nat) (D.agg [D.int IntKind.i64 p]))) a ∧
     (0 : Int) ≤ IntKind.i64.wrap (p - (2 : Int)) ∧ IntKind.i64.wrap (p - (2 : Int)) ≤ (4611686018427387904 : Int)) ∧
   (Pl.pow (Pl.qA (D.iface (123 : Nat) (D.agg [D.int IntKind.i64 p]))) a (IntKind.i64.wrap (p - (2 : Int))), ()) =
    C183.post ((p, ()), a, ())
 have hp2 := hq.1
 have hp6 := hq.2.1
 rw [wrap_i64 (by omega) (by omega)]
 exact ⟨⟨⟨p, hq, .inr (.inl ⟨hK, rfl⟩)⟩, ha, by omega, by omega⟩, rfl⟩
theorem snd183 : Sound Try.prog 183 C183 := fn_sound (T := T183) (fn := Try.f183) (tok0 ⟨snd100, trivial⟩) Try.func183 (by kernel_rfl) H0 vc183 (by kernel_rfl)
theorem sndVI : SoundInv Try.prog "dauber/field.inverse" VI := by
 refine ⟨⟨fun x hx => ⟨okA_nr hx.1, trivial, trivial⟩, fun x hx => ⟨trivial, trivial⟩⟩, ?_⟩
 rintro ⟨d, (a : Int), ⟨⟩⟩ ⟨h0, h1, (h2 : a ≠ 0)⟩ w O r vs hO hl
 obtain ⟨u, us, e, hu, hds⟩ := hl
 injection e with e1 e2
 subst e1 e2
 obtain ⟨k, hk⟩ := fuel2
 simp only at h0 h1
 obtain ⟨q, hq, rfl⟩ := h0
 have hqa := qA_ar hq
 rw [hqa] at h1
 have hp : encs VI.res (VI.post (arD q, a, ())) = [n64 (Pl.inv q a)] := by show [n64 (Pl.inv (Pl.qA (arD q)) a)] = _; rw [hqa]
 rcases arD_cases hq with ⟨hK, e⟩ | ⟨hK, e⟩
 ·have hu' := hu
  rw [e] at hu'
  obtain ⟨v, rfl, hv⟩ := hu'
  exact inv_one (V := VI) (x := (arD q, a, ())) (Cf := C183) (y := ((q, ()), a, ())) (rd := modD q) (ds := [n64 a]) snd183 ⟨hq, hK, h1⟩ hO rfl hds hv (call_of hk (methS (by rfl) ⟨_, rfl⟩ (by kernel_rfl) (k + 1) v w)) (by rw [hp]; rfl) rfl
 ·have hu' := hu
  rw [e] at hu'
  obtain ⟨v, rfl, hv⟩ := hu'
  exact inv_one (V := VI) (x := (arD q, a, ())) (Cf := C190) (y := (.rptr (tabsC q), a, ())) (rd := .rptr (tabsC q)) (ds := [n64 a]) snd190 ⟨⟨q, hq, rfl, h1⟩, h2⟩ hO rfl hds hv (call_of hk (methP (by rfl) ⟨_, rfl⟩ (by kernel_rfl) (k + 1) v w)) (by rw [hp]; rfl) rfl
theorem sum_inv {name : String} {V : Con} {f1 f2 : FuncId} {C1 C2 : Con} {g : Int → Int → Int → Int} {g1 : Int → Int → Int → Int} (hV : V = ⟨[.raw, I, I], [I], fun (x : D × Int × Int × Unit) => Pl.okA x.1 ∧ Pl.inQ (Pl.qA x.1) x.2.1 ∧ Pl.inQ (Pl.qA x.1) x.2.2.1, fun (x : D × Int × Int × Unit) => (g (Pl.qA x.1) x.2.1 x.2.2.1, ()), none⟩)
  (hC1 : C1 = ⟨[G1, I, I], [I], fun (x : (Int × Unit) × Int × Int × Unit) => Pl.m1 x.1.1 x.2.1 x.2.2.1, fun (x : (Int × Unit) × Int × Int × Unit) => (g1 x.1.1 x.2.1 x.2.2.1, ()), none⟩) (hC2 : C2 = Cs g)
  (s1 : Sound Try.prog f1 C1) (s2 : Sound Try.prog f2 C2) (m1 : mrowOf 123 name = some ([], some (f1, false))) (m2 : mrowOf 128 name = some ([(148, 0, true)], some (f2, false))) (hg : ∀ q a b, isQ q → Pl.K q = 1 → g1 q a b = g q a b) : SoundInv Try.prog name V := by
 subst hV hC1 hC2
 refine ⟨⟨fun x hx => ⟨okA_nr hx.1, trivial, trivial, trivial⟩, fun x hx => ⟨trivial, trivial⟩⟩, ?_⟩
 rintro ⟨d, (a : Int), (b : Int), ⟨⟩⟩ ⟨h0, h1, h2⟩ w O r vs hO hl
 obtain ⟨u, us, e, hu, hds⟩ := hl
 injection e with e1 e2
 subst e1 e2
 obtain ⟨k, hk⟩ := fuel2
 simp only at h0 h1 h2
 obtain ⟨q, hq, rfl⟩ := h0
 have hqa := qA_ar hq
 rw [hqa] at h1 h2
 rcases arD_cases hq with ⟨hK, e⟩ | ⟨hK, e⟩
 ·have hu' := hu
  rw [e] at hu'
  obtain ⟨v, rfl, hv⟩ := hu'
  refine inv_one (Cf := _) (y := ((q, ()), a, b, ())) (rd := modD q) (ds := [n64 a, n64 b]) s1 (m1_of hq h1 h2) hO rfl hds hv (call_of hk (methS (by rfl) ⟨_, rfl⟩ m1 (k + 1) v w)) ?_ rfl
  show [n64 (g1 q a b)] = [n64 (g (Pl.qA (arD q)) a b)]
  rw [hqa, hg q a b hq hK]
 ·have hu' := hu
  rw [e] at hu'
  obtain ⟨v, rfl, hv⟩ := hu'
  obtain ⟨ad, rfl, hv2⟩ := hv
  obtain ⟨rv, hrun, hrv⟩ := methT m2 (k + 1) hv2
  refine inv_one (Cf := Cs g) (y := (slowD q, a, b, ())) (rd := slowD q) (ds := [n64 a, n64 b]) s2 ⟨q, hq, hK, rfl, h1, h2⟩ hO rfl hds hrv (call_of hk hrun) ?_ rfl
  show [n64 (g q a b)] = [n64 (g (Pl.qA (arD q)) a b)]
  rw [hqa]
theorem sndVS : SoundInv Try.prog "dauber/field.sum" VS := sum_inv (C1 := C185) (C2 := C188) (g := Pl.add) (g1 := fun p a b => (a + b) % p) rfl rfl rfl snd185 snd188 (by kernel_rfl) (by kernel_rfl) (fun q a b hq hK => (add1 hq hK a b).symm)
theorem sndVD : SoundInv Try.prog "dauber/field.difference" VD := sum_inv (C1 := C182) (C2 := C186) (g := Pl.sub) (g1 := fun p a b => (a - b + p) % p) rfl rfl rfl snd182 snd186 (by kernel_rfl) (by kernel_rfl) (fun q a b hq hK => (sub1 hq hK a b).symm)
def VV : List (String × Con) := [("dauber/field.sum", VS), ("dauber/field.difference", VD), ("dauber/field.product", VP), ("dauber/field.inverse", VI)]
theorem invsV : ∀ n C, looks VV n = some C → SoundInv Try.prog n C := by
 intro n C e
 unfold VV looks at e
 split at e
 ·rename_i hn _; subst hn; injection e with e; subst e; exact sndVS
 ·unfold looks at e
  split at e
  ·rename_i hn _; subst hn; injection e with e; subst e; exact sndVD
  ·unfold looks at e
   split at e
   ·rename_i hn _; subst hn; injection e with e; subst e; exact sndVP
   ·exact invs1 sndVI n C e
end Fd
end
section
set_option linter.unusedVariables false
set_option linter.unusedSimpArgs false
set_option maxRecDepth 100000
namespace Fd
open Go Fw Go.Proofs

abbrev G4 : Ar := .ty (.pair i64 (.pair i64 (.pair i64 (.pair i64 .unit))))
abbrev R4 := Int × Int × Int × Int × Unit
def RF (q : Int) : R4 := (q, Pl.lpf q, Pl.K q, Pl.Mod q, ())
def Pl.okr (f : R4) : Prop := isQ f.1 ∧ f = RF f.1
theorem okr_RF {q : Int} (h : isQ q) : Pl.okr (RF q) := ⟨h, rfl⟩

def C29 : Con := ⟨[G4, I], [I], fun (x : R4 × Int × Unit) => Pl.okr x.1, fun (x : R4 × Int × Unit) => (x.2.1 % x.1.1, ()), none⟩
def C31 : Con := ⟨[G4, I, I], [I], fun (x : R4 × Int × Int × Unit) => Pl.okr x.1 ∧ Pl.inQ x.1.1 x.2.1 ∧ Pl.inQ x.1.1 x.2.2.1, fun (x : R4 × Int × Int × Unit) => (Pl.add x.1.1 x.2.1 x.2.2.1, ()), none⟩
def C33 : Con := ⟨[G4, I, I], [I], fun (x : R4 × Int × Int × Unit) => Pl.okr x.1 ∧ Pl.inQ x.1.1 x.2.1 ∧ Pl.inQ x.1.1 x.2.2.1, fun (x : R4 × Int × Int × Unit) => (Pl.sub x.1.1 x.2.1 x.2.2.1, ()), none⟩
def C35 : Con := ⟨[G4, I, I], [I], fun (x : R4 × Int × Int × Unit) => Pl.okr x.1 ∧ Pl.inQ x.1.1 x.2.1 ∧ Pl.inQ x.1.1 x.2.2.1, fun (x : R4 × Int × Int × Unit) => (Pl.mul x.1.1 x.2.1 x.2.2.1, ()), none⟩
def C96 : Con := ⟨[G4, I], [I], fun (x : R4 × Int × Unit) => Pl.okr x.1 ∧ Pl.inQ x.1.1 x.2.1, fun (x : R4 × Int × Unit) => (Pl.neg x.1.1 x.2.1, ()), none⟩
def C40 : Con := ⟨[G4, I, I], [I], fun (x : R4 × Int × Int × Unit) => Pl.okr x.1 ∧ Pl.inQ x.1.1 x.2.1 ∧ 0 ≤ x.2.2.1 ∧ x.2.2.1 ≤ 4611686018427387904, fun (x : R4 × Int × Int × Unit) => (Pl.pow x.1.1 x.2.1 x.2.2.1, ()), none⟩
def C99 : Con := ⟨[G4, I], [I], fun (x : R4 × Int × Unit) => Pl.okr x.1 ∧ Pl.inQ x.1.1 x.2.1, fun (x : R4 × Int × Unit) => (Pl.inv x.1.1 x.2.1, ()), none⟩
def C124 : Con := C147
def C141 : Con := C165
def Pl.okTm (p a b : Int) : Prop := ∃ q, isQ q ∧ p = Pl.lpf q ∧ Pl.inQ q a ∧ Pl.inQ q b
def C98 : Con := ⟨[I, I, I], [I], fun (x : Int × Int × Int × Unit) => Pl.okTm x.2.2.1 x.1 x.2.1, fun (x : Int × Int × Int × Unit) => (Pl.tms x.2.2.1 x.1 x.2.1, ()), none⟩
def Pl.okRs (p m a : Int) : Prop := (2 ≤ p ∧ p ≤ 65536) ∧ (0 ≤ a ∧ a ≤ 4611686018427387904) ∧ ∃ d : Nat, 1 ≤ d ∧ d ≤ 16 ∧ p ^ d ≤ m ∧ m < 2 * p ^ d ∧ p ^ d ≤ 65536
def C97 : Con := ⟨[I, I, I], [I], fun (x : Int × Int × Int × Unit) => Pl.okRs x.2.2.1 x.2.1 x.1, fun (x : Int × Int × Int × Unit) => (Pl.rst x.2.2.1 x.2.1 x.1, ()), none⟩
def Pl.okQ (q : Int) : Bool := decide (2 ≤ q) && (decide (q ≤ 65536) && decide (1 ≤ Pl.K q))
theorem okQ_iff {q : Int} : Pl.okQ q = true ↔ isQ q := by unfold Pl.okQ isQ; simp
def Pl.newR (q : Int) : R4 := bif Pl.okQ q then RF q else (0, 0, 0, 0, ())
def C79 : Con := ⟨[I], [G4, B], fun (x : Int × Unit) => True, fun (x : Int × Unit) => (Pl.newR x.1, Pl.okQ x.1, ()), none⟩
def Hf2 : Hints := ⟨[], [(1, [2])], [], [], []⟩
def H31 : Hints := ⟨[], [(1, [3])], [(0, ⟨[3], [(1, si), (2, si), (7, si), (8, si)]⟩)], [], []⟩
def H96 : Hints := ⟨[], [(1, [2])], [(0, ⟨[2], [(1, si), (5, si), (6, si)]⟩)], [], []⟩
def H40 : Hints := ⟨[], [(1, [3])], [(0, ⟨[3], [(1, si), (2, si), (7, si)]⟩)], [], []⟩
def H98 : Hints := ⟨[32], [(12, [1000009])], [(0, ⟨[2, 7, 8], [(10, si), (9, so)]⟩), (2, ⟨[2, 7, 8, 10], [(11, si), (9, so)]⟩)], [], []⟩
def H97 : Hints := ⟨[14, 78], [(11, [1000007])], [(0, ⟨[2, 8], [(7, so)]⟩), (2, ⟨[2, 8, 9, 10], [(11, si), (7, so)]⟩), (4, ⟨[2, 8], [(7, so)]⟩)], [], []⟩
abbrev s4 : Sh := .box [I, I, I, I]
def H79 : Hints := lo [(0, ⟨[0], [(4, si), (2, s4)]⟩), (2, ⟨[0, 4], [(5, si), (6, si), (2, s4)]⟩), (4, ⟨[0, 4, 5], [(7, si), (2, s4)]⟩), (6, ⟨[0, 4, 5, 7], [(8, sb), (9, si), (10, si), (2, s4)]⟩), (8, ⟨[0, 4, 5, 7, 9, 10], [(8, sb), (11, si), (2, s4)]⟩)]
def T33 : Ctx := TT [(31, C31), (96, C96)]
def T35 : Ctx := TT [(98, C98), (97, C97)]
def T98 : Ctx := TT [(124, C124), (141, C141)]
def T40 : Ctx := TT [(35, C35)]
def T99 : Ctx := TT [(40, C40)]
def T79 : Ctx := TT [(97, C97)]
end Fd
end
section
set_option linter.unusedVariables false
set_option linter.unusedSimpArgs false
set_option linter.unusedSectionVars false
set_option maxRecDepth 100000
namespace Fd
open Go Fw Go.Proofs
open Fm (V Eqv ev e0 Xp)

theorem dig_step {p : Int} (hp : 2 ≤ p) (p6 : p ≤ 65536) {W : V} {i : Nat} {n u e : Int} (hn : n = Fm.num p i W) (hu : u = p ^ i) (hi : p ^ i ≤ 65536) (he : e = W i % p) :
  IntKind.wrap .i64 (n + IntKind.wrap .i64 (e * u)) = Fm.num p (i + 1) W ∧ IntKind.wrap .i64 (u * p) = p ^ (i + 1) := by
 have hpow0 : 0 < p ^ i := Int.pow_pos (by omega)
 have hE0 := Int.emod_nonneg (W i) (show p ≠ 0 by omega)
 have hE1 := Int.emod_lt_of_pos (W i) (show 0 < p by omega)
 have hm : 0 ≤ e * u ∧ e * u ≤ 65536 * 65536 := ⟨Int.mul_nonneg (by omega) (by omega), Int.mul_le_mul (by omega) (by omega) (by omega) (by omega)⟩
 have hup : 0 ≤ u * p ∧ u * p ≤ 65536 * 65536 := ⟨Int.mul_nonneg (by omega) (by omega), Int.mul_le_mul (by omega) (by omega) (by omega) (by omega)⟩
 obtain ⟨r0, r1⟩ := Fm.num_range (p := p) (by omega) (n := i) (v := W)
 refine ⟨?_, ?_⟩
 ·rw [wrap_i64 (x := e * u) (by omega) (by omega), wrap_i64 (by omega) (by omega), num_snoc, hn, hu, he, Int.mul_comm (p ^ i)]
 ·rw [wrap_i64 (by omega) (by omega), hu]; exact (Int.pow_succ p i).symm
theorem dig_end {p : Int} (hp : 2 ≤ p) {W : V} {a b : Int} (a0 : 0 ≤ a) (b0 : 0 ≤ b) {i K : Nat} (ha : a < p ^ K) (hb : b < p ^ K) (hai : a / p ^ i = 0) (hbi : b / p ^ i = 0) (hW : ∀ j, Fm.dg p a j = 0 → Fm.dg p b j = 0 → p ∣ W j) : Fm.num p i W = Fm.num p K W := by
 have zt : ∀ (z : Int), 0 ≤ z → ∀ m j : Nat, z < p ^ m → m ≤ j → Fm.dg p z j = 0 := by
  intro z z0 m j hz hmj
  simp only [Fm.dg]
  rw [Int.ediv_eq_zero_of_lt z0 (Int.lt_of_lt_of_le hz (pow_mono hp hmj))]
  simp
 have lt_of : ∀ z : Int, 0 ≤ z → z / p ^ i = 0 → z < p ^ i := by
  intro z z0 hz
  rcases ilt z (p ^ i) with h | h
  ·exact h
  ·have := (Int.le_ediv_iff_mul_le (Int.pow_pos (show 0 < p by omega)) (a := 1) (b := z) (c := p ^ i)).2 (by omega)
   omega
 have tail : ∀ m : Nat, a < p ^ m → b < p ^ m → ∀ j, m ≤ j → p ∣ W j := fun m ha hb j hj => hW j (zt a a0 m j ha hj) (zt b b0 m j hb hj)
 rcases Nat.le_total i K with hle | hle
 ·have := num_tail (tail i (lt_of a a0 hai) (lt_of b b0 hbi)) (K - i)
  rw [← this]; congr 1; omega
 ·have := num_tail (tail K ha hb) (i - K)
  rw [← this]; congr 1; omega
theorem dig_le {p z q : Int} {i : Nat} (hp : 2 ≤ p) (z0 : 0 ≤ z) (z1 : z < q) (hq : q ≤ 65536) (h : z / p ^ i > 0) : p ^ i ≤ 65536 := by
 rcases ilt z (p ^ i) with h' | h'
 ·rw [Int.ediv_eq_zero_of_lt z0 h'] at h; omega
 ·omega
theorem dig_div {p x z : Int} {i : Nat} (hp : 2 ≤ p) (hx : x = z / p ^ i) : x / p = z / p ^ (i + 1) := by
 have : 0 < p ^ i := Int.pow_pos (by omega)
 rw [hx, Int.pow_succ, Int.ediv_mul, if_neg (by omega), Int.add_zero]
theorem div_lt {x p : Int} (hp : 2 ≤ p) (hx : 0 < x) : x / p < x := Int.ediv_lt_of_lt_mul (by omega) (by
 have : x * 2 ≤ x * p := Int.mul_le_mul_of_nonneg_left hp (by omega)
 omega)
theorem okr_open {q p k m : Int} (h : Pl.okr (q, p, k, m, ())) : isQ q ∧ p = Pl.lpf q ∧ k = Pl.K q ∧ m = Pl.Mod q := by
 obtain ⟨h1, h2⟩ := h
 simp only [RF] at h2
 injection h2 with _ h2
 injection h2 with h3 h2
 injection h2 with h4 h2
 injection h2 with h5 _
 exact ⟨h1, h3, h4, h5⟩
theorem vc29 : ∀ x, C29.pre x → VC (TT []) Hf2 Try.f29 C29 x := by
 rintro ⟨⟨(q : Int), (p : Int), (k : Int), (m : Int), ⟨⟩⟩, (a : Int), ⟨⟩⟩ (hr : Pl.okr _)
 obtain ⟨hq, _, _, _⟩ := okr_open hr
 show q ≠ (0 : Int) ∧ q ≠ (0 : Int) ∧ ((IntKind.i64.wrap (a.tmod q + q)).tmod q, ()) = C29.post ((q, p, k, m, ()), a, ())
 have q2 := hq.1
 have q6 := hq.2.1
 have h1 := Int.tmod_lt_of_pos a (show 0 < q by omega)
 have h2 := Int.lt_tmod_of_pos a (show 0 < q by omega)
 rw [wrap_i64 (by omega) (by omega), tmod_pos (by omega)]
 refine ⟨by omega, by omega, ?_⟩
 show _ = (a % q, ())
 congr 1
 rw [Int.add_emod_right]
 rcases ilt a 0 with h | h
 ·have h3 := Int.emod_add_mul_ediv a q
  have h4 := Int.tmod_add_mul_tdiv a q
  rw [← h3] at h4 
  have : a.tmod q = a % q + q * (a / q - a.tdiv q) := by
   have h5 := Int.tmod_add_mul_tdiv a q
   have h6 := Int.emod_add_mul_ediv a q
   grind
  rw [this, Int.add_mul_emod_self_left, Int.emod_emod_of_dvd _ (Int.dvd_refl q)]
 ·rw [tmod_pos h, Int.emod_emod_of_dvd _ (Int.dvd_refl q)]
theorem vc31 : ∀ x, C31.pre x → VC (TT []) H31 Try.f31 C31 x := by
 rintro ⟨⟨(q : Int), (p : Int), (k : Int), (m : Int), ⟨⟩⟩, (a : Int), (b : Int), ⟨⟩⟩ ⟨(hr : Pl.okr _), (⟨a0, a1⟩ : Pl.inQ q a), (⟨b0, b1⟩ : Pl.inQ q b)⟩
 obtain ⟨hq, hP, _, _⟩ := okr_open hr
 show ∃ (n : Nat), itl (fun (G : Int × Int × Int × Int × PUnit → Prop) (x : Int × Int × Int × Int × PUnit) => Br (decide (x.fst > (0 : Int))) (p ≠ (0 : Int) ∧ p ≠ (0 : Int) ∧ p ≠ (0 : Int) ∧ p ≠ (0 : Int) ∧ p ≠ (0 : Int) ∧ G (IntKind.i64.wrap (Int.tdiv x.fst p), IntKind.i64.wrap (Int.tdiv x.snd.fst p), IntKind.i64.wrap (x.snd.snd.fst + IntKind.i64.wrap ((IntKind.i64.wrap (Int.tmod x.fst p + Int.tmod x.snd.fst p)).tmod p * x.snd.snd.snd.fst)), IntKind.i64.wrap (x.snd.snd.snd.fst * p), ())) (Br (decide (x.snd.fst > (0 : Int))) (p ≠ (0 : Int) ∧ p ≠ (0 : Int) ∧ p ≠ (0 : Int) ∧ p ≠ (0 : Int) ∧ p ≠ (0 : Int) ∧ G (IntKind.i64.wrap (Int.tdiv x.fst p), IntKind.i64.wrap (Int.tdiv x.snd.fst p), IntKind.i64.wrap (x.snd.snd.fst + IntKind.i64.wrap ((IntKind.i64.wrap (Int.tmod x.fst p + Int.tmod x.snd.fst p)).tmod p * x.snd.snd.snd.fst)), IntKind.i64.wrap (x.snd.snd.snd.fst * p), ())) ((x.snd.snd.fst, ()) = C31.post ((q, p, k, m, ()), a, b, ())))) n (a, b, (0 : Int), (1 : Int), ())
 have hp := hq.prime.1
 have hp6 := hq.p6
 have hq6 := hq.2.1
 have hqp := hq.pow
 rw [← hP] at hp hp6 hqp
 let W : V := Fm.add (Fm.dg p a) (Fm.dg p b)
 have fin : ∀ i : Nat, a / p ^ i = 0 → b / p ^ i = 0 → Fm.num p i W = Pl.add q a b := fun i h1 h2 => by
  have e : Pl.add q a b = Fm.num p (Pl.K q).toNat (Fm.add (Fm.dg p a) (Fm.dg p b)) := by rw [hP]; rfl
  rw [e]
  exact dig_end hp a0 b0 (hqp ▸ a1) (hqp ▸ b1) h1 h2 fun j h3 h4 => by show p ∣ Fm.dg p a j + Fm.dg p b j; rw [h3, h4]; exact Int.dvd_zero p
 refine itl_rule (fun s => ∃ i : Nat, s.1 = a / p ^ i ∧ s.2.1 = b / p ^ i ∧ s.2.2.1 = Fm.num p i W ∧ s.2.2.2.1 = p ^ i) (fun s => (s.1 + s.2.1).toNat) ⟨0, by simp, by simp, rfl, by simp⟩ ?_
 rintro ⟨x, y, n, u, ⟨⟩⟩ G ⟨i, hx, hy, hn, hu⟩ hG
 simp only at hx hy hn hu hG ⊢
 have hpow0 : 0 < p ^ i := Int.pow_pos (by omega)
 have hx0 : 0 ≤ x := by rw [hx]; exact Int.ediv_nonneg a0 (by omega)
 have hy0 : 0 ≤ y := by rw [hy]; exact Int.ediv_nonneg b0 (by omega)
 have hxa : x ≤ a := by rw [hx]; exact Int.ediv_le_self _ a0
 have hyb : y ≤ b := by rw [hy]; exact Int.ediv_le_self _ b0
 have hdx : x / p ≤ x := Int.ediv_le_self _ hx0
 have hdy : y / p ≤ y := Int.ediv_le_self _ hy0
 have hdx0 : 0 ≤ x / p := Int.ediv_nonneg hx0 (by omega)
 have hdy0 : 0 ≤ y / p := Int.ediv_nonneg hy0 (by omega)
 have mx := Int.emod_nonneg x (show p ≠ 0 by omega)
 have my := Int.emod_nonneg y (show p ≠ 0 by omega)
 have lx := Int.emod_lt_of_pos x (show 0 < p by omega)
 have ly := Int.emod_lt_of_pos y (show 0 < p by omega)
 have he : (x % p + y % p) % p = W i % p := by rw [hx, hy]; rfl
 rw [tmod_pos hx0, tmod_pos hy0, tdiv_pos hx0, tdiv_pos hy0, wrap_i64 (x := x % p + y % p) (by omega) (by omega), tmod_pos (by omega)]
 refine Br_of (fun h => ?_) (fun h => Br_of (fun h2 => ?_) (fun h2 => ?_))
 ·have h : x > 0 := of_decide_eq_true h
  obtain ⟨e1, e2⟩ := dig_step hp hp6 hn hu (dig_le hp a0 a1 hq6 (by rw [← hx]; exact h)) he
  have := div_lt hp h
  rw [e1, e2, wrap_i64 (x := x / p) (by omega) (by omega), wrap_i64 (x := y / p) (by omega) (by omega)]
  exact ⟨by omega, by omega, by omega, by omega, by omega, hG _ ⟨i + 1, dig_div hp hx, dig_div hp hy, rfl, rfl⟩ (by simp only; omega)⟩
 ·have h2 : y > 0 := of_decide_eq_true h2
  obtain ⟨e1, e2⟩ := dig_step hp hp6 hn hu (dig_le hp b0 b1 hq6 (by rw [← hy]; exact h2)) he
  have := div_lt hp h2
  rw [e1, e2, wrap_i64 (x := x / p) (by omega) (by omega), wrap_i64 (x := y / p) (by omega) (by omega)]
  exact ⟨by omega, by omega, by omega, by omega, by omega, hG _ ⟨i + 1, dig_div hp hx, dig_div hp hy, rfl, rfl⟩ (by simp only; omega)⟩
 ·have h : ¬ x > 0 := of_decide_eq_false h
  have h2 : ¬ y > 0 := of_decide_eq_false h2
  show (n, ()) = (Pl.add q a b, ())
  rw [hn, fin i (by omega) (by omega)]
theorem vc96 : ∀ x, C96.pre x → VC (TT []) H96 Try.f96 C96 x := by
 rintro ⟨⟨(q : Int), (p : Int), (k : Int), (m : Int), ⟨⟩⟩, (a : Int), ⟨⟩⟩ ⟨(hr : Pl.okr _), (⟨a0, a1⟩ : Pl.inQ q a)⟩
 obtain ⟨hq, hP, _, _⟩ := okr_open hr
 show ∃ (n : Nat), itl (fun (G : Int × Int × Int × PUnit → Prop) (x : Int × Int × Int × PUnit) => Br (decide (x.fst > (0 : Int))) (p ≠ (0 : Int) ∧ p ≠ (0 : Int) ∧ p ≠ (0 : Int) ∧ G (IntKind.i64.wrap (Int.tdiv x.fst p), IntKind.i64.wrap (x.snd.fst + IntKind.i64.wrap ((IntKind.i64.wrap (p - Int.tmod x.fst p)).tmod p * x.snd.snd.fst)), IntKind.i64.wrap (x.snd.snd.fst * p), ())) ((x.snd.fst, ()) = C96.post ((q, p, k, m, ()), a, ()))) n (a, (0 : Int), (1 : Int), ())
 have hp := hq.prime.1
 have hp6 := hq.p6
 have hq6 := hq.2.1
 have hqp := hq.pow
 rw [← hP] at hp hp6 hqp
 let W : V := Fm.smul (-1) (Fm.dg p a)
 have fin : ∀ i : Nat, a / p ^ i = 0 → Fm.num p i W = Pl.neg q a := fun i h1 => by
  have e : Pl.neg q a = Fm.num p (Pl.K q).toNat (Fm.smul (-1) (Fm.dg p a)) := by rw [hP]; rfl
  rw [e]
  exact dig_end hp a0 a0 (hqp ▸ a1) (hqp ▸ a1) h1 h1 fun j h3 _ => by show p ∣ -1 * Fm.dg p a j; rw [h3]; exact Int.dvd_zero p
 refine itl_rule (fun s => ∃ i : Nat, s.1 = a / p ^ i ∧ s.2.1 = Fm.num p i W ∧ s.2.2.1 = p ^ i) (fun s => s.1.toNat) ⟨0, by simp, rfl, by simp⟩ ?_
 rintro ⟨x, n, u, ⟨⟩⟩ G ⟨i, hx, hn, hu⟩ hG
 simp only at hx hn hu hG ⊢
 have hpow0 : 0 < p ^ i := Int.pow_pos (by omega)
 have hx0 : 0 ≤ x := by rw [hx]; exact Int.ediv_nonneg a0 (by omega)
 have hxa : x ≤ a := by rw [hx]; exact Int.ediv_le_self _ a0
 have hdx0 : 0 ≤ x / p := Int.ediv_nonneg hx0 (by omega)
 have hdx : x / p ≤ x := Int.ediv_le_self _ hx0
 have mx := Int.emod_nonneg x (show p ≠ 0 by omega)
 have lx := Int.emod_lt_of_pos x (show 0 < p by omega)
 have he : (p - x % p) % p = W i % p := by
  rw [hx]
  show (p - a / p ^ i % p) % p = (-1 * (a / p ^ i % p)) % p
  rw [show p - a / p ^ i % p = -1 * (a / p ^ i % p) + p by omega, Int.add_emod_right]
 rw [tmod_pos hx0, tdiv_pos hx0, wrap_i64 (x := p - x % p) (by omega) (by omega), tmod_pos (by omega)]
 refine Br_of (fun h => ?_) (fun h => ?_)
 ·have h : x > 0 := of_decide_eq_true h
  obtain ⟨e1, e2⟩ := dig_step hp hp6 hn hu (dig_le hp a0 a1 hq6 (by rw [← hx]; exact h)) he
  have := div_lt hp h
  rw [e1, e2, wrap_i64 (x := x / p) (by omega) (by omega)]
  exact ⟨by omega, by omega, by omega, hG _ ⟨i + 1, dig_div hp hx, rfl, rfl⟩ (by simp only; omega)⟩
 ·have h : ¬ x > 0 := of_decide_eq_false h
  show (n, ()) = (Pl.neg q a, ())
  rw [hn, fin i (by omega)]
section
variable {q : Int} (hq : isQ q)
include hq
theorem add_inQ (a b : Int) : Pl.inQ q (Pl.add q a b) := (in_iff hq _).1 (Fm.Fld.add_in (fld_ok hq) a b)
theorem sub_inQ (a b : Int) : Pl.inQ q (Pl.sub q a b) := (in_iff hq _).1 (Fm.Fld.sub_in (fld_ok hq) a b)
theorem neg_inQ (a : Int) : Pl.inQ q (Pl.neg q a) := (in_iff hq _).1 (Fm.Fld.neg_in (fld_ok hq) a)
theorem mul_inQ (a b : Int) : Pl.inQ q (Pl.mul q a b) := (in_iff hq _).1 (Fm.Fld.mul_in (fld_ok hq) a b)
theorem pow_inQ (a n : Int) : Pl.inQ q (Pl.pow q a n) := (in_iff hq _).1 (Fm.Fld.pow_in (fld_ok hq) a _)
theorem inv_inQ (a : Int) : Pl.inQ q (Pl.inv q a) := pow_inQ hq a _
theorem emod_inQ (a : Int) : Pl.inQ q (a % q) := ⟨Int.emod_nonneg _ (by have := hq.1; omega), Int.emod_lt_of_pos _ (by have := hq.1; omega)⟩
theorem zero_inQ : Pl.inQ q 0 := ⟨by omega, by have := hq.1; omega⟩
theorem one_inQ : Pl.inQ q 1 := ⟨by omega, by have := hq.1; omega⟩
theorem gen_inQ : Pl.inQ q (Pl.gen q) := ⟨by have := (gen_spec hq).1; omega, (gen_spec hq).2.1⟩
theorem sub_neg (a b : Int) : Pl.sub q a b = Pl.add q a (Pl.neg q b) := Fm.Fld.sub_eq (fld_ok hq) a b
end
theorem vc33 : ∀ x, C33.pre x → VC T33 Hf3 Try.f33 C33 x := by
 rintro ⟨⟨(q : Int), (p : Int), (k : Int), (m : Int), ⟨⟩⟩, (a : Int), (b : Int), ⟨⟩⟩ ⟨(hr : Pl.okr _), (ha : Pl.inQ q a), (hb : Pl.inQ q b)⟩
 obtain ⟨hq, _, _, _⟩ := okr_open hr
 show (Pl.okr (q, p, k, m, ()) ∧ Pl.inQ q b) ∧
   (Pl.okr (q, p, k, m, ()) ∧ Pl.inQ q a ∧ Pl.inQ q (Pl.neg q b)) ∧
    (Pl.add q a (Pl.neg q b), ()) = C33.post ((q, p, k, m, ()), a, b, ())
 refine ⟨⟨hr, hb⟩, ⟨hr, ha, neg_inQ hq b⟩, ?_⟩
 show _ = (Pl.sub q a b, ())
 rw [sub_neg hq]
theorem vc98 : ∀ x, C98.pre x → VC T98 H98 Try.f98 C98 x := by
 rintro ⟨(a : Int), (b : Int), (p : Int), ⟨⟩⟩ ⟨q, hq, (hP : p = _), (⟨a0, a1⟩ : Pl.inQ q a), (⟨b0, b1⟩ : Pl.inQ q b)⟩
 show Pl.okN a p ∧ Pl.okN b p ∧ Br ((↑(Pl.digs p a).length : Int) == (0 : Int)) (((0 : Int), ()) = C98.post (a, b, p, ())) (Br ((↑(Pl.digs p b).length : Int) == (0 : Int)) (((0 : Int), ()) = C98.post (a, b, p, ())) ((0 : Int) ≤ IntKind.i64.wrap (IntKind.i64.wrap ((↑(Pl.digs p a).length : Int) + (↑(Pl.digs p b).length : Int)) - (1 : Int)) ∧ IntKind.i64.wrap (IntKind.i64.wrap ((↑(Pl.digs p a).length : Int) + (↑(Pl.digs p b).length : Int)) - (1 : Int)) = IntKind.i64.wrap (IntKind.i64.wrap ((↑(Pl.digs p a).length : Int) + (↑(Pl.digs p b).length : Int)) - (1 : Int)) ∧ IntKind.i64.wrap (IntKind.i64.wrap ((↑(Pl.digs p a).length : Int) + (↑(Pl.digs p b).length : Int)) - (1 : Int)) * (8 : Int) ≤ (140737488355328 : Int) ∧ ∃ (n : Nat), itl (fun (G : Int × List Int × PUnit → Prop) (x : Int × List Int × PUnit) => Br (decide (x.fst < (↑(Pl.digs p a).length : Int))) (∃ (n : Nat), itl (fun (G_1 : Int × List Int × PUnit → Prop) (x_1 : Int × List Int × PUnit) => Br (decide (x_1.fst < (↑(Pl.digs p b).length : Int))) ((0 : Int) ≤ IntKind.i64.wrap (x.fst + x_1.fst) ∧ IntKind.i64.wrap (x.fst + x_1.fst) < (↑(List.length x_1.snd.fst) : Int) ∧ (0 : Int) ≤ IntKind.i64.wrap (x.fst + x_1.fst) ∧ IntKind.i64.wrap (x.fst + x_1.fst) < (↑(List.length x_1.snd.fst) : Int) ∧ (0 : Int) ≤ x.fst ∧ x.fst < (↑(Pl.digs p a).length : Int) ∧ (0 : Int) ≤ x_1.fst ∧ x_1.fst < (↑(Pl.digs p b).length : Int) ∧ p ≠ (0 : Int) ∧ (0 : Int) ≤ IntKind.i64.wrap (x.fst + x_1.fst) ∧ IntKind.i64.wrap (x.fst + x_1.fst) < (↑(List.length x_1.snd.fst) : Int) ∧ (0 : Int) ≤ IntKind.i64.wrap (x.fst + x_1.fst) ∧ IntKind.i64.wrap (x.fst + x_1.fst) < (↑(List.length x_1.snd.fst) : Int) ∧ G_1 (IntKind.i64.wrap (x_1.fst + (1 : Int)), List.set x_1.snd.fst (IntKind.i64.wrap (x.fst + x_1.fst)).toNat ((IntKind.i64.wrap (rd i64 x_1.snd.fst (IntKind.i64.wrap (x.fst + x_1.fst)) + IntKind.i64.wrap (rd i64 (Pl.digs p a) x.fst * rd i64 (Pl.digs p b) x_1.fst))).tmod p), ())) (G (IntKind.i64.wrap (x.fst + (1 : Int)), x_1.snd))) n ((0 : Int), x.snd)) (Pl.okL p x.snd.1 ∧ (Pl.num p x.snd.1, ()) = C98.post (a, b, p, ()))) n ((0 : Int), List.replicate (IntKind.i64.wrap (IntKind.i64.wrap ((↑(Pl.digs p a).length : Int) + (↑(Pl.digs p b).length : Int)) - (1 : Int))).toNat (0 : Int), ())))
 have hp2 := hq.prime.1
 have hp6 := hq.p6
 have hq6 := hq.2.1
 have hk17 := hq.K64
 have la := digs_lt hq a0 a1
 have lb := digs_lt hq b0 b1
 have hpk := hq.pow
 rw [← hP] at hp2 hp6 la lb hpk
 have hax : ∀ c ∈ Fm.digs p 64 a, 0 ≤ c ∧ c < p := Fm.digs_in hp2 64 a
 have hbx : ∀ c ∈ Fm.digs p 64 b, 0 ≤ c ∧ c < p := Fm.digs_in hp2 64 b
 refine ⟨⟨a0, by omega, hp2, hp6⟩, ⟨b0, by omega, hp2, hp6⟩, ?_⟩
 have ed : ∀ z, Pl.digs p z = Fm.digs p 64 z := fun _ => rfl
 rw [ed, ed]
 have tms0 : ∀ {x y : Int}, (Fm.digs p 64 x = [] ∨ Fm.digs p 64 y = []) → Pl.tms p x y = 0 := by
  intro x y h
  unfold Pl.tms
  refine (Fm.num_eq_zero (by omega)).2 fun i hi => ?_
  have : cv (Fm.digs p 64 x) (Fm.digs p 64 y) = Fm.zero := by
   unfold cv
   rcases h with h | h <;> rw [h]
   ·rfl
   ·rw [show ev [] 100 [] e0 = Fm.zero from rfl, Fm.ev_zero]
  rw [this]
  exact Int.dvd_zero p
 refine Br_of (fun h => ?_) (fun h => Br_of (fun h2 => ?_) (fun h2 => ?_))
 ·have h := eq_of_beq h
  show ((0 : Int), ()) = (Pl.tms p a b, ())
  rw [tms0 (.inl (List.eq_nil_of_length_eq_zero (by omega)))]
 ·have h2 := eq_of_beq h2
  show ((0 : Int), ()) = (Pl.tms p a b, ())
  rw [tms0 (.inr (List.eq_nil_of_length_eq_zero (by omega)))]
 have xa : 0 < (Fm.digs p 64 a).length := by
  rcases Nat.eq_zero_or_pos (Fm.digs p 64 a).length with e | e
  ·rw [e] at h; cases h
  ·exact e
 have xb : 0 < (Fm.digs p 64 b).length := by
  rcases Nat.eq_zero_or_pos (Fm.digs p 64 b).length with e | e
  ·rw [e] at h2; cases h2
  ·exact e
 have hpost : C98.post (a, b, p, ()) = (Fm.num p ((Fm.digs p 64 a).length + (Fm.digs p 64 b).length - 1) (cv (Fm.digs p 64 a) (Fm.digs p 64 b)), ()) := rfl
 rw [hpost]
 generalize Fm.digs p 64 a = x at *
 generalize Fm.digs p 64 b = y at *
 have elen : IntKind.wrap .i64 (IntKind.wrap .i64 ((x.length : Int) + (y.length : Int)) - 1) = ((x.length + y.length - 1 : Nat) : Int) := by
  rw [wrap_i64 (x := (x.length : Int) + (y.length : Int)) (by omega) (by omega), wrap_i64 (by omega) (by omega)]; omega
 rw [elen, Int.toNat_natCast]
 refine ⟨by omega, rfl, by omega, ?_⟩
 have mulb : ∀ {u v : Int}, 0 ≤ u ∧ u < p → 0 ≤ v ∧ v < p → 0 ≤ u * v ∧ u * v ≤ 4294967296 := fun hu hv => mul_small hp6 hu.1 hu.2 hv.1 hv.2
 refine itl_rule (fun s => ∃ i : Nat, s.1 = (i : Int) ∧ i ≤ x.length ∧ s.2.1.length = x.length + y.length - 1 ∧ (∀ c ∈ s.2.1, 0 ≤ c ∧ c < p) ∧ Eqv p 100 (ev [] 100 s.2.1 e0) (ev [] 100 (x.take i) (ev [] 100 y e0))) (fun s => ((x.length : Int) - s.1).toNat)
  ⟨0, rfl, Nat.zero_le _, by simp, by intro c hc; have := (List.mem_replicate.1 hc).2; subst this; omega, by simp only; rw [Fm.ev_replicate]; exact Eqv.refl _⟩ ?_
 rintro ⟨i0, out, ⟨⟩⟩ G ⟨i, e1, hi, hlen, hin, heq⟩ hG
 simp only at e1 hlen hin heq hG ⊢
 subst e1
 refine Br_of (fun h => ?_) (fun h => ?_)
 ·have h : (i : Int) < x.length := of_decide_eq_true h
  refine itl_rule (fun s => ∃ j : Nat, s.1 = (j : Int) ∧ j ≤ y.length ∧ s.2.1.length = x.length + y.length - 1 ∧ (∀ c ∈ s.2.1, 0 ≤ c ∧ c < p) ∧ Eqv p 100 (ev [] 100 s.2.1 e0) (Fm.add (ev [] 100 (x.take i) (ev [] 100 y e0)) (Fm.smul (x.getD i 0) (Xp [] 100 i (ev [] 100 (y.take j) e0))))) (fun s => ((y.length : Int) - s.1).toNat)
   ⟨0, rfl, Nat.zero_le _, hlen, hin, by simp only; rw [conv_row0]; exact heq⟩ ?_
  rintro ⟨j0, out2, ⟨⟩⟩ G1 ⟨j, e1, hj, hlen2, hin2, heq2⟩ hG1
  simp only at e1 hlen2 hin2 heq2 hG1 ⊢
  subst e1
  refine Br_of (fun h2 => ?_) (fun h2 => ?_)
  ·have h2 : (j : Int) < y.length := of_decide_eq_true h2
   have ew : IntKind.wrap .i64 ((i : Int) + j) = ((i + j : Nat) : Int) := by rw [wrap_i64 (by omega) (by omega)]; omega
   have hlt : i + j < out2.length := by omega
   have hg := hin2 _ (getD_mem hlt)
   obtain ⟨m0, m1⟩ := mulb (hax _ (getD_mem (l := x) (i := i) (by omega))) (hbx _ (getD_mem (l := y) (i := j) (by omega)))
   rw [ew, rd_getD, rd_getD, rd_getD, Int.toNat_natCast, Int.toNat_natCast, Int.toNat_natCast, wrap_i64 (x := x.getD i 0 * y.getD j 0) (by omega) (by omega), wrap_i64 (x := out2.getD (i + j) 0 + x.getD i 0 * y.getD j 0) (by omega) (by omega), tmod_pos (by omega), wrap_i64 (x := (j : Int) + 1) (by omega) (by omega)]
   have hfin := hG1 (((j : Int) + 1), out2.set (i + j) ((out2.getD (i + j) 0 + x.getD i 0 * y.getD j 0) % p), ()) ⟨j + 1, rfl, by omega, by simp only; rw [List.length_set]; exact hlen2,
    set_mem hin2 ⟨Int.emod_nonneg _ (by omega), Int.emod_lt_of_pos _ (by omega)⟩, conv_step (by omega) (by omega) hlt heq2⟩ (by simp only; omega)
   refine ⟨by omega, by omega, by omega, by omega, by omega, by omega, by omega, by omega, by omega, by omega, by omega, by omega, by omega, ?_⟩
   first | exact hfin | exact ⟨by omega, by omega, hfin⟩
  ·have h2 : ¬ (j : Int) < y.length := of_decide_eq_false h2
   have : j = y.length := by omega
   subst this
   rw [conv_row (by omega)] at heq2
   rw [wrap_i64 (by omega) (by omega)]
   exact hG _ ⟨i + 1, rfl, by omega, hlen2, hin2, heq2⟩ (by simp only; omega)
 ·have h : ¬ (i : Int) < x.length := of_decide_eq_false h
  have : i = x.length := by omega
  subst this
  rw [List.take_length] at heq
  have hlb : p ^ out.length ≤ 4611686018427387904 := by
   have h1 : p ^ out.length ≤ p ^ ((Pl.K q).toNat + (Pl.K q).toNat) := pow_mono hp2 (by omega)
   rw [Int.pow_add, ← hpk] at h1
   have h2 : q * q ≤ 65536 * 65536 := Int.mul_le_mul hq6 hq6 (by have := hq.1; omega) (by omega)
   omega
  refine ⟨⟨⟨hp2, hp6⟩, hin, hlb, by omega⟩, ?_⟩
  show (numL p out, ()) = _
  congr 1
  rw [numL_eq (v := cv x y) (fun i hi => ?_) hin, hlen]
  have h1 := heq i (by omega)
  rw [ev_low (fun t ht => by rw [List.getD_eq_getElem?_getD, List.getElem?_eq_none (by omega)]; rfl) (by omega)] at h1
  exact h1
theorem snd29 : Sound Try.prog 29 C29 := fn_sound (T := TT []) (fn := Try.f29) (tok0 trivial) Try.func29 (by kernel_rfl) Hf2 vc29 (by kernel_rfl)
theorem snd31 : Sound Try.prog 31 C31 := fn_sound (T := TT []) (fn := Try.f31) (tok0 trivial) Try.func31 (by kernel_rfl) H31 vc31 (by kernel_rfl)
theorem snd96 : Sound Try.prog 96 C96 := fn_sound (T := TT []) (fn := Try.f96) (tok0 trivial) Try.func96 (by kernel_rfl) H96 vc96 (by kernel_rfl)
theorem snd33 : Sound Try.prog 33 C33 := fn_sound (T := T33) (fn := Try.f33) (tok0 ⟨snd31, snd96, trivial⟩) Try.func33 (by kernel_rfl) Hf3 vc33 (by kernel_rfl)
end Fd
end
section
set_option linter.unusedVariables false
set_option linter.unusedSimpArgs false
set_option maxRecDepth 100000
namespace Fd
open Go Fw Go.Proofs
open Fm (V Eqv ev e0 Xp)

theorem ev_drop {md : List Int} {d : Nat} {x : List Int} (hx : 0 < x.length) (h0 : x.getD (x.length - 1) 0 = 0) (v : V) : ev md d (x.take (x.length - 1)) v = ev md d x v := by
 have h1 := Fm.ev_take (md := md) (d := d) x (i := x.length - 1) (by omega) v
 rw [show x.length - 1 + 1 = x.length by omega, List.take_length, h0, Fm.zero_smul, Fm.add_zero] at h1
 exact h1.symm
theorem vc97 : ∀ x, C97.pre x → VC T98 H97 Try.f97 C97 x := by
 rintro ⟨(a : Int), (m : Int), (p : Int), ⟨⟩⟩ ⟨⟨(p2 : 2 ≤ p), (p6 : p ≤ 65536)⟩, ⟨(a0 : 0 ≤ a), (a1 : a ≤ 4611686018427387904)⟩, d, d1, d16, (m0 : p ^ d ≤ m), (m1 : m < 2 * p ^ d), (pd : p ^ d ≤ 65536)⟩
 show Pl.okN a p ∧ Pl.okN m p ∧ ∃ (n : Nat), itl (fun (G : List Int × PUnit → Prop) (x : List Int × PUnit) => Br (decide ((↑(List.length x.fst) : Int) ≥ (↑(Pl.digs p m).length : Int))) ((0 : Int) ≤ IntKind.i64.wrap ((↑(List.length x.fst) : Int) - (1 : Int)) ∧ IntKind.i64.wrap ((↑(List.length x.fst) : Int) - (1 : Int)) < (↑(List.length x.fst) : Int) ∧ (0 : Int) ≤ IntKind.i64.wrap ((↑(List.length x.fst) : Int) - (1 : Int)) ∧ IntKind.i64.wrap ((↑(List.length x.fst) : Int) - (1 : Int)) < (↑(List.length x.fst) : Int) ∧ ∃ (n : Nat), itl (fun (G_1 : Int × List Int × PUnit → Prop) (x_1 : Int × List Int × PUnit) => Br (decide (x_1.fst < (↑(Pl.digs p m).length : Int))) ((0 : Int) ≤ IntKind.i64.wrap (IntKind.i64.wrap ((↑(List.length x.fst) : Int) - (↑(Pl.digs p m).length : Int)) + x_1.fst) ∧ IntKind.i64.wrap (IntKind.i64.wrap ((↑(List.length x.fst) : Int) - (↑(Pl.digs p m).length : Int)) + x_1.fst) < (↑(List.length x_1.snd.fst) : Int) ∧ (0 : Int) ≤ IntKind.i64.wrap (IntKind.i64.wrap ((↑(List.length x.fst) : Int) - (↑(Pl.digs p m).length : Int)) + x_1.fst) ∧ IntKind.i64.wrap (IntKind.i64.wrap ((↑(List.length x.fst) : Int) - (↑(Pl.digs p m).length : Int)) + x_1.fst) < (↑(List.length x_1.snd.fst) : Int) ∧ (0 : Int) ≤ x_1.fst ∧ x_1.fst < (↑(Pl.digs p m).length : Int) ∧ p ≠ (0 : Int) ∧ (0 : Int) ≤ IntKind.i64.wrap (IntKind.i64.wrap ((↑(List.length x.fst) : Int) - (↑(Pl.digs p m).length : Int)) + x_1.fst) ∧ IntKind.i64.wrap (IntKind.i64.wrap ((↑(List.length x.fst) : Int) - (↑(Pl.digs p m).length : Int)) + x_1.fst) < (↑(List.length x_1.snd.fst) : Int) ∧ (0 : Int) ≤ IntKind.i64.wrap (IntKind.i64.wrap ((↑(List.length x.fst) : Int) - (↑(Pl.digs p m).length : Int)) + x_1.fst) ∧ IntKind.i64.wrap (IntKind.i64.wrap ((↑(List.length x.fst) : Int) - (↑(Pl.digs p m).length : Int)) + x_1.fst) < (↑(List.length x_1.snd.fst) : Int) ∧ G_1 (IntKind.i64.wrap (x_1.fst + (1 : Int)), List.set x_1.snd.fst (IntKind.i64.wrap (IntKind.i64.wrap ((↑(List.length x.fst) : Int) - (↑(Pl.digs p m).length : Int)) + x_1.fst)).toNat ((IntKind.i64.wrap (rd i64 x_1.snd.fst (IntKind.i64.wrap (IntKind.i64.wrap ((↑(List.length x.fst) : Int) - (↑(Pl.digs p m).length : Int)) + x_1.fst)) + IntKind.i64.wrap (IntKind.i64.wrap (p - rd i64 x.fst (IntKind.i64.wrap ((↑(List.length x.fst) : Int) - (1 : Int)))) * rd i64 (Pl.digs p m) x_1.fst))).tmod p), ())) (∃ (n : Nat), itl (fun (G_2 : List Int × PUnit → Prop) (x : List Int × PUnit) => Br (decide ((↑(List.length x.fst) : Int) > (0 : Int))) ((0 : Int) ≤ IntKind.i64.wrap ((↑(List.length x.fst) : Int) - (1 : Int)) ∧ IntKind.i64.wrap ((↑(List.length x.fst) : Int) - (1 : Int)) < (↑(List.length x.fst) : Int) ∧ (0 : Int) ≤ IntKind.i64.wrap ((↑(List.length x.fst) : Int) - (1 : Int)) ∧ IntKind.i64.wrap ((↑(List.length x.fst) : Int) - (1 : Int)) < (↑(List.length x.fst) : Int) ∧ Br (rd i64 x.fst (IntKind.i64.wrap ((↑(List.length x.fst) : Int) - (1 : Int))) == (0 : Int)) ((0 : Int) ≤ IntKind.i64.wrap ((↑(List.length x.fst) : Int) - (1 : Int)) ∧ IntKind.i64.wrap ((↑(List.length x.fst) : Int) - (1 : Int)) ≤ (↑(List.length x.fst) : Int) ∧ G_2 (List.take (IntKind.i64.wrap ((↑(List.length x.fst) : Int) - (1 : Int))).toNat x.fst, ())) (G x)) (G x)) n x_1.snd)) n ((0 : Int), x)) (Pl.okL p x.1 ∧ (Pl.num p x.1, ()) = C97.post (a, m, p, ()))) n (Pl.digs p a, ())
 have ed : ∀ z, Pl.digs p z = Fm.digs p 64 z := fun _ => rfl
 rw [ed, ed]
 have hpd0 : 0 < p ^ d := Int.pow_pos (by omega)
 obtain ⟨ml, mt⟩ := Fm.digs_monic p2 (f := 64) (by omega) m0 m1
 have hmin : ∀ c ∈ Fm.digs p 64 m, 0 ≤ c ∧ c < p := Fm.digs_in p2 64 m
 have hain : ∀ c ∈ Fm.digs p 64 a, 0 ≤ c ∧ c < p := Fm.digs_in p2 64 a
 have hal : (Fm.digs p 64 a).length ≤ 64 := by
  refine Fm.digs_len_le p2 64 64 a a0 ?_
  have h1 : (2 : Int) ^ 64 ≤ p ^ 64 := by
   obtain ⟨k, rfl⟩ : ∃ k : Nat, p = k := ⟨p.toNat, by omega⟩
   have : 2 ^ 64 ≤ k ^ 64 := Nat.pow_le_pow_left (by omega) 64
   exact_mod_cast this
  have h2 : (4611686018427387904 : Int) < 2 ^ 64 := by decide
  omega
 have hpost : C97.post (a, m, p, ()) = (Fm.num p ((Fm.digs p 64 m).length - 1) (ev (Fm.digs p 64 m) ((Fm.digs p 64 m).length - 1) (Fm.digs p 64 a) e0), ()) := rfl
 rw [hpost, ml, Nat.add_sub_cancel]
 have hmd : ev (Fm.digs p 64 m) d (Fm.digs p 64 m) e0 = Fm.zero := Fm.ev_md d1 ml mt
 refine ⟨⟨a0, a1, p2, p6⟩, ⟨by omega, by omega, p2, p6⟩, ?_⟩
 generalize Fm.digs p 64 m = y at *
 generalize Fm.digs p 64 a = x0 at *
 refine itl_rule (fun s => s.1.length ≤ 64 ∧ (∀ c ∈ s.1, 0 ≤ c ∧ c < p) ∧ Eqv p d (ev y d s.1 e0) (ev y d x0 e0)) (fun s => s.1.length) ⟨hal, hain, Eqv.refl _⟩ ?_
 rintro ⟨x, ⟨⟩⟩ G ⟨hxl, hxin, hxe⟩ hG
 simp only at hxl hxin hxe hG ⊢
 refine Br_of (fun h => ?_) (fun h => ?_)
 ·have h : (x.length : Int) ≥ (d + 1 : Nat) := of_decide_eq_true h
  have hlast : x.length - 1 < x.length := by omega
  have ewl : IntKind.wrap .i64 ((x.length : Int) - 1) = ((x.length - 1 : Nat) : Int) := by rw [wrap_i64 (by omega) (by omega)]; omega
  rw [ewl, rd_getD, Int.toNat_natCast]
  have hc := hxin _ (getD_mem hlast)
  refine ⟨by omega, by omega, by omega, by omega, ?_⟩
  generalize hcv : x.getD (x.length - 1) 0 = c at hc ⊢
  refine itl_rule (fun s => ∃ j : Nat, s.1 = (j : Int) ∧ j ≤ d + 1 ∧ s.2.1.length = x.length ∧ (∀ c ∈ s.2.1, 0 ≤ c ∧ c < p) ∧ (j ≤ d → s.2.1.getD (x.length - 1) 0 = c) ∧ (j = d + 1 → s.2.1.getD (x.length - 1) 0 = 0) ∧
    Eqv p d (ev y d s.2.1 e0) (Fm.add (ev y d x e0) (Fm.smul (p - c) (Xp y d (x.length - (d + 1)) (ev y d (y.take j) e0))))) (fun s => ((d : Int) + 1 - s.1).toNat)
   ⟨0, rfl, by omega, rfl, hxin, fun _ => hcv, fun h => by omega, ?_⟩ ?_
  ·simp only
   rw [List.take_zero, ev, Fm.Xp_zero, Fm.smul_zero, Fm.add_zero]; exact Eqv.refl _
  ·rintro ⟨j0, l2, ⟨⟩⟩ G1 ⟨j, e1, hj, hl2, hin2, hc2, hc3, heq2⟩ hG1
   simp only at e1 hl2 hin2 hc2 hc3 heq2 hG1 ⊢
   subst e1
   refine Br_of (fun hjm => ?_) (fun hjm => ?_)
   ·have hjm : (j : Int) < (d + 1 : Nat) := of_decide_eq_true hjm
    have ew : IntKind.wrap .i64 (IntKind.wrap .i64 ((x.length : Int) - (d + 1 : Nat)) + j) = ((x.length - (d + 1) + j : Nat) : Int) := by
     rw [wrap_i64 (x := (x.length : Int) - (d + 1 : Nat)) (by omega) (by omega), wrap_i64 (by omega) (by omega)]; omega
    have hlt : x.length - (d + 1) + j < l2.length := by omega
    have hg := hin2 _ (getD_mem hlt)
    have hmj := hmin _ (getD_mem (l := y) (i := j) (by omega))
    have hmul : 0 ≤ (p - c) * y.getD j 0 ∧ (p - c) * y.getD j 0 ≤ 65536 * 65536 := ⟨Int.mul_nonneg (by omega) (by omega), Int.mul_le_mul (by omega) (by omega) (by omega) (by omega)⟩
    rw [ew, rd_getD, rd_getD, Int.toNat_natCast, Int.toNat_natCast, wrap_i64 (x := p - c) (by omega) (by omega), wrap_i64 (x := (p - c) * y.getD j 0) (by omega) (by omega), wrap_i64 (x := l2.getD (x.length - (d + 1) + j) 0 + (p - c) * y.getD j 0) (by omega) (by omega),
     tmod_pos (by omega), wrap_i64 (x := (j : Int) + 1) (by omega) (by omega)]
    refine ⟨by omega, by omega, by omega, by omega, by omega, by omega, by omega, by omega, by omega, by omega, by omega, hG1 _ ⟨j + 1, rfl, by omega, by simp only; rw [List.length_set]; exact hl2,
     set_mem hin2 ⟨Int.emod_nonneg _ (by omega), Int.emod_lt_of_pos _ (by omega)⟩, fun hle => ?_, fun he => ?_, lin_step (by omega) hlt heq2 (emod_dvd _ _)⟩ (by simp only; omega)⟩
    ·simp only
     rw [set_getD _ _ _ _ hlt, if_neg (by omega)]; exact hc2 (by omega)
    ·have hjd : j = d := by omega
     subst hjd
     simp only
     rw [set_getD _ _ _ _ hlt, if_pos (by omega), show x.length - (j + 1) + j = x.length - 1 by omega, hc2 (Nat.le_refl _), mt, Int.mul_one, show c + (p - c) = p by omega, Int.emod_self]
   ·have hjm : ¬ (j : Int) < (d + 1 : Nat) := of_decide_eq_false hjm
    have hjd : j = d + 1 := by omega
    subst hjd
    rw [← ml, List.take_length, hmd, Fm.Xp_zero, Fm.smul_zero, Fm.add_zero] at heq2
    have hz := hc3 rfl
    refine itl_rule (fun s => s.1.length ≤ x.length ∧ (∀ c ∈ s.1, 0 ≤ c ∧ c < p) ∧ Eqv p d (ev y d s.1 e0) (ev y d x0 e0) ∧ (s.1.length = x.length → s.1.getD (x.length - 1) 0 = 0)) (fun s => s.1.length) ⟨by simp only; omega, hin2, heq2.trans hxe, fun _ => hz⟩ ?_
    rintro ⟨z, ⟨⟩⟩ G2 ⟨hzl, hzin, hze, hzz⟩ hG2
    simp only at hzl hzin hze hzz hG2 ⊢
    have out : (z.length = x.length → False) → G (z, ()) := fun hne => by
     have hne' : z.length ≠ x.length := hne
     exact hG _ ⟨by simp only; omega, hzin, hze⟩ (by simp only; omega)
    refine Br_of (fun h3 => ?_) (fun h3 => ?_)
    ·have h3 : (z.length : Int) > 0 := of_decide_eq_true h3
     have ewz : IntKind.wrap .i64 ((z.length : Int) - 1) = ((z.length - 1 : Nat) : Int) := by rw [wrap_i64 (by omega) (by omega)]; omega
     rw [ewz, rd_getD, Int.toNat_natCast]
     refine ⟨by omega, by omega, by omega, by omega, Br_of (fun h4 => ?_) (fun h4 => ?_)⟩
     ·have h4 := eq_of_beq h4
      refine ⟨by omega, by omega, hG2 _ ⟨by simp; omega, fun c hc => hzin c (List.mem_of_mem_take hc), ?_, fun he => by
       have he : min (z.length - 1) z.length = x.length := by simpa using he
       exfalso; omega⟩ (by simp; omega)⟩
      simp only
      rw [ev_drop (by omega) h4]
      exact hze
     ·refine out fun he => ?_
      rw [he, hzz he] at h4
      cases h4
    ·have h3 : ¬ (z.length : Int) > 0 := of_decide_eq_false h3
     exact out fun he => by omega
 ·have h : ¬ (x.length : Int) ≥ (d + 1 : Nat) := of_decide_eq_false h
  have hxd : x.length ≤ d := by omega
  have hpl : p ^ x.length ≤ p ^ d := pow_mono p2 hxd
  refine ⟨⟨⟨p2, p6⟩, hxin, by omega, hxl⟩, ?_⟩
  show (numL p x, ()) = _
  congr 1
  rw [← Fm.num_congr hxe, Fm.ev_e0 hxd, numL_eq (v := fun j => x.getD j 0) (fun i hi => Fm.dvd_self_sub _) hxin]
  have := num_tail (p := p) (n := x.length) (v := fun j => x.getD j 0) (fun j hj => by
   rw [List.getD_eq_getElem?_getD, List.getElem?_eq_none hj]; exact Int.dvd_zero p) (d - x.length)
  rw [show x.length + (d - x.length) = d by omega] at this
  exact this.symm
theorem vc124 : ∀ x, C124.pre x → VC (TT []) H147 Try.f124 C124 x := by
 rintro ⟨(n : Int), (p : Int), ⟨⟩⟩ ⟨(n0 : 0 ≤ n), (n1 : n ≤ 4611686018427387904), (p2 : 2 ≤ p), (p6 : p ≤ 65536)⟩
 show ∃ (n_1 : Nat), itl (fun (G : Int × List Int × PUnit → Prop) (x : Int × List Int × PUnit) => Br (decide (x.fst > (0 : Int))) (p ≠ (0 : Int) ∧ ((↑(List.length x.snd.fst) : Int) + (↑[Int.tmod x.fst p].length : Int)) * (8 : Int) ≤ (140737488355328 : Int) ∧ p ≠ (0 : Int) ∧ G (IntKind.i64.wrap (Int.tdiv x.fst p), List.append x.snd.fst [Int.tmod x.fst p], ())) (x.snd = C124.post (n, p, ()))) n_1 (n, [], ())
 refine itl_rule (fun s => ∃ f : Nat, Fm.digs p 64 n = s.2.1 ++ Fm.digs p f s.1 ∧ 0 ≤ s.1 ∧ s.1 ≤ 4611686018427387904 ∧ s.1 < p ^ f ∧ s.2.1.length + f = 64) (fun s => s.1.toNat) ⟨64, rfl, n0, n1, ?_, rfl⟩ ?_
 ·have h1 : (2 : Int) ^ 64 ≤ p ^ 64 := by
   obtain ⟨k, rfl⟩ : ∃ k : Nat, p = k := ⟨p.toNat, by omega⟩
   have : 2 ^ 64 ≤ k ^ 64 := Nat.pow_le_pow_left (by omega) 64
   exact_mod_cast this
  have h2 : (4611686018427387904 : Int) < 2 ^ 64 := by decide
  exact Int.lt_of_le_of_lt n1 (Int.lt_of_lt_of_le h2 h1)
 ·rintro ⟨m, out, ⟨⟩⟩ G ⟨f, e, m0, m1, mf, hlen⟩ hG
  simp only at e m0 m1 mf hlen hG ⊢
  refine Br_of (fun h => ?_) (fun h => ?_)
  ·have h : m > 0 := of_decide_eq_true h
   obtain ⟨f', rfl⟩ : ∃ f', f = f' + 1 := by
    cases f with
    | zero => simp at mf; omega
    | succ f => exact ⟨f, rfl⟩
   have hd0 : 0 ≤ m / p := Int.ediv_nonneg m0 (by omega)
   have hdlt : m / p < m := Int.ediv_lt_of_lt_mul (by omega) (by
    have : m * 2 ≤ m * p := Int.mul_le_mul_of_nonneg_left p2 m0
    omega)
   rw [tdiv_pos m0, tmod_pos m0, wrap_i64 (by omega) (by omega)]
   refine ⟨by omega, ?_, by omega, hG _ ⟨f', ?_, hd0, by simp only; omega, ?_, ?_⟩ (by simp only; omega)⟩
   ·simp only [List.length_singleton]
    have : (out.length : Int) ≤ 64 := by omega
    omega
   ·show _ = List.append out [m % p] ++ _
    rw [e, Fm.digs, decide_eq_true h, cond_true]
    simp
   ·exact Int.ediv_lt_of_lt_mul (by omega) (by rw [← Int.pow_succ]; exact mf)
   ·show (out ++ [m % p]).length + f' = 64
    simp
    omega
  ·have h : ¬ m > 0 := of_decide_eq_false h
   have : m = 0 := by omega
   subst this
   have hz : Fm.digs p f 0 = [] := by cases f <;> simp [Fm.digs]
   rw [hz, List.append_nil] at e
   show (out, ()) = (Pl.digs p n, ())
   unfold Pl.digs
   rw [e]
theorem vc141 : ∀ x, C141.pre x → VC (TT []) H165 Try.f141 C141 x := by
 rintro ⟨(l : List Int), (p : Int), ⟨⟩⟩ ⟨⟨(p2 : 2 ≤ p), (p6 : p ≤ 65536)⟩, (hl : ∀ c ∈ l, 0 ≤ c ∧ c < p), (hb : p ^ l.length ≤ 4611686018427387904), (h64 : l.length ≤ 64)⟩
 show ∃ (n : Nat), itl (fun (G : Int × Int × PUnit → Prop) (x : Int × Int × PUnit) => Br (decide (x.snd.fst ≥ (0 : Int))) ((0 : Int) ≤ x.snd.fst ∧ x.snd.fst < (↑l.length : Int) ∧ G (IntKind.i64.wrap (IntKind.i64.wrap (x.fst * p) + rd i64 l x.snd.fst), IntKind.i64.wrap (x.snd.fst - (1 : Int)), ())) ((x.fst, ()) = C141.post (l, p, ()))) n ((0 : Int), IntKind.i64.wrap ((↑l.length : Int) - (1 : Int)), ())
 rw [wrap_i64 (by omega) (by omega)]
 refine itl_rule (fun s => ∃ i : Nat, s.2.1 = (i : Int) - 1 ∧ i ≤ l.length ∧ s.1 = numL p (l.drop i)) (fun s => (s.2.1 + 1).toNat) ⟨l.length, rfl, Nat.le_refl _, by simp [numL]⟩ ?_
 rintro ⟨n, j, ⟨⟩⟩ G ⟨i, e1, hi, e2⟩ hG
 simp only at e1 e2 hG ⊢
 subst e1 e2
 refine Br_of (fun h => ?_) (fun h => ?_)
 ·have h : (i : Int) - 1 ≥ 0 := of_decide_eq_true h
  obtain ⟨k, rfl⟩ : ∃ k, i = k + 1 := ⟨i - 1, by omega⟩
  have e : (((k + 1 : Nat) : Int) - 1) = k := by omega
  rw [e] at hG ⊢
  rw [rd_getD, Int.toNat_natCast]
  have hk : k < l.length := by omega
  obtain ⟨r1, r2⟩ := numL_range p2 (l := l.drop k) fun c hc => hl c (List.mem_of_mem_drop hc)
  rw [numL_drop hk] at r1 r2
  have hg := hl _ (getD_mem hk)
  obtain ⟨s1, s2⟩ := numL_range p2 (l := l.drop (k + 1)) fun c hc => hl c (List.mem_of_mem_drop hc)
  have hpow : p ^ (l.drop k).length ≤ p ^ l.length := pow_mono p2 (by simp)
  have hm := Int.mul_nonneg s1 (show 0 ≤ p by omega)
  rw [wrap_i64 (x := numL p (l.drop (k + 1)) * p) (by omega) (by omega), wrap_i64 (by omega) (by omega), wrap_i64 (by omega) (by omega)]
  exact ⟨by omega, by omega, hG _ ⟨k, rfl, by omega, (numL_drop hk).symm⟩ (by simp only; omega)⟩
 ·have h : ¬ ((i : Int) - 1 ≥ 0) := of_decide_eq_false h
  have : i = 0 := by omega
  subst this
  rfl
theorem snd124 : Sound Try.prog 124 C124 := fn_sound (T := TT []) (fn := Try.f124) (tok0 trivial) Try.func124 (by kernel_rfl) H147 vc124 (by kernel_rfl)
theorem snd141 : Sound Try.prog 141 C141 := fn_sound (T := TT []) (fn := Try.f141) (tok0 trivial) Try.func141 (by kernel_rfl) H165 vc141 (by kernel_rfl)
theorem snd98 : Sound Try.prog 98 C98 := fn_sound (T := T98) (fn := Try.f98) (tok0 ⟨snd124, snd141, trivial⟩) Try.func98 (by kernel_rfl) H98 vc98 (by kernel_rfl)
theorem snd97 : Sound Try.prog 97 C97 := fn_sound (T := T98) (fn := Try.f97) (tok0 ⟨snd124, snd141, trivial⟩) Try.func97 (by kernel_rfl) H97 vc97 (by kernel_rfl)
theorem tms_le {q a b : Int} (hq : isQ q) (ha : Pl.inQ q a) (hb : Pl.inQ q b) : 0 ≤ Pl.tms (Pl.lpf q) a b ∧ Pl.tms (Pl.lpf q) a b ≤ 4294967296 := by
 have hp2 := hq.prime.1
 obtain ⟨h1, h2⟩ := Fm.num_range (p := Pl.lpf q) (by omega) (n := (Fm.digs (Pl.lpf q) 64 a).length + (Fm.digs (Pl.lpf q) 64 b).length - 1) (v := cv (Fm.digs (Pl.lpf q) 64 a) (Fm.digs (Pl.lpf q) 64 b))
 refine ⟨h1, ?_⟩
 have la := digs_lt hq ha.1 ha.2
 have lb := digs_lt hq hb.1 hb.2
 have h3 : Pl.lpf q ^ ((Fm.digs (Pl.lpf q) 64 a).length + (Fm.digs (Pl.lpf q) 64 b).length - 1) ≤ Pl.lpf q ^ ((Pl.K q).toNat + (Pl.K q).toNat) := pow_mono hp2 (by omega)
 rw [Int.pow_add, ← hq.pow] at h3
 have h4 : q * q ≤ 65536 * 65536 := Int.mul_le_mul hq.2.1 hq.2.1 (by have := hq.1; omega) (by omega)
 have h5 : Pl.tms (Pl.lpf q) a b < Pl.lpf q ^ ((Fm.digs (Pl.lpf q) 64 a).length + (Fm.digs (Pl.lpf q) 64 b).length - 1) := h2
 omega
theorem vc35 : ∀ x, C35.pre x → VC T35 Hf3 Try.f35 C35 x := by
 rintro ⟨⟨(q : Int), (p : Int), (k : Int), (m : Int), ⟨⟩⟩, (a : Int), (b : Int), ⟨⟩⟩ ⟨(hr : Pl.okr _), (ha : Pl.inQ q a), (hb : Pl.inQ q b)⟩
 obtain ⟨hq, hP, hK, hM⟩ := okr_open hr
 show Br (k == (1 : Int)) (p ≠ (0 : Int) ∧ ((IntKind.i64.wrap (a * b)).tmod p, ()) = C35.post ((q, p, k, m, ()), a, b, ()))
   (Pl.okTm p a b ∧ Pl.okRs p m (Pl.tms p a b) ∧ (Pl.rst p m (Pl.tms p a b), ()) = C35.post ((q, p, k, m, ()), a, b, ()))
 have hp2 := hq.prime.1
 have hp6 := hq.p6
 refine Br_of (fun h => ?_) (fun h => ?_)
 ·have h := eq_of_beq h
  rw [hK] at h
  have e := lpf_K1 hq h
  obtain ⟨m0, m1⟩ := mul_small hq.2.1 ha.1 ha.2 hb.1 hb.2
  rw [wrap_i64 (by omega) (by omega), tmod_pos m0]
  refine ⟨by omega, ?_⟩
  show _ = ((fld q).mul a b, ())
  rw [mul1 hq h, hP, e]
 ·have hK1 : Pl.K q ≠ 1 := fun e => by rw [hK, e] at h; cases h
  obtain ⟨t0, t1⟩ := tms_le hq ha hb
  obtain ⟨s1, s2, _⟩ := Mod_spec hq
  subst hP hM
  refine ⟨⟨q, hq, rfl, ha, hb⟩, ⟨⟨hp2, hp6⟩, ⟨t0, by omega⟩, (Pl.K q).toNat, by have := hq.2.2; omega, by have := hq.K64; omega, by rw [← hq.pow]; exact s1, by rw [← hq.pow]; exact s2, by rw [← hq.pow]; exact hq.2.1⟩, ?_⟩
  show (Fm.rst _ _ _, ()) = ((fld q).mul a b, ())
  rw [mul_rst hq ha.1 ha.2 hb.1 hb.2]
theorem snd35 : Sound Try.prog 35 C35 := fn_sound (T := T35) (fn := Try.f35) (tok0 ⟨snd98, snd97, trivial⟩) Try.func35 (by kernel_rfl) Hf3 vc35 (by kernel_rfl)
theorem vc40 : ∀ x, C40.pre x → VC T40 H40 Try.f40 C40 x := by
 rintro ⟨⟨(q : Int), (p : Int), (k : Int), (m : Int), ⟨⟩⟩, (a : Int), (n : Int), ⟨⟩⟩ ⟨(h0 : Pl.okr _), (⟨a0, a1⟩ : Pl.inQ q a), (n0 : 0 ≤ n), (n1 : n ≤ 4611686018427387904)⟩
 obtain ⟨hq, _, _, _⟩ := okr_open h0
 show ∃ (n_1 : Nat), itl (fun (G : Int × Int × Int × PUnit → Prop) (x : Int × Int × Int × PUnit) => Br (decide (x.snd.fst > (0 : Int))) ((2 : Int) ≠ (0 : Int) ∧ Br (Int.tmod x.snd.fst (2 : Int) == (1 : Int)) ((Pl.okr (q, p, k, m, ()) ∧ Pl.inQ q x.snd.snd.fst ∧ Pl.inQ q x.fst) ∧ (Pl.okr (q, p, k, m, ()) ∧ Pl.inQ q x.fst ∧ Pl.inQ q x.fst) ∧ (2 : Int) ≠ (0 : Int) ∧ G (Pl.mul q x.fst x.fst, IntKind.i64.wrap (Int.tdiv x.snd.fst (2 : Int)), Pl.mul q x.snd.snd.fst x.fst, ())) ((Pl.okr (q, p, k, m, ()) ∧ Pl.inQ q x.fst ∧ Pl.inQ q x.fst) ∧ (2 : Int) ≠ (0 : Int) ∧ G (Pl.mul q x.fst x.fst, IntKind.i64.wrap (Int.tdiv x.snd.fst (2 : Int)), x.snd.snd))) (x.snd.snd = C40.post ((q, p, k, m, ()), a, n, ()))) n_1 (a, n, (1 : Int), ())
 have ok := fld_ok hq
 have hin : ∀ x, Pl.inQ q x ↔ (fld q).In x := fun x => (in_iff hq x).symm
 refine itl_rule (fun s => Pl.inQ q s.1 ∧ 0 ≤ s.2.1 ∧ s.2.1 ≤ 4611686018427387904 ∧ Pl.inQ q s.2.2.1 ∧ (fld q).mul s.2.2.1 ((fld q).pow s.1 s.2.1.toNat) = (fld q).pow a n.toNat) (fun s => s.2.1.toNat)
  ⟨⟨a0, a1⟩, n0, n1, (hin 1).2 (Fm.Fld.in1 ok), Fm.Fld.one_mul ok (Fm.Fld.pow_in ok _ _)⟩ ?_
 rintro ⟨x, m, out, ⟨⟩⟩ G ⟨hx, m0, m1, ho, e⟩ hG
 simp only at hx m0 m1 ho e hG ⊢
 refine Br_of (fun h => ?_) (fun h => ?_)
 ·have h : m > 0 := of_decide_eq_true h
  rw [tmod_pos m0, tdiv_pos m0, wrap_i64 (by omega) (by omega)]
  have hx2 : Pl.inQ q (Pl.mul q x x) := (hin _).2 (Fm.Fld.mul_in ok _ _)
  have hxo : Pl.inQ q (Pl.mul q out x) := (hin _).2 (Fm.Fld.mul_in ok _ _)
  have sq : ∀ j, (fld q).pow ((fld q).mul x x) j = (fld q).pow x (j + j) := fun j => by rw [Fm.Fld.mul_pow ok, ← Fm.Fld.pow_add ok]
  refine ⟨by omega, Br_of (fun h2 => ?_) (fun h2 => ?_)⟩
  ·have h2 : m % 2 = 1 := eq_of_beq h2
   refine ⟨⟨h0, ho, hx⟩, ⟨h0, hx, hx⟩, by omega, hG _ ⟨hx2, by simp only; omega, by simp only; omega, hxo, ?_⟩ (by simp only; omega)⟩
   show (fld q).mul ((fld q).mul out x) ((fld q).pow ((fld q).mul x x) (m / 2).toNat) = _
   rw [sq, ← e, Fm.Fld.mul_assoc ok]
   conv => rhs; rw [show m.toNat = ((m / 2).toNat + (m / 2).toNat) + 1 by omega]
   rw [Fm.Fld.pow, Fm.Fld.mul_comm ok x]
  ·have h2 : m % 2 ≠ 1 := fun h3 => by rw [h3] at h2; cases h2
   refine ⟨⟨h0, hx, hx⟩, by omega, hG _ ⟨hx2, by simp only; omega, by simp only; omega, ho, ?_⟩ (by simp only; omega)⟩
   show (fld q).mul out ((fld q).pow ((fld q).mul x x) (m / 2).toNat) = _
   rw [sq, ← e, show m.toNat = (m / 2).toNat + (m / 2).toNat by omega]
 ·have h : ¬ m > 0 := of_decide_eq_false h
  have hm : m.toNat = 0 := by omega
  rw [hm, Fm.Fld.pow, Fm.Fld.mul_one ok ((hin _).1 ho)] at e
  show (out, ()) = (Pl.pow q a n, ())
  unfold Pl.pow
  rw [e]
theorem snd40 : Sound Try.prog 40 C40 := fn_sound (T := T40) (fn := Try.f40) (tok0 ⟨snd35, trivial⟩) Try.func40 (by kernel_rfl) H40 vc40 (by kernel_rfl)
theorem vc99 : ∀ x, C99.pre x → VC T99 Hf2 Try.f99 C99 x := by
 rintro ⟨⟨(q : Int), (p : Int), (k : Int), (m : Int), ⟨⟩⟩, (a : Int), ⟨⟩⟩ ⟨(h0 : Pl.okr _), (ha : Pl.inQ q a)⟩
 obtain ⟨hq, _, _, _⟩ := okr_open h0
 show (Pl.okr (q, p, k, m, ()) ∧
    Pl.inQ q a ∧
     (0 : Int) ≤ IntKind.i64.wrap (q - (2 : Int)) ∧ IntKind.i64.wrap (q - (2 : Int)) ≤ (4611686018427387904 : Int)) ∧
   (Pl.pow q a (IntKind.i64.wrap (q - (2 : Int))), ()) = C99.post ((q, p, k, m, ()), a, ())
 have q2 := hq.1
 have q6 := hq.2.1
 rw [wrap_i64 (by omega) (by omega)]
 exact ⟨⟨h0, ha, by omega, by omega⟩, rfl⟩
theorem snd99 : Sound Try.prog 99 C99 := fn_sound (T := T99) (fn := Try.f99) (tok0 ⟨snd40, trivial⟩) Try.func99 (by kernel_rfl) Hf2 vc99 (by kernel_rfl)
end Fd
end
section
set_option linter.unusedVariables false
set_option linter.unusedSimpArgs false
set_option maxRecDepth 100000
namespace Fd
open Go Fw Go.Proofs
open Fm (V Eqv ev e0 Xp)

theorem lpfL_min {q : Int} : ∀ (f : Nat) (p : Int), (∀ d, 2 ≤ d → d < p → ¬ d ∣ q) → ∀ d, 2 ≤ d → d < Pl.lpfL f q p → ¬ d ∣ q
 | 0, p, h, d, d2, dl => h d d2 dl
 | f + 1, p, h, d, d2, dl => by
  rw [Pl.lpfL] at dl
  by_cases hm : q % p = 0
  ·rw [decide_eq_true hm, cond_true] at dl
   exact h d d2 dl
  ·rw [decide_eq_false hm, cond_false] at dl
   refine lpfL_min f (p + 1) (fun e e2 el he => ?_) d d2 dl
   by_cases hep : e = p
   ·subst hep; exact hm (Int.emod_eq_zero_of_dvd he)
   ·exact h e e2 (by omega) he
theorem lpf_min {q d : Int} (d2 : 2 ≤ d) (h : d < Pl.lpf q) : ¬ d ∣ q := lpfL_min 65537 2 (fun d _ _ => by omega) d d2 h
theorem newR_no {q : Int} (h : ¬ isQ q) : Pl.newR q = (0, 0, 0, 0, ()) ∧ Pl.okQ q = false := by
 have : Pl.okQ q = false := by
  cases hb : Pl.okQ q with
  | false => rfl
  | true => exact absurd (okQ_iff.1 hb) h
 unfold Pl.newR
 rw [this]
 exact ⟨rfl, rfl⟩
theorem newR_yes {q : Int} (h : isQ q) : Pl.newR q = RF q ∧ Pl.okQ q = true := by
 have := okQ_iff.2 h
 unfold Pl.newR
 rw [this]
 exact ⟨rfl, rfl⟩
theorem vc79 : ∀ x, C79.pre x → VC T79 H79 Try.f79 C79 x := by
 rintro ⟨(n : Int), ⟨⟩⟩ _
 show Br (decide (n < (2 : Int))) ((((0 : Int), (0 : Int), (0 : Int), (0 : Int), ()), false, ()) = C79.post (n, ())) (Br (decide (n > (65536 : Int))) ((((0 : Int), (0 : Int), (0 : Int), (0 : Int), ()), false, ()) = C79.post (n, ())) (∃ (n_1 : Nat), itl (fun (G : Int × (Int × Int × Int × Int × PUnit) × PUnit → Prop) (x : Int × (Int × Int × Int × Int × PUnit) × PUnit) => x.fst ≠ (0 : Int) ∧ Br (n.tmod x.fst != (0 : Int)) (G (IntKind.i64.wrap (x.fst + (1 : Int)), x.snd)) (∃ (n_2 : Nat), itl (fun (G : Int × Int × (Int × Int × Int × Int × PUnit) × PUnit → Prop) (x_1 : Int × Int × (Int × Int × Int × Int × PUnit) × PUnit) => Br (decide (x_1.snd.fst > (1 : Int))) (x.fst ≠ (0 : Int) ∧ Br (Int.tmod x_1.snd.fst x.fst != (0 : Int)) ((((0 : Int), (0 : Int), (0 : Int), (0 : Int), ()), false, ()) = C79.post (n, ())) (x.fst ≠ (0 : Int) ∧ G (IntKind.i64.wrap (x_1.fst + (1 : Int)), IntKind.i64.wrap (Int.tdiv x_1.snd.fst x.fst), x_1.snd.snd))) (Br (x_1.fst == (1 : Int)) (((n, x.fst, (1 : Int), x.fst, ()), true, ()) = C79.post (n, ())) (∃ (n_3 : Nat), itl (fun (G : Int × (Int × Int × Int × Int × PUnit) × PUnit → Prop) (x_2 : Int × (Int × Int × Int × Int × PUnit) × PUnit) => ∃ (n_4 : Nat), itl (fun (G_1 : Bool × Int × Int × (Int × Int × Int × Int × PUnit) × PUnit → Prop) (x_3 : Bool × Int × Int × (Int × Int × Int × Int × PUnit) × PUnit) => Br (decide (IntKind.i64.wrap ((2 : Int) * x_3.snd.snd.fst) ≤ x_1.fst)) (Br x_3.fst (∃ (n : Nat), itl (fun (G : Bool × Int × (Int × Int × Int × Int × PUnit) × PUnit → Prop) (x_4 : Bool × Int × (Int × Int × Int × Int × PUnit) × PUnit) => Br (decide (x_4.snd.fst < IntKind.i64.wrap ((2 : Int) * x_3.snd.fst))) (Br x_4.fst (Pl.okRs x.fst x_4.snd.fst x_2.fst ∧ G (Pl.rst x.fst x_4.snd.fst x_2.fst != (0 : Int), IntKind.i64.wrap (x_4.snd.fst + (1 : Int)), x_4.snd.snd)) (G_1 (x_4.fst, IntKind.i64.wrap (x_3.snd.fst * x.fst), IntKind.i64.wrap (x_3.snd.snd.fst + (1 : Int)), x_4.snd.snd))) (G_1 (x_4.fst, IntKind.i64.wrap (x_3.snd.fst * x.fst), IntKind.i64.wrap (x_3.snd.snd.fst + (1 : Int)), x_4.snd.snd))) n (x_3.fst, x_3.snd.fst, x_3.snd.snd.snd)) (Br x_3.fst (((n, x.fst, x_1.fst, x_2.fst, ()), true, ()) = C79.post (n, ())) (G (IntKind.i64.wrap (x_2.fst + (1 : Int)), x_3.snd.snd.snd)))) (Br x_3.fst (((n, x.fst, x_1.fst, x_2.fst, ()), true, ()) = C79.post (n, ())) (G (IntKind.i64.wrap (x_2.fst + (1 : Int)), x_3.snd.snd.snd)))) n_4 (true, x.fst, (1 : Int), x_2.snd)) n_3 (n, x_1.snd.snd)))) n_2 ((0 : Int), n, x.snd))) n_1 ((2 : Int), ((0 : Int), (0 : Int), (0 : Int), (0 : Int), ()), ())))
 have no : ¬ isQ n → (((0 : Int), (0 : Int), (0 : Int), (0 : Int), ()), false, ()) = C79.post (n, ()) := fun h => by
  show _ = (Pl.newR n, Pl.okQ n, ())
  rw [(newR_no h).1, (newR_no h).2]
 have yes : ∀ p k m : Int, isQ n → p = Pl.lpf n → k = Pl.K n → m = Pl.Mod n → ((n, p, k, m, ()), true, ()) = C79.post (n, ()) := fun p k m h h1 h2 h3 => by
  show _ = (Pl.newR n, Pl.okQ n, ())
  rw [(newR_yes h).1, (newR_yes h).2, h1, h2, h3]; rfl
 refine Br_of (fun h => no fun hq => ?_) (fun h => Br_of (fun h2 => no fun hq => ?_) (fun h2 => ?_))
 ·have := of_decide_eq_true h; have := hq.1; omega
 ·have := of_decide_eq_true h2; have := hq.2.1; omega
 have n2 : 2 ≤ n := by have := of_decide_eq_false h; omega
 have n6 : n ≤ 65536 := by have := of_decide_eq_false h2; omega
 obtain ⟨p2, pn, pd, pp⟩ := lpf_spec n2 n6
 refine itl_rule (fun s => 2 ≤ s.1 ∧ s.1 ≤ Pl.lpf n) (fun s => (Pl.lpf n - s.1).toNat) ⟨by simp only; omega, by simp only; omega⟩ ?_
 rintro ⟨p, bx⟩ G ⟨hp1, hp2⟩ hG
 simp only at hp1 hp2 hG ⊢
 rw [tmod_pos (by omega)]
 refine ⟨by omega, Br_of (fun hm => ?_) (fun hm => ?_)⟩
 ·have hm : n % p ≠ 0 := by simpa using hm
  have hne : p ≠ Pl.lpf n := fun e => hm (by rw [e]; exact Int.emod_eq_zero_of_dvd pd)
  rw [wrap_i64 (by omega) (by omega)]
  exact hG _ ⟨by simp only; omega, by simp only; omega⟩ (by simp only; omega)
 have hm : n % p = 0 := by simpa using hm
 have hpe : p = Pl.lpf n := by
  rcases ilt p (Pl.lpf n) with h' | h'
  ·exact absurd (Int.dvd_of_emod_eq_zero hm) (lpf_min hp1 h')
  ·omega
 subst hpe
 clear hG hp1 hp2 G
 generalize hP : Pl.lpf n = p at *
 have hKdef : Pl.K n = Pl.kL 64 n p 0 := by unfold Pl.K; rw [hP]
 refine itl_rule (fun s => ∃ f : Nat, Pl.K n = Pl.kL f s.2.1 p s.1 ∧ 1 ≤ s.2.1 ∧ s.2.1 ≤ n ∧ s.2.1 < 2 ^ f ∧ 0 ≤ s.1 ∧ s.1 + (f : Int) = 64) (fun s => s.2.1.toNat) ⟨64, hKdef, by simp only; omega, by simp only; omega, two64 n6, by simp only; omega, by simp only; omega⟩ ?_
 rintro ⟨k, m, bx⟩ G ⟨f, eK, m1, mn, mf, k0, kf⟩ hG
 simp only at eK m1 mn mf k0 kf hG ⊢
 refine Br_of (fun h => ?_) (fun h => ?_)
 ·have h : m > 1 := of_decide_eq_true h
  obtain ⟨f', rfl⟩ : ∃ f', f = f' + 1 := by
   cases f with
   | zero => simp at mf; omega
   | succ f => exact ⟨f, rfl⟩
  rw [Pl.kL, decide_eq_true h, cond_true] at eK
  rw [tmod_pos (by omega)]
  refine ⟨by omega, Br_of (fun hm2 => no fun hq => ?_) (fun hm2 => ?_)⟩
  ·have hm2 : m % p ≠ 0 := by simpa using hm2
   rw [decide_eq_false hm2, cond_false] at eK
   have := hq.2.2
   omega
  ·have hm2 : m % p = 0 := by simpa using hm2
   rw [decide_eq_true hm2, cond_true] at eK
   obtain ⟨c, rfl⟩ := Int.dvd_of_emod_eq_zero hm2
   rw [Int.mul_ediv_cancel_left _ (by omega)] at eK
   have hc1 : 1 ≤ c := by
    rcases ilt c 1 with h3 | h3
    ·have : p * c ≤ p * 0 := Int.mul_le_mul_of_nonneg_left (by omega) (by omega)
     omega
    ·exact h3
   have hc2 : 2 * c ≤ p * c := Int.mul_le_mul_of_nonneg_right p2 (by omega)
   rw [tdiv_pos (by omega), Int.mul_ediv_cancel_left _ (by omega), wrap_i64 (by omega) (by omega), wrap_i64 (by omega) (by omega)]
   refine ⟨by omega, hG _ ⟨f', eK, hc1, by simp only; omega, ?_, by simp only; omega, by simp only; omega⟩ (by simp only; omega)⟩
   simp only
   rw [Int.pow_succ] at mf
   omega
 have h : ¬ m > 1 := of_decide_eq_false h
 have hKk : Pl.K n = k := by
  rw [eK]
  cases f with
  | zero => rfl
  | succ f => rw [Pl.kL, decide_eq_false h, cond_false]
 have hq : isQ n := by
  refine ⟨n2, n6, ?_⟩
  rcases K_spec n2 n6 with ⟨a, _⟩ | ⟨a, _⟩
  ·omega
  ·exact a
 have hk1 := hq.2.2
 have hk17 := hq.K64
 clear hG eK kf mf m1 mn G
 obtain ⟨M1, M2, M3⟩ := Mod_spec hq
 have hpow := hq.pow
 rw [hP, hKk] at M3 hpow
 refine Br_of (fun hk => ?_) (fun hk => ?_)
 ·have hk : k = 1 := eq_of_beq hk
  refine yes p 1 p hq rfl (by omega) ?_
  unfold Pl.Mod
  rw [decide_eq_true (by omega), cond_true, hP]
 have hk : k ≠ 1 := fun e => by rw [e] at hk; cases hk
 obtain ⟨hirr, hless, _⟩ := M3 (by omega)
 obtain ⟨kN, rfl⟩ : ∃ kN : Nat, k = kN := ⟨k.toNat, by omega⟩
 simp only [Int.toNat_natCast] at hirr hless hpow
 refine itl_rule (fun s => n ≤ s.1 ∧ s.1 ≤ Pl.Mod n) (fun s => (Pl.Mod n - s.1).toNat) ⟨by simp only; omega, by simp only; omega⟩ ?_
 rintro ⟨m, bx⟩ G ⟨hm1, hm2⟩ hG
 simp only at hm1 hm2 hG ⊢
 have done : ∀ (b : Bool) (bx' : Int × Int × Int × Int × PUnit), (b = true ↔ Fm.Irr p kN m) → Br b (((n, p, (kN : Int), m, ()), true, ()) = C79.post (n, ())) (G (IntKind.wrap .i64 (m + 1), bx', ())) := by
  intro b bx' hb
  refine Br_of (fun h => ?_) (fun h => ?_)
  ·refine yes p kN m hq rfl hKk.symm ?_
   rcases ilt m (Pl.Mod n) with h' | h'
   ·exact absurd (hb.1 h) (hless m hm1 h')
   ·omega
  ·have hne : m ≠ Pl.Mod n := fun e => by rw [← e] at hirr; rw [hb.2 hirr] at h; cases h
   rw [wrap_i64 (by omega) (by omega)]
   exact hG _ ⟨by simp only; omega, by simp only; omega⟩ (by simp only; omega)
 refine itl_rule (fun s => ∃ d : Nat, s.2.2.1 = (d : Int) ∧ 1 ≤ d ∧ 2 * d ≤ kN + 2 ∧ s.2.1 = p ^ d ∧ (s.1 = true ↔ ∀ d', 1 ≤ d' → d' < d → ∀ x, p ^ d' ≤ x → x < 2 * p ^ d' → Fm.rst p x m ≠ 0)) (fun s => ((kN : Int) + 2 - s.2.2.1).toNat)
  ⟨1, rfl, Nat.le_refl _, by omega, by simp only; rw [Int.pow_succ, Int.pow_zero, Int.one_mul], ⟨fun _ d' h1 h2 => by omega, fun _ => rfl⟩⟩ ?_
 rintro ⟨ok, fr, d0, bx2, ⟨⟩⟩ G1 ⟨d, e1, hd1, hd2, e2, hok⟩ hG1
 simp only at e1 e2 hok hG1 ⊢
 subst e1 e2
 rw [wrap_i64 (x := 2 * (d : Int)) (by omega) (by omega)]
 have fin : (ok = false ∨ ¬ 2 * d ≤ kN) → (ok = true ↔ Fm.Irr p kN m) := by
  intro hcase
  constructor
  ·intro h d' h1 h2 x x1 x2
   rcases hcase with h' | h'
   ·rw [h] at h'; cases h'
   ·exact hok.1 h d' h1 (by omega) x x1 x2
  ·intro h
   exact hok.2 fun d' h1 h2 => h d' h1 (by omega)
 refine Br_of (fun hdk => ?_) (fun hdk => done ok _ (fin (.inr (by have := of_decide_eq_false hdk; omega))))
 have hdk : 2 * (d : Int) ≤ kN := of_decide_eq_true hdk
 refine Br_of (fun hk => ?_) (fun hk => by
  have := done ok bx2 (fin (.inl hk))
  rw [hk] at this ⊢
  exact this)
 have hpd : p ^ (d + 1) ≤ n := by rw [hpow]; exact pow_mono p2 (by omega)
 have hpd0 : p ^ d ≤ n := by rw [hpow]; exact pow_mono p2 (by omega)
 have hpdp : 0 < p ^ d := Int.pow_pos (by omega)
 have hpd1 : 0 < p ^ (d + 1) := Int.pow_pos (by omega)
 have hpds : p ^ d * p = p ^ (d + 1) := (Int.pow_succ p d).symm
 rw [wrap_i64 (x := 2 * p ^ d) (by omega) (by omega), hpds, wrap_i64 (x := p ^ (d + 1)) (by omega) (by omega), wrap_i64 (x := (d : Int) + 1) (by omega) (by omega)]
 have next : ∀ (b : Bool) (bx' : Int × Int × Int × Int × PUnit), (b = true ↔ ∀ x, p ^ d ≤ x → x < 2 * p ^ d → Fm.rst p x m ≠ 0) → G1 (b, p ^ (d + 1), (d : Int) + 1, bx', ()) := by
  intro b bx' hb
  refine hG1 _ ⟨d + 1, rfl, by omega, by omega, rfl, ?_⟩ (by simp only; omega)
  simp only
  rw [hb]
  constructor
  ·intro h d' h1 h2
   by_cases e : d' = d
   ·subst e; exact h
   ·exact hok.1 hk d' h1 (by omega)
  ·intro h
   exact h d hd1 (by omega)
 refine itl_rule (fun s => p ^ d ≤ s.2.1 ∧ s.2.1 ≤ 2 * p ^ d ∧ (s.1 = true ↔ ∀ x, p ^ d ≤ x → x < s.2.1 → Fm.rst p x m ≠ 0)) (fun s => (2 * p ^ d - s.2.1).toNat) ⟨by simp only; omega, by simp only; omega, ⟨fun _ x h1 h2 => by simp only at h2; omega, fun _ => hk⟩⟩ ?_
 rintro ⟨ok2, x, bx3, ⟨⟩⟩ G2 ⟨hx1, hx2, hok2⟩ hG2
 simp only at hx1 hx2 hok2 hG2 ⊢
 refine Br_of (fun hx => ?_) (fun hx => ?_)
 ·have hx : x < 2 * p ^ d := of_decide_eq_true hx
  refine Br_of (fun hk2 => ?_) (fun hk2 => ?_)
  ·rw [wrap_i64 (x := x + 1) (by omega) (by omega)]
   refine ⟨⟨⟨p2, by omega⟩, ⟨by omega, by omega⟩, d, hd1, by omega, hx1, hx, by omega⟩, hG2 _ ⟨by simp only; omega, by simp only; omega, ?_⟩ (by simp only; omega)⟩
   simp only
   constructor
   ·intro h y y1 y2
    by_cases e : y = x
    ·subst e
     have : Pl.rst p y m ≠ 0 := by simpa using h
     exact this
    ·exact hok2.1 hk2 y y1 (by omega)
   ·intro h
    have : Pl.rst p x m ≠ 0 := h x hx1 (by omega)
    simpa using this
  ·refine next ok2 bx3 ⟨fun h => absurd h (by rw [hk2]; decide), fun h => hok2.2 fun y y1 y2 => h y y1 (by omega)⟩
 ·have hx : ¬ x < 2 * p ^ d := of_decide_eq_false hx
  have e : x = 2 * p ^ d := by omega
  subst e
  exact next ok2 bx3 hok2
theorem snd79 : Sound Try.prog 79 C79 := fn_sound (T := T79) (fn := Try.f79) (tok0 ⟨snd97, trivial⟩) Try.func79 (by kernel_rfl) H79 vc79 (by kernel_rfl)
end Fd
end
section
set_option linter.unusedVariables false
set_option linter.unusedSimpArgs false
set_option maxRecDepth 100000
namespace Fd
open Go Fw Go.Proofs

def neClo : D := .clo 150 []
def genClo (v : D) (g : Int) (f : List D) : D := .clo 146 [.rptr [v], .rptr [n64 g], .rptr [.rptr f]]
def outClo (f : List D) : D := .clo 140 [.rptr [.rptr f]]
def Pl.tells : D → Int → Bool
 | .clo 150 _, c => decide (c ≠ 0)
 | .clo 146 [.rptr [v], .rptr [.int .i64 g], .rptr [.rptr (_ :: .int .i64 q :: _)]], r => decide (Pl.pow (Pl.qA v) g ((q - 1) / r) = 1)
 | .clo 140 [.rptr [.rptr (_ :: .int .i64 q :: _)]], a => decide (a < 0) || decide (a ≥ q)
 | _, _ => false
def Pl.okG (v : D) (g : Int) (f : List D) (r : Int) : Prop := ∃ q c0 cs, f = c0 :: .int .i64 q :: cs ∧ c0.nr ∧ D.nrs cs ∧ Pl.okM v ∧ Pl.qA v = q ∧ Pl.inQ q g ∧ 1 ≤ r
def Pl.okO (f : List D) : Prop := ∃ q c0 cs, f = c0 :: .int .i64 q :: cs ∧ c0.nr ∧ D.nrs cs
def Pl.tellsOK (v : D) (r : Int) : Prop := v = neClo ∨ (∃ w g f, v = genClo w g f ∧ Pl.okG w g f r) ∨ (∃ f, v = outClo f ∧ Pl.okO f)
def Vtell : Con := ⟨[.raw, I], [B], fun (x : D × Int × Unit) => Pl.tellsOK x.1 x.2.1, fun (x : D × Int × Unit) => (Pl.tells x.1 x.2.1, ()), none⟩
def C150 : Con := ⟨[I], [B], fun (x : Int × Unit) => True, fun (x : Int × Unit) => (decide (x.1 ≠ 0), ()), none⟩
def C146 : Con := ⟨[I, .raw, .raw, .raw], [B], fun (x : Int × D × D × D × Unit) => ∃ w g f, x.2.1 = .rptr [w] ∧ x.2.2.1 = .rptr [n64 g] ∧ x.2.2.2.1 = .rptr [.rptr f] ∧ Pl.okG w g f x.1, fun (x : Int × D × D × D × Unit) => (Pl.tells (.clo 146 [x.2.1, x.2.2.1, x.2.2.2.1]) x.1, ()), none⟩
def C140 : Con := ⟨[I, .raw], [B], fun (x : Int × D × Unit) => ∃ f, x.2.1 = .rptr [.rptr f] ∧ Pl.okO f, fun (x : Int × D × Unit) => (Pl.tells (.clo 140 [x.2.1]) x.1, ()), none⟩
def Pl.index (p : Int → Bool) : List Int → Int → Int
 | [], _ => -1
 | x :: l, i => bif p x then i else Pl.index p l (i + 1)
def Pl.okTl (l : List Int) (v : D) : Prop := l.length ≤ 1000000000 ∧ v.nr ∧ (v = neClo ∨ (∃ w g f, v = genClo w g f ∧ ∀ r ∈ l, Pl.okG w g f r) ∨ (∃ f, v = outClo f ∧ Pl.okO f))
def C164 : Con := ⟨[L, .raw], [I], fun (x : List Int × D × Unit) => Pl.okTl x.1 x.2.1, fun (x : List Int × D × Unit) => (Pl.index (Pl.tells x.2.1) x.1 0, ()), none⟩
def C139 : Con := ⟨[L, .raw], [B], fun (x : List Int × D × Unit) => Pl.okTl x.1 x.2.1, fun (x : List Int × D × Unit) => (x.1.any (Pl.tells x.2.1), ()), none⟩
def H164 : Hints := lo [(0, ⟨[0, 1, 7], [(8, si)]⟩)]
def T164 : Ctx := TC [] Vtell
def T139 : Ctx := TT [(164, C164)]
def T146 : Ctx := TT [(100, C100)]

def Pl.okFi (f v : D) : Prop := ∃ q c0 cs, isQ q ∧ f = .rptr (c0 :: .int .i64 q :: cs) ∧ c0.nr ∧ D.nrs cs ∧ Pl.okM v ∧ Pl.qA v = q
def C120 : Con := ⟨[.raw, .raw], [I], fun (x : D × D × Unit) => Pl.okFi x.1 x.2.1, fun (x : D × D × Unit) => (Pl.gen (Pl.qF x.1), ()), none⟩
def H120 : Hints := ⟨[], [(1, [2, 3])], [(0, ⟨[2, 3, 5], [(6, .box [I])]⟩)], [], []⟩
def T120 : Ctx := TT [(117, C117), (139, C139)]
def Pl.okLe (p k q : Int) : Prop := isQ q ∧ p = Pl.lpf q ∧ k = Pl.K q ∧ k ≠ 1
def C121 : Con := ⟨[I, I, I], [L], fun (x : Int × Int × Int × Unit) => Pl.okLe x.1 x.2.1 x.2.2.1, fun (x : Int × Int × Int × Unit) => (Pl.md x.2.2.1, ()), none⟩
def H121 : Hints := lo [(0, ⟨[0, 1], [(7, si)]⟩), (2, ⟨[0, 1, 7, 8], [(9, si)]⟩)]
def T121 : Ctx := TT [(147, C147), (148, C148), (149, C149), (139, C139)]

def Pl.okNx (p : Int) (md : List Int) (q a g : Int) : Prop := isQ q ∧ Pl.K q ≠ 1 ∧ p = Pl.lpf q ∧ md = Pl.md q ∧ Pl.inQ q a ∧ Pl.inQ q g
def nextF : List AV → Hp → Option (Prop × AV × Hp)
 | [.d (.ref 1 1), .d (.ref 3 1), .d (.ref 5 1)], h => (match h 1, h 3, h 5 with
  | some (.abox 3 [some [.int .i64 a]]), some (.abox 127 [some [.int .i64 p, .slc false (.int .i64) md, .int .i64 q]]), some (.abox 3 [some [.int .i64 g]]) =>
   some (Pl.okNx p md q a g, .d (.int .i64 a), upd h 1 (some (.abox 3 [some [.int .i64 (Pl.mul q a g)]])))
  | _, _, _ => none)
 | _, _ => none
theorem nextF_some {avs : List AV} {h h' : Hp} {p : Prop} {v : AV} (e : nextF avs h = some (p, v, h')) : ∃ (a p0 : Int) (md : List Int) (q g : Int), avs = [.d (.ref 1 1), .d (.ref 3 1), .d (.ref 5 1)] ∧ h 1 = some (.abox 3 [some [.int .i64 a]]) ∧ h 3 = some (.abox 127 [some [.int .i64 p0, .slc false i64 md, .int .i64 q]]) ∧ h 5 = some (.abox 3 [some [.int .i64 g]]) ∧
  p = Pl.okNx p0 md q a g ∧ v = .d (.int .i64 a) ∧ h' = upd h 1 (some (.abox 3 [some [.int .i64 (Pl.mul q a g)]])) := by
 unfold nextF at e
 split at e
 ·split at e
  ·rename_i a p0 md q g h1 h3 h5
   injection e with e
   injection e with e1 e2
   injection e2 with e2 e3
   exact ⟨a, p0, md, q, g, rfl, h1, h3, h5, e1.symm, e2.symm, e3.symm⟩
  ·cases e
 ·cases e
def pt151 : PT where
 base := 4000000
 mods := [1]
 fn := nextF
 ok := by
  intro avs h p v h' e
  obtain ⟨a, p0, md, q, g, _, h1, _, _, _, rfl, rfl⟩ := nextF_some e
  refine ⟨fun id => ?_, fun id hid => ?_, rfl, fun id hid => ?_, fun K hK => ?_⟩
  ·rw [upd_eq]
   by_cases e : id = 1
   ·subst e; rw [if_pos rfl, h1]; simp
   ·rw [if_neg e]
  ·rw [upd_eq, if_neg (by simpa using hid)]
  ·have : id = 1 := by simpa using hid
   subst this; rw [h1]; simp
  ·obtain ⟨o, ho, ha⟩ := hK
   rw [upd_eq] at ho
   by_cases e : K = 1
   ·subst e; exact ⟨_, h1, rfl⟩
   ·rw [if_neg e] at ho; exact ⟨o, ho, ha⟩
def T151 : Ctx := ⟨tt, [(152, C152)], [], none, [], 4000000, [1], [], 0, [], [], [], []⟩
abbrev R0 : Ar := .ty (.ref 0)
def T122 : Ctx := ⟨tt, [], [], none, [(151, pt151)], 100, [0, 1, 3, 5, 7], [], 0, [(2, 3), (3, 5), (6, 1), (15, 7), (13, 0), (32, 0)],
 [(0, .aren 3 i64 []), (1, .abox 3 []), (3, .abox 127 []), (5, .abox 3 []), (7, .abox 148 [])], [], [(148, [I, L, I, R0, R0])]⟩
def H122 : Hints := ⟨[2, 3, 6, 13, 15, 24], [], [(0, ⟨[5, 7, 19], [(20, si), (0, s0), (1, .ab 3 [I]), (3, .ab 127 [I, L, I]), (5, .ab 3 [I]), (7, .ab 148 [I, L, I, R0, R0])]⟩)], [], [(11, ([5], [0, 7]))]⟩
def Pl.okNT (s : D) (g : Int) : Prop := ∃ q, isQ q ∧ Pl.K q ≠ 1 ∧ s = slowD q ∧ g = Pl.gen q
def C122 : Con := ⟨[.raw, I], [.raw], fun (x : D × Int × Unit) => Pl.okNT x.1 x.2.1, fun (x : D × Int × Unit) => (.rptr (tabsC (Pl.qS x.1)), ()), none⟩

def nilP : D := .val (.pointer none)
def newF (q : Int) : D := bif Pl.okQ q then fieldD q else nilP
def C78 : Con := ⟨[I], [.raw, I], fun (x : Int × Unit) => True, fun (x : Int × Unit) => (newF x.1, bif Pl.okQ x.1 then 0 else 20, ()), none⟩
def H78 : Hints := lo [(0, ⟨[0], [(5, .box [.raw, I, I, I, .raw, I]), (6, si)]⟩)]
def T78 : Ctx := TT [(117, C117), (120, C120), (121, C121), (122, C122)]
end Fd
end
section
set_option linter.unusedVariables false
set_option linter.unusedSimpArgs false
set_option maxRecDepth 100000
namespace Fd
open Go Fw Go.Proofs
open Fm (V Eqv ev e0 Xp)

theorem vc150 : ∀ x, C150.pre x → VC (TT []) H0 Try.f150 C150 x := by
 rintro ⟨(c : Int), ⟨⟩⟩ _
 show (c != (0 : Int), ()) = C150.post (c, ())
 show _ = (decide (c ≠ 0), ())
 congr 1
 by_cases h : c = 0
 ·subst h; rfl
 ·rw [decide_eq_true h]; simpa using h
theorem snd150 : Sound Try.prog 150 C150 := fn_sound (T := TT []) (fn := Try.f150) (tok0 trivial) Try.func150 (by kernel_rfl) H0 vc150 (by kernel_rfl)
theorem vc146 : ∀ x, C146.pre x → VC T146 H0 Try.f146 C146 x := by
 rintro ⟨(r : Int), d1, d2, d3, ⟨⟩⟩ ⟨w, g, f, (rfl : d1 = _), (rfl : d2 = _), (rfl : d3 = _), q, c0, cs, rfl, _, _, hM, hqa, hg, (r1 : 1 ≤ r)⟩
 obtain ⟨hq, t, d, rfl⟩ := okM_q hM
 show r ≠ (0 : Int) ∧ (Pl.okM (D.iface t d) ∧ Pl.inQ (Pl.qA (D.iface t d)) g ∧ (0 : Int) ≤ IntKind.i64.wrap ((IntKind.i64.wrap (q - (1 : Int))).tdiv r) ∧ IntKind.i64.wrap ((IntKind.i64.wrap (q - (1 : Int))).tdiv r) ≤ (4611686018427387904 : Int)) ∧ (Pl.pow (Pl.qA (D.iface t d)) g (IntKind.i64.wrap ((IntKind.i64.wrap (q - (1 : Int))).tdiv r)) == (1 : Int), ()) = C146.post (r, D.rptr [D.iface t d], D.rptr [n64 g], D.rptr [D.rptr (c0 :: D.int IntKind.i64 q :: cs)], ())
 rw [hqa] at hq ⊢
 have q2 := hq.1
 have q6 := hq.2.1
 rw [wrap_i64 (x := q - 1) (by omega) (by omega), tdiv_pos (by omega)]
 have h0 : 0 ≤ (q - 1) / r := Int.ediv_nonneg (by omega) (by omega)
 have h1 : (q - 1) / r ≤ q - 1 := Int.ediv_le_self _ (by omega)
 rw [wrap_i64 (by omega) (by omega)]
 refine ⟨by omega, ⟨hM, hg, h0, by omega⟩, ?_⟩
 show _ = (decide (Pl.pow (Pl.qA (.iface t d)) g ((q - 1) / r) = 1), ())
 rw [hqa]
 congr 1
theorem okG_nr {v : D} {g : Int} {f : List D} {r : Int} (h : Pl.okG v g f r) : v.nr ∧ D.nrs f := by
 obtain ⟨q, c0, cs, rfl, h1, h2, h3, _⟩ := h
 exact ⟨okM_nr h3, h1, trivial, h2⟩
theorem nrc146 : NRC C146 := by
 refine ⟨?_, fun x hx => ⟨trivial, trivial⟩⟩
 rintro ⟨(r : Int), d1, d2, d3, ⟨⟩⟩ ⟨w, g, f, (rfl : d1 = _), (rfl : d2 = _), (rfl : d3 = _), h⟩
 obtain ⟨h1, h2⟩ := okG_nr h
 exact ⟨trivial, ⟨h1, trivial⟩, ⟨trivial, trivial⟩, ⟨h2, trivial⟩, trivial⟩
theorem snd146 : Sound Try.prog 146 C146 := fn_sound (T := T146) (fn := Try.f146) (tok0 ⟨snd100, trivial⟩) Try.func146 (by kernel_rfl) H0 vc146 (by kernel_rfl) (hC := nrc146)
theorem vc140 : ∀ x, C140.pre x → VC (TT []) H0 Try.f140 C140 x := by
 rintro ⟨(a : Int), d1, ⟨⟩⟩ ⟨f, (rfl : d1 = _), q, c0, cs, rfl, _, _⟩
 show Br (decide (a < (0 : Int))) ((true, ()) = C140.post (a, D.rptr [D.rptr (c0 :: D.int IntKind.i64 q :: cs)], ()))
   ((decide (a ≥ q), ()) = C140.post (a, D.rptr [D.rptr (c0 :: D.int IntKind.i64 q :: cs)], ()))
 refine Br_of (fun h => ?_) (fun h => ?_)
 ·show (true, ()) = (decide (a < 0) || decide (a ≥ q), ())
  rw [h]; rfl
 ·show (decide (a ≥ q), ()) = (decide (a < 0) || decide (a ≥ q), ())
  rw [h]; rfl
theorem nrc140 : NRC C140 := by
 refine ⟨?_, fun x hx => ⟨trivial, trivial⟩⟩
 rintro ⟨(r : Int), d1, ⟨⟩⟩ ⟨f, (rfl : d1 = _), q, c0, cs, rfl, h1, h2⟩
 exact ⟨trivial, ⟨⟨h1, trivial, h2⟩, trivial⟩, trivial⟩
theorem snd140 : Sound Try.prog 140 C140 := fn_sound (T := TT []) (fn := Try.f140) (tok0 trivial) Try.func140 (by kernel_rfl) H0 vc140 (by kernel_rfl) (hC := nrc140)
theorem sndVtell : SoundCv Try.prog Vtell := cv_of fun x hx => by
 obtain ⟨v, (a : Int), ⟨⟩⟩ := x
 rcases hx with hv | ⟨w, g, f, hv, h⟩ | ⟨f, hv, h⟩
 ·have hv : v = neClo := hv
  subst hv
  exact ⟨150, [], [n64 a], C150, (a, ()), snd150, .inl ⟨rfl, rfl⟩, trivial, rfl, rfl⟩
 ·have hv : v = genClo w g f := hv
  subst hv
  exact ⟨146, [.rptr [w], .rptr [n64 g], .rptr [.rptr f]], [n64 a], C146, (a, .rptr [w], .rptr [n64 g], .rptr [.rptr f], ()), snd146, .inl ⟨rfl, rfl⟩, ⟨w, g, f, rfl, rfl, rfl, h⟩, rfl, rfl⟩
 ·have hv : v = outClo f := hv
  subst hv
  exact ⟨140, [.rptr [.rptr f]], [n64 a], C140, (a, .rptr [.rptr f], ()), snd140, .inl ⟨rfl, rfl⟩, ⟨f, rfl, h⟩, rfl, rfl⟩
theorem okTl_clo {l : List Int} {v : D} (h : Pl.okTl l v) : ∃ f cs, v = .clo f cs := by
 obtain ⟨_, _, rfl | ⟨w, g, f, rfl, _⟩ | ⟨f, rfl, _⟩⟩ := h
 ·exact ⟨_, _, rfl⟩
 ·exact ⟨_, _, rfl⟩
 ·exact ⟨_, _, rfl⟩
theorem okTl_ok {l : List Int} {v : D} (h : Pl.okTl l v) : ∀ r ∈ l, Pl.tellsOK v r := by
 intro r hr
 obtain ⟨_, _, h | ⟨w, g, f, h, h2⟩ | ⟨f, h, h2⟩⟩ := h
 ·exact .inl h
 ·exact .inr (.inl ⟨w, g, f, h, h2 r hr⟩)
 ·exact .inr (.inr ⟨f, h, h2⟩)
theorem index_shift (p : Int → Bool) : ∀ (l : List Int) (i : Int), Pl.index p l i = -1 ∧ l.any p = false ∨ ∃ j : Nat, j < l.length ∧ Pl.index p l i = i + j ∧ p (l.getD j 0) = true ∧ (∀ k, k < j → p (l.getD k 0) = false) ∧ l.any p = true
 | [], i => .inl ⟨rfl, rfl⟩
 | x :: l, i => by
  rw [Pl.index, List.any_cons]
  cases hp : p x with
  | true => exact .inr ⟨0, by simp, by simp, by simpa using hp, fun k hk => by omega, by simp⟩
  | false =>
   rcases index_shift p l (i + 1) with ⟨h1, h2⟩ | ⟨j, h1, h2, h3, h4, h5⟩
   ·exact .inl ⟨h1, by rw [h2]; rfl⟩
   ·refine .inr ⟨j + 1, by simp; omega, by rw [cond_false, h2]; omega, by simpa using h3, fun k hk => ?_, by rw [h5]; rfl⟩
    cases k with
    | zero => simpa using hp
    | succ k => simpa using h4 k (by omega)
theorem vc164 : ∀ x, C164.pre x → VC T164 H164 Try.f164 C164 x := by
 rintro ⟨(l : List Int), v, ⟨⟩⟩ (h0 : Pl.okTl l v)
 obtain ⟨f, cs, rfl⟩ := okTl_clo h0
 have hok := okTl_ok h0
 have hl := h0.1
 show ∃ (n : Nat), itl (fun (G : Int × PUnit → Prop) (x : Int × PUnit) => Br (decide (x.fst < (↑l.length : Int))) ((0 : Int) ≤ x.fst ∧ x.fst < (↑l.length : Int) ∧ Pl.tellsOK (D.clo f cs) (rd i64 l x.fst) ∧ Br (Pl.tells (D.clo f cs) (rd i64 l x.fst)) (x = C164.post (l, D.clo f cs, ())) (G (IntKind.i64.wrap (x.fst + (1 : Int)), ()))) (((-1 : Int), ()) = C164.post (l, D.clo f cs, ()))) n ((0 : Int), ())
 have hpost : C164.post (l, D.clo f cs, ()) = (Pl.index (Pl.tells (.clo f cs)) l 0, ()) := rfl
 rw [hpost]
 rcases index_shift (Pl.tells (.clo f cs)) l 0 with ⟨h1, h2⟩ | ⟨j, h1, h2, h3, h4, _⟩
 ·rw [h1]
  refine itl_rule (fun s => ∃ i : Nat, s.1 = (i : Int) ∧ i ≤ l.length) (fun s => ((l.length : Int) - s.1).toNat) ⟨0, rfl, Nat.zero_le _⟩ ?_
  rintro ⟨i0, ⟨⟩⟩ G ⟨i, e, hi⟩ hG
  simp only at e hG ⊢
  subst e
  refine Br_of (fun h => ?_) (fun h => trivial)
  have h : (i : Int) < l.length := of_decide_eq_true h
  rw [rd_getD, Int.toNat_natCast]
  refine ⟨by omega, h, hok _ (getD_mem (by omega)), Br_of (fun h5 => ?_) (fun h5 => ?_)⟩
  ·have := List.any_eq_false.1 h2 _ (getD_mem (l := l) (i := i) (by omega))
   exact absurd h5 this
  ·rw [wrap_i64 (by omega) (by omega)]
   exact hG _ ⟨i + 1, rfl, by omega⟩ (by simp only; omega)
 ·rw [h2]
  refine itl_rule (fun s => ∃ i : Nat, s.1 = (i : Int) ∧ i ≤ j) (fun s => ((l.length : Int) - s.1).toNat) ⟨0, rfl, Nat.zero_le _⟩ ?_
  rintro ⟨i0, ⟨⟩⟩ G ⟨i, e, hi⟩ hG
  simp only at e hG ⊢
  subst e
  refine Br_of (fun h => ?_) (fun h => by have := of_decide_eq_false h; omega)
  have h : (i : Int) < l.length := of_decide_eq_true h
  rw [rd_getD, Int.toNat_natCast]
  refine ⟨by omega, h, hok _ (getD_mem (by omega)), Br_of (fun h5 => ?_) (fun h5 => ?_)⟩
  ·have : i = j := by
    rcases Nat.lt_or_ge i j with h' | h'
    ·rw [h4 i h'] at h5; cases h5
    ·omega
   subst this
   show ((i : Int), ()) = (0 + (i : Int), ())
   rw [Int.zero_add]
  ·have : i ≠ j := fun e => by subst e; rw [h3] at h5; cases h5
   rw [wrap_i64 (by omega) (by omega)]
   exact hG _ ⟨i + 1, rfl, by omega⟩ (by simp only; omega)
theorem nrc164 : NRC C164 := ⟨fun x hx => ⟨rfl, hx.2.1, trivial⟩, fun x hx => ⟨trivial, trivial⟩⟩
theorem nrc139 : NRC C139 := ⟨fun x hx => ⟨rfl, hx.2.1, trivial⟩, fun x hx => ⟨trivial, trivial⟩⟩
theorem snd164 : Sound Try.prog 164 C164 := fn_sound (T := T164) (fn := Try.f164) (tokg (T := T164) trivial trivial trivial noInv (fun C h => by injection h with h; subst h; exact sndVtell)) Try.func164 (by kernel_rfl) H164 vc164 (by kernel_rfl) (hC := nrc164)
theorem vc139 : ∀ x, C139.pre x → VC T139 H0 Try.f139 C139 x := by
 rintro ⟨(l : List Int), v, ⟨⟩⟩ (h0 : Pl.okTl l v)
 obtain ⟨f, cs, rfl⟩ := okTl_clo h0
 show Pl.okTl l (D.clo f cs) ∧
   (decide (Pl.index (Pl.tells (D.clo f cs)) l (0 : Int) ≥ (0 : Int)), ()) = C139.post (l, D.clo f cs, ())
 refine ⟨h0, ?_⟩
 show _ = (l.any (Pl.tells (.clo f cs)), ())
 congr 1
 rcases index_shift (Pl.tells (.clo f cs)) l 0 with ⟨h1, h2⟩ | ⟨j, h1, h2, h3, h4, h5⟩
 ·rw [h1, h2]; rfl
 ·rw [h2, h5]; exact decide_eq_true (by omega)
theorem snd139 : Sound Try.prog 139 C139 := fn_sound (T := T139) (fn := Try.f139) (tok0 ⟨snd164, trivial⟩) Try.func139 (by kernel_rfl) H0 vc139 (by kernel_rfl) (hC := nrc139)

theorem rising_len : ∀ (l : List Int) (a b : Int), l.Pairwise (· < ·) → (∀ x ∈ l, a ≤ x ∧ x < b) → a ≤ b → (l.length : Int) ≤ b - a
 | [], a, b, _, _, h => by simp; omega
 | x :: l, a, b, hs, hx, h => by
  have h1 := hx x (by simp)
  have hp := List.pairwise_cons.1 hs
  have := rising_len l (x + 1) b hp.2 (fun y hy => ⟨by have := hp.1 y hy; omega, (hx y (by simp [hy])).2⟩) (by omega)
  simp only [List.length_cons]
  omega
theorem primes_len {n : Int} (h1 : 1 ≤ n) (hn : n ≤ 65536) : ((Pl.primes n).length : Int) ≤ 65536 := by
 obtain ⟨ps, hs⟩ := primes_spec h1 (by omega)
 have := rising_len _ 0 (n + 1) hs (fun x hx => by
  obtain ⟨a, b⟩ := (ps x).1 hx
  have := Int.le_of_dvd (by omega) b
  have := a.1
  omega) (by omega)
 have h2 := rising_len (Pl.primes n) 2 (n + 2) hs (fun x hx => by
  obtain ⟨a, b⟩ := (ps x).1 hx
  have := Int.le_of_dvd (by omega) b
  have := a.1
  omega) (by omega)
 omega
theorem vc120 : ∀ x, C120.pre x → VC T120 H120 Try.f120 C120 x := by
 rintro ⟨f, v, ⟨⟩⟩ ⟨q, c0, cs, hq, (rfl : f = _), n1, n2, (hM : Pl.okM v), (hqa : Pl.qA v = q)⟩
 obtain ⟨_, t, d, rfl⟩ := okM_q hM
 show ((1 : Int) ≤ IntKind.i64.wrap (q - (1 : Int)) ∧ IntKind.i64.wrap (q - (1 : Int)) ≤ (2147483647 : Int)) ∧ ∃ (n : Nat), itl (fun (G : (Int × PUnit) × PUnit → Prop) (x : (Int × PUnit) × PUnit) => Pl.okTl (Pl.primes (IntKind.i64.wrap (q - (1 : Int)))) (D.clo (146 : Nat) [D.rptr [D.iface t d], D.rptr [D.int IntKind.i64 x.fst.fst], D.rptr [D.rptr (c0 :: D.int IntKind.i64 q :: cs)]]) ∧ Br (!(Pl.primes (IntKind.i64.wrap (q - (1 : Int)))).any (Pl.tells (D.clo (146 : Nat) [D.rptr [D.iface t d], D.rptr [D.int IntKind.i64 x.fst.fst], D.rptr [D.rptr (c0 :: D.int IntKind.i64 q :: cs)]]))) (x.fst = C120.post (D.rptr (c0 :: D.int IntKind.i64 q :: cs), D.iface t d, ())) (G ((IntKind.i64.wrap (x.fst.fst + (1 : Int)), ()), ()))) n (((1 : Int), ()), ())
 have q2 := hq.1
 have q6 := hq.2.1
 rw [wrap_i64 (x := q - 1) (by omega) (by omega)]
 refine ⟨⟨by omega, by omega⟩, ?_⟩
 obtain ⟨g1, g2, g3, g4, _⟩ := gen_spec hq
 obtain ⟨ps, _⟩ := primes_spec (n := q - 1) (by omega) (by omega)
 refine itl_rule (fun s => 1 ≤ s.1.1 ∧ s.1.1 ≤ Pl.gen q) (fun s => (Pl.gen q - s.1.1).toNat) ⟨by simp only; omega, by simp only; omega⟩ ?_
 rintro ⟨⟨g, ⟨⟩⟩, ⟨⟩⟩ G ⟨hg1, hg2⟩ hG
 simp only at hg1 hg2 hG ⊢
 have hlen : (Pl.primes (q - 1)).length ≤ 1000000000 := by
  have := primes_len (n := q - 1) (by omega) (by omega)
  omega
 have hany : (Pl.primes (q - 1)).any (Pl.tells (.clo 146 [.rptr [.iface t d], .rptr [.int .i64 g], .rptr [.rptr (c0 :: .int .i64 q :: cs)]])) = !Pl.genT q g := by
  unfold Pl.genT
  rw [List.not_all_eq_any_not]
  congr 1
  funext r
  show decide (Pl.pow (Pl.qA (.iface t d)) g ((q - 1) / r) = 1) = _
  rw [hqa, Bool.not_not]
  rfl
 rw [hany, Bool.not_not]
 refine ⟨⟨hlen, ⟨⟨okM_nr hM, trivial⟩, ⟨trivial, trivial⟩, ⟨⟨n1, trivial, n2⟩, trivial⟩, trivial⟩, .inr (.inl ⟨.iface t d, g, c0 :: .int .i64 q :: cs, rfl, fun r hr => ⟨q, c0, cs, rfl, n1, n2, hM, hqa, ⟨by omega, by omega⟩, ?_⟩⟩)⟩, Br_of (fun h => ?_) (fun h => ?_)⟩
 ·have := ((ps r).1 hr).1.1; omega
 ·show (g, ()) = (Pl.gen q, ())
  have : g = Pl.gen q := by
   rcases ilt g (Pl.gen q) with h' | h'
   ·rw [g4 g hg1 h'] at h; cases h
   ·omega
  rw [this]
 ·have hne : g ≠ Pl.gen q := fun e => by rw [e, g3] at h; cases h
  rw [wrap_i64 (by omega) (by omega)]
  exact hG _ ⟨by simp only; omega, by simp only; omega⟩ (by simp only; omega)
theorem nrc120 : NRC C120 := by
 refine ⟨?_, fun x hx => ⟨trivial, trivial⟩⟩
 rintro ⟨f, v, ⟨⟩⟩ ⟨q, c0, cs, hq, (rfl : f = _), n1, n2, (hM : Pl.okM v), _⟩
 exact ⟨⟨n1, trivial, n2⟩, okM_nr hM, trivial⟩
theorem snd120 : Sound Try.prog 120 C120 := fn_sound (T := T120) (fn := Try.f120) (tok0 ⟨snd117, snd139, trivial⟩) Try.func120 (by kernel_rfl) H120 vc120 (by kernel_rfl) (hC := nrc120)
theorem deg_ex {p : Int} (hp : 2 ≤ p) {n : Int} (h1 : 1 ≤ n) : ∃ e : Nat, p ^ e ≤ n ∧ n < p ^ (e + 1) := by
 have key : ∀ k : Nat, n < p ^ k → ∃ e : Nat, p ^ e ≤ n ∧ n < p ^ (e + 1) := by
  intro k
  induction k with
  | zero => intro h; simp at h; omega
  | succ k ih =>
   intro h
   rcases ilt n (p ^ k) with h' | h'
   ·exact ih h'
   ·exact ⟨k, h', h⟩
 refine key n.toNat ?_
 have h2 : n.toNat < 2 ^ n.toNat := Nat.lt_two_pow_self
 have h3 : (2 : Int) ^ n.toNat ≤ p ^ n.toNat := by
  obtain ⟨k, rfl⟩ : ∃ k : Nat, p = k := ⟨p.toNat, by omega⟩
  have : 2 ^ n.toNat ≤ k ^ n.toNat := Nat.pow_le_pow_left (by omega) _
  exact_mod_cast this
 have h4 : (n.toNat : Int) < (2 : Int) ^ n.toNat := by exact_mod_cast h2
 omega
theorem digs_top {p : Int} (hp : 2 ≤ p) {e : Nat} {n : Int} (he : e < 63) (h1 : p ^ e ≤ n) (h2 : n < p ^ (e + 1)) : (Fm.digs p 64 n).length = e + 1 ∧ (Fm.digs p 64 n).getD e 0 = n / p ^ e := by
 have hpos : 0 < p ^ e := Int.pow_pos (by omega)
 have hlt : n < p ^ 64 := Int.lt_of_lt_of_le h2 (pow_mono hp (by omega))
 refine ⟨Nat.le_antisymm (Fm.digs_len_le hp 64 (e + 1) n (by omega) h2) (Fm.digs_len_ge hp 64 e n (by omega) h1), ?_⟩
 rw [Fm.digs_getD hp 64 n (by omega) hlt]
 simp only [Fm.dg]
 refine Int.emod_eq_of_lt (Int.ediv_nonneg (by omega) (by omega)) (Int.ediv_lt_of_lt_mul hpos ?_)
 rw [Int.mul_comm, ← Int.pow_succ]; exact h2
theorem vc121 : ∀ x, C121.pre x → VC T121 H121 Try.f121 C121 x := by
 rintro ⟨(p : Int), (k : Int), (q : Int), ⟨⟩⟩ ⟨(hq : isQ q), (hP : p = Pl.lpf q), (hK : k = Pl.K q), (k1 : k ≠ 1)⟩
 show ∃ (n : Nat), itl (fun (G : Int × PUnit → Prop) (x : Int × PUnit) => Pl.okN x.fst p ∧ ∃ (n : Nat), itl (fun (G_1 : Int × PUnit → Prop) (x_1 : Int × PUnit) => (2 : Int) ≠ (0 : Int) ∧ (((2 : Int) ≤ p ∧ p ≤ (65536 : Int)) ∧ (0 : Int) ≤ IntKind.i64.wrap (IntKind.i64.wrap (k.tdiv (2 : Int)) + (1 : Int)) ∧ p ^ (IntKind.i64.wrap (IntKind.i64.wrap (k.tdiv (2 : Int)) + (1 : Int))).toNat ≤ (4611686018427387904 : Int)) ∧ Br (decide (x_1.fst < p ^ (IntKind.i64.wrap (IntKind.i64.wrap (k.tdiv (2 : Int)) + (1 : Int))).toNat)) (Pl.okN x_1.fst p ∧ (0 : Int) ≤ IntKind.i64.wrap ((↑(Pl.digs p x_1.fst).length : Int) - (1 : Int)) ∧ IntKind.i64.wrap ((↑(Pl.digs p x_1.fst).length : Int) - (1 : Int)) < (↑(Pl.digs p x_1.fst).length : Int) ∧ Br (rd i64 (Pl.digs p x_1.fst) (IntKind.i64.wrap ((↑(Pl.digs p x_1.fst).length : Int) - (1 : Int))) != (1 : Int)) (G_1 (IntKind.i64.wrap (x_1.fst + (1 : Int)), ())) ((((2 : Int) ≤ p ∧ p ≤ (65536 : Int)) ∧ (∀ (c : Int), c ∈ Pl.digs p x.fst → (0 : Int) ≤ c ∧ c < p) ∧ (Pl.digs p x.fst).length ≤ (1000 : Nat) ∧ Pl.monic p (Pl.digs p x_1.fst)) ∧ Pl.okTl (Pl.red p (Pl.digs p x_1.fst) (Pl.digs p x.fst)) (D.clo (150 : Nat) []) ∧ Br (!(Pl.red p (Pl.digs p x_1.fst) (Pl.digs p x.fst)).any (Pl.tells (D.clo (150 : Nat) []))) (G (IntKind.i64.wrap (x.fst + (1 : Int)), ())) (G_1 (IntKind.i64.wrap (x_1.fst + (1 : Int)), ())))) ((Pl.digs p x.fst, ()) = C121.post (p, k, q, ()))) n (p, ())) n (q, ())
 have q2 := hq.1
 have q6 := hq.2.1
 have hk1 := hq.2.2
 have hk17 := hq.K64
 have hp2 := hq.prime.1
 have hp6 := hq.p6
 obtain ⟨M1, M2, M3⟩ := Mod_spec hq
 obtain ⟨hirr, hless, _⟩ := M3 (by omega)
 have hpow := hq.pow
 rw [← hP] at hp2 hp6 hirr hless hpow
 rw [← hK] at hk1 hk17 hirr hless hpow
 obtain ⟨kN, rfl⟩ : ∃ kN : Nat, k = kN := ⟨k.toNat, by omega⟩
 simp only [Int.toNat_natCast] at hirr hless hpow hk17
 have ek : IntKind.wrap .i64 (IntKind.wrap .i64 ((kN : Int).tdiv 2) + 1) = ((kN / 2 + 1 : Nat) : Int) := by
  rw [tdiv_pos (by omega), wrap_i64 (x := (kN : Int) / 2) (by omega) (by omega), wrap_i64 (by omega) (by omega)]; omega
 have hph : p ^ (kN / 2 + 1) ≤ q := by rw [hpow]; exact pow_mono hp2 (by omega)
 have hph0 : p ^ 1 ≤ p ^ (kN / 2 + 1) := pow_mono hp2 (by omega)
 rw [Int.pow_succ, Int.pow_zero, Int.one_mul] at hph0
 rw [ek, Int.toNat_natCast]
 refine itl_rule (fun s => q ≤ s.1 ∧ s.1 ≤ Pl.Mod q) (fun s => (Pl.Mod q - s.1).toNat) ⟨by simp only; omega, by simp only; omega⟩ ?_
 rintro ⟨n, ⟨⟩⟩ G ⟨n1, n2⟩ hG
 simp only at n1 n2 hG ⊢
 have hnlt : n < p ^ (kN + 1) := by
  have : 2 * p ^ kN ≤ p * p ^ kN := Int.mul_le_mul_of_nonneg_right hp2 (by omega)
  rw [Int.pow_succ, Int.mul_comm]; omega
 obtain ⟨nl, _⟩ := digs_top hp2 (e := kN) (by omega) (by omega) hnlt
 have hnin : ∀ c ∈ Fm.digs p 64 n, 0 ≤ c ∧ c < p := Fm.digs_in hp2 64 n
 refine ⟨⟨by omega, by omega, hp2, hp6⟩, ?_⟩
 have ed : ∀ z, Pl.digs p z = Fm.digs p 64 z := fun _ => rfl
 rw [ed n]
 refine itl_rule (fun s => p ≤ s.1 ∧ s.1 ≤ p ^ (kN / 2 + 1) ∧ ∀ (e : Nat) x, 1 ≤ e → p ^ e ≤ x → x < 2 * p ^ e → x < s.1 → Fm.rst p x n ≠ 0) (fun s => (p ^ (kN / 2 + 1) - s.1).toNat) ⟨by simp only; omega, by simp only; omega, fun e x e1 x1 x2 x3 => ?_⟩ ?_
 ·simp only at x3
  have : p ^ 1 ≤ p ^ e := pow_mono hp2 e1
  rw [Int.pow_succ, Int.pow_zero, Int.one_mul] at this
  omega
 rintro ⟨d, ⟨⟩⟩ G1 ⟨hd1, hd2, hall⟩ hG1
 simp only at hd1 hd2 hall hG1 ⊢
 refine ⟨by omega, ⟨⟨hp2, hp6⟩, by omega, by omega⟩, Br_of (fun h => ?_) (fun h => ?_)⟩
 ·have h : d < p ^ (kN / 2 + 1) := of_decide_eq_true h
  obtain ⟨e, e1, e2⟩ := deg_ex hp2 (n := d) (by omega)
  have he1 : 1 ≤ e := by
   rcases Nat.eq_zero_or_pos e with h' | h'
   ·subst h'; rw [Nat.zero_add, Int.pow_succ, Int.pow_zero, Int.one_mul] at e2; omega
   ·exact h'
  have hek : e ≤ kN / 2 := by
   rcases Nat.lt_or_ge (kN / 2) e with h' | h'
   ·have : p ^ (kN / 2 + 1) ≤ p ^ e := pow_mono hp2 h'
    omega
   ·exact h'
  obtain ⟨dl, dt⟩ := digs_top hp2 (e := e) (by omega) e1 e2
  have hpos : 0 < p ^ e := Int.pow_pos (by omega)
  have ewl : IntKind.wrap .i64 ((Pl.digs p d).length - 1) = (e : Int) := by
   rw [ed, dl, wrap_i64 (by omega) (by omega)]; omega
  rw [ewl, ed d, rd_getD, Int.toNat_natCast, dl, dt, wrap_i64 (x := d + 1) (by omega) (by omega)]
  have next : (∀ x, x = d → p ^ e ≤ x → x < 2 * p ^ e → Fm.rst p x n ≠ 0) → G1 (d + 1, ()) := by
   intro hnew
   refine hG1 _ ⟨by simp only; omega, by simp only; omega, fun e' x e1' x1 x2 x3 => ?_⟩ (by simp only; omega)
   simp only at x3
   by_cases hx : x = d
   ·subst hx
    have hee : e' = e := by
     rcases Nat.lt_trichotomy e' e with h' | h' | h'
     ·have h8 : p ^ (e' + 1) ≤ p ^ e := pow_mono hp2 h'
      rw [Int.pow_succ] at h8
      have h9 : 2 * p ^ e' ≤ p ^ e' * p := by rw [Int.mul_comm]; exact Int.mul_le_mul_of_nonneg_left hp2 (by have : 0 < p ^ e' := Int.pow_pos (by omega); omega)
      omega
     ·exact h'
     ·have h8 : p ^ (e + 1) ≤ p ^ e' := pow_mono hp2 h'
      omega
    subst hee
    exact hnew x rfl x1 x2
   ·exact hall e' x e1' x1 x2 (by omega)
  refine ⟨⟨by omega, by omega, hp2, hp6⟩, by omega, by omega, Br_of (fun htop => ?_) (fun htop => ?_)⟩
  ·have htop : d / p ^ e ≠ 1 := by simpa using htop
   refine next fun x hx x1 x2 => ?_
   subst hx
   exfalso
   refine htop (Int.le_antisymm (Int.lt_add_one_iff.1 (Int.ediv_lt_of_lt_mul hpos (by omega))) ((Int.le_ediv_iff_mul_le hpos).2 (by omega)))
  ·have htop : d / p ^ e = 1 := by simpa using htop
   have hd2' : d < 2 * p ^ e := by
    have := Int.lt_ediv_add_one_mul_self d hpos
    rw [htop] at this
    omega
   have hmonic : Pl.monic p (Fm.digs p 64 d) := ⟨Fm.digs_in hp2 64 d, by omega, by omega, by rw [dl, Nat.add_sub_cancel, dt]; exact htop⟩
   have hred : Pl.red p (Fm.digs p 64 d) (Fm.digs p 64 n) = lstV e fun i => ev (Fm.digs p 64 d) e (Fm.digs p 64 n) e0 i % p := by
    unfold Pl.red
    rw [dl, nl, Nat.add_sub_cancel, Nat.min_eq_left (by omega)]
   have hrst : Fm.rst p d n = Fm.num p e (ev (Fm.digs p 64 d) e (Fm.digs p 64 n) e0) := by unfold Fm.rst; rw [dl, Nat.add_sub_cancel]
   have hany : (Pl.red p (Fm.digs p 64 d) (Fm.digs p 64 n)).any (Pl.tells (.clo 150 [])) = true ↔ Fm.rst p d n ≠ 0 := by
    rw [hrst, Ne, Fm.num_eq_zero (by omega), hred, List.any_eq_true]
    constructor
    ·rintro ⟨c, hc, h0⟩ hz
     obtain ⟨i, hi, rfl⟩ := List.getElem_of_mem hc
     rw [lstV_length] at hi
     have h5 : (lstV e fun i => ev (Fm.digs p 64 d) e (Fm.digs p 64 n) e0 i % p).getD i 0 = ev (Fm.digs p 64 d) e (Fm.digs p 64 n) e0 i % p := by rw [lstV_getD, if_pos hi]
     rw [List.getD_eq_getElem?_getD, List.getElem?_eq_getElem (by rw [lstV_length]; exact hi)] at h5
     simp only [Option.getD] at h5
     rw [h5, Int.emod_eq_zero_of_dvd (hz i hi)] at h0
     exact absurd h0 (by decide)
    ·intro hne
     apply Classical.byContradiction
     intro hno
     refine hne fun i hi => Int.dvd_of_emod_eq_zero ?_
     apply Classical.byContradiction
     intro hz
     have h5 : (lstV e fun i => ev (Fm.digs p 64 d) e (Fm.digs p 64 n) e0 i % p).getD i 0 = ev (Fm.digs p 64 d) e (Fm.digs p 64 n) e0 i % p := by rw [lstV_getD, if_pos hi]
     refine hno ⟨_, getD_mem (l := lstV e fun i => ev (Fm.digs p 64 d) e (Fm.digs p 64 n) e0 i % p) (i := i) (by rw [lstV_length]; exact hi), ?_⟩
     rw [h5]
     exact decide_eq_true hz
   refine ⟨⟨⟨hp2, hp6⟩, hnin, by omega, hmonic⟩, ⟨by rw [hred, lstV_length]; omega, trivial, .inl rfl⟩, Br_of (fun h6 => ?_) (fun h6 => ?_)⟩
   ·have hz : Fm.rst p d n = 0 := by
     apply Classical.byContradiction
     intro hne
     rw [hany.2 hne] at h6
     cases h6
    have hne : n ≠ Pl.Mod q := fun e' => by
     rw [← e'] at hirr
     exact hirr e he1 (by omega) d e1 hd2' hz
    rw [wrap_i64 (by omega) (by omega)]
    exact hG _ ⟨by simp only; omega, by simp only; omega⟩ (by simp only; omega)
   ·refine next fun x hx _ _ => ?_
    subst hx
    refine hany.1 ?_
    cases hb : (Pl.red p (Fm.digs p 64 x) (Fm.digs p 64 n)).any (Pl.tells (.clo 150 [])) with
    | true => rfl
    | false => rw [hb] at h6; cases h6
 ·have h : ¬ d < p ^ (kN / 2 + 1) := of_decide_eq_false h
  have hn : n = Pl.Mod q := by
   rcases ilt n (Pl.Mod q) with h' | h'
   ·refine absurd (fun e e1 e2 x x1 x2 => hall e x e1 x1 x2 ?_) (hless n n1 h')
    have h8 : p ^ (e + 1) ≤ p ^ (kN / 2 + 1) := pow_mono hp2 (by omega)
    rw [Int.pow_succ] at h8
    have h9 : 2 * p ^ e ≤ p ^ e * p := by rw [Int.mul_comm]; exact Int.mul_le_mul_of_nonneg_left hp2 (by have : 0 < p ^ e := Int.pow_pos (by omega); omega)
    omega
   ·omega
  show (Fm.digs p 64 n, ()) = (Pl.md q, ())
  unfold Pl.md
  rw [hn, hP]
theorem snd121 : Sound Try.prog 121 C121 := fn_sound (T := T121) (fn := Try.f121) (tok0 ⟨snd147, snd148, snd149, snd139, trivial⟩) Try.func121 (by kernel_rfl) H121 vc121 (by kernel_rfl)
end Fd
end
section
set_option linter.unusedVariables false
set_option linter.unusedSimpArgs false
set_option maxRecDepth 100000
namespace Fd
open Go Fw Go.Proofs
open Fm (V Eqv ev e0 Xp)

theorem vc151 : ∀ (h : Hp) (a p q g : Int) (md : List Int), Pl.okNx p md q a g → VCP T151 H0 Try.f151 pt151 [.d (.ref 1 1), .d (.ref 3 1), .d (.ref 5 1)] (upd (upd (upd h 1 (some (.abox 3 [some [.int .i64 a]]))) 3 (some (.abox 127 [some [.int .i64 p, .slc false i64 md, .int .i64 q]]))) 5 (some (.abox 3 [some [.int .i64 g]]))) (.d (.int .i64 a))
  (upd (upd (upd (upd h 1 (some (.abox 3 [some [.int .i64 a]]))) 3 (some (.abox 127 [some [.int .i64 p, .slc false i64 md, .int .i64 q]]))) 5 (some (.abox 3 [some [.int .i64 g]]))) 1 (some (.abox 3 [some [.int .i64 (Pl.mul q a g)]]))) := by
 rintro h a p q g md ⟨hq, hK, hp, hmd, ha, hg⟩
 refine cast (α := Pl.okS (D.agg [D.int IntKind.i64 p, D.slc false i64 md, D.int IntKind.i64 q]) a g ∧ a = a ∧ mset [some [D.int IntKind.i64 a]] (1 : Nat) [D.int IntKind.i64 (Pl.mul (Pl.qS (D.agg [D.int IntKind.i64 p, D.slc false i64 md, D.int IntKind.i64 q])) a g)] = [some [D.int IntKind.i64 (Pl.mul q a g)]] ∧ True) (by kernel_rfl) ?_
 subst hp hmd
 exact ⟨⟨q, hq, hK, rfl, ha, hg⟩, rfl, rfl, trivial⟩
theorem snd151 : SoundPT Try.prog 151 pt151 := pt_sound (T := T151) (fn := Try.f151) (tok0 (T := T151) ⟨snd152, trivial⟩) Try.func151 (by kernel_rfl) H0 (fun avs h p v h' hf hp => by
 obtain ⟨a, p0, md, q, g, rfl, h1, h3, h5, rfl, rfl, rfl⟩ := nextF_some hf
 have e : h = upd (upd (upd h 1 (some (.abox 3 [some [.int .i64 a]]))) 3 (some (.abox 127 [some [.int .i64 p0, .slc false i64 md, .int .i64 q]]))) 5 (some (.abox 3 [some [.int .i64 g]])) := by
  funext id
  rw [upd_eq, upd_eq, upd_eq]
  by_cases e5 : id = 5
  ·rw [if_pos e5, e5, h5]
  ·rw [if_neg e5]
   by_cases e3 : id = 3
   ·rw [if_pos e3, e3, h3]
   ·rw [if_neg e3]
    by_cases e1 : id = 1
    ·rw [if_pos e1, e1, h1]
    ·rw [if_neg e1]
 have hv := vc151 h a p0 q g md hp
 rw [← e] at hv
 exact hv) (by kernel_rfl)

structure Rows2 (ms : List (Option (List Int))) (je jl : Nat) (pw lg : List Int) : Prop where
 jl1 : jl = 1
 l0 : ms[0]? = some (some lg)
 je0 : (je = 0 ∧ pw = []) ∨ (2 ≤ je ∧ ms[je - 1]? = some (some pw))
theorem Rows2.mal_e {ms : List (Option (List Int))} {je jl : Nat} {pw lg : List Int} (h : Rows2 ms je jl pw lg) : mal ms je ∧ mrow ms je = pw := by
 rcases h.je0 with ⟨rfl, rfl⟩ | ⟨h1, h2⟩
 ·exact ⟨trivial, rfl⟩
 ·obtain ⟨j, rfl⟩ : ∃ j, je = j + 1 := ⟨je - 1, by omega⟩
  rw [Nat.add_sub_cancel] at h2
  refine ⟨⟨pw, h2⟩, ?_⟩
  show (ms.getD j none).getD [] = pw
  rw [List.getD_eq_getElem?_getD, h2]; rfl
theorem Rows2.mal_l {ms : List (Option (List Int))} {je jl : Nat} {pw lg : List Int} (h : Rows2 ms je jl pw lg) : mal ms jl ∧ mrow ms jl = lg := by
 obtain ⟨rfl, h2, _⟩ := h
 refine ⟨⟨lg, h2⟩, ?_⟩
 show (ms.getD 0 none).getD [] = lg
 rw [List.getD_eq_getElem?_getD, h2]; rfl
theorem Rows2.step {ms : List (Option (List Int))} {je jl : Nat} {pw lg : List Int} (h : Rows2 ms je jl pw lg) (r : List Int) : Rows2 (mnew (mkill ms je) r) (ms.length + 1) jl r lg := by
 have hlen : (mkill ms je).length = ms.length := by
  cases je with
  | zero => rfl
  | succ j => show (ms.set j none).length = _; rw [List.length_set]
 have hpos : 0 < ms.length := (List.getElem?_eq_some_iff.1 h.l0).1
 refine ⟨h.jl1, ?_, .inr ⟨by omega, ?_⟩⟩
 ·show (mkill ms je ++ [some r])[0]? = _
  rw [List.getElem?_append_left (by rw [hlen]; exact hpos)]
  rcases h.je0 with ⟨rfl, _⟩ | ⟨h1, _⟩
  ·exact h.l0
  ·obtain ⟨j, rfl⟩ : ∃ j, je = j + 1 := ⟨je - 1, by omega⟩
   show (ms.set j none)[0]? = _
   rw [List.getElem?_set, if_neg (by omega)]
   exact h.l0
 ·show (mkill ms je ++ [some r])[ms.length + 1 - 1]? = _
  rw [List.getElem?_append_right (by rw [hlen]; omega), hlen]
  simp
theorem Rows2.set {ms : List (Option (List Int))} {je jl : Nat} {pw lg : List Int} (h : Rows2 ms je jl pw lg) (r : List Int) : Rows2 (mset ms jl r) je jl pw r := by
 obtain ⟨rfl, h2, h3⟩ := h
 have hpos : 0 < ms.length := (List.getElem?_eq_some_iff.1 h2).1
 refine ⟨rfl, ?_, ?_⟩
 ·show (ms.set 0 (some r))[0]? = _
  rw [List.getElem?_set, if_pos rfl, if_pos hpos]
 ·rcases h3 with h3 | ⟨h4, h5⟩
  ·exact .inl h3
  ·refine .inr ⟨h4, ?_⟩
   show (ms.set 0 (some r))[je - 1]? = _
   rw [List.getElem?_set, if_neg (by omega)]
   exact h5
def pwAt (q : Int) (n : Nat) : List Int := (List.range n).map fun n => (fld q).pow (Pl.gen q) n
theorem vc122 : ∀ x, C122.pre x → VC T122 H122 Try.f122 C122 x := by
 rintro ⟨sd, (g : Int), ⟨⟩⟩ ⟨q, hq, hK, (rfl : sd = _), (hg : g = Pl.gen q)⟩
 refine cast (α := ((0 : Int) ≤ q ∧ q = q ∧ q * (8 : Int) ≤ (140737488355328 : Int) ∧ [D.int IntKind.i64 (1 : Int)] = [constD (Value.int IntKind.i64 (1 : Int))] ∧ [D.int IntKind.i64 (Pl.lpf q), D.slc false i64 (Pl.md q), D.int IntKind.i64 q] = [n64 (Pl.lpf q), D.slc false i64 (Pl.md q), n64 q] ∧ [D.int IntKind.i64 g] = [D.int IntKind.i64 g] ∧ [D.int IntKind.i64 (Pl.lpf q), D.slc false i64 (Pl.md q), D.int IntKind.i64 q, D.ref (0 : Nat) (0 : Nat), D.ref (0 : Nat) (([] : List Int).length + (1 : Nat))] = [D.int IntKind.i64 (Pl.lpf q), D.slc false i64 (Pl.md q), D.int IntKind.i64 q, D.ref (0 : Nat) (0 : Nat), D.ref (0 : Nat) (([] : List Int).length + (1 : Nat))] ∧ ∃ (n : Nat), itl (fun (G : Int × List (Option (List Int)) × (Int × PUnit) × (Int × List Int × Int × PUnit) × (Int × PUnit) × (Int × List Int × Int × Nat × Nat × PUnit) × PUnit → Prop) (x : Int × List (Option (List Int)) × (Int × PUnit) × (Int × List Int × Int × PUnit) × (Int × PUnit) × (Int × List Int × Int × Nat × Nat × PUnit) × PUnit) => Br (decide (x.1 < IntKind.i64.wrap (q - (1 : Int)))) (Pl.okNx x.2.2.2.1.1 x.2.2.2.1.2.1 x.2.2.2.1.2.2.1 x.2.2.1.1 x.2.2.2.2.1.1 ∧ mal x.2.1 x.2.2.2.2.2.1.2.2.2.1 ∧ ((↑(mrow x.2.1 x.2.2.2.2.2.1.2.2.2.1).length : Int) + (↑[x.2.2.1.1].length : Int)) * (8 : Int) ≤ (140737488355328 : Int) ∧ mal (mnew (mkill x.2.1 x.2.2.2.2.2.1.2.2.2.1) (mrow x.2.1 x.2.2.2.2.2.1.2.2.2.1 ++ [x.2.2.1.1])) x.2.2.2.2.2.1.2.2.2.2.1 ∧ (0 : Int) ≤ x.2.2.1.1 ∧ x.2.2.1.1 < (↑(mrow (mnew (mkill x.2.1 x.2.2.2.2.2.1.2.2.2.1) (mrow x.2.1 x.2.2.2.2.2.1.2.2.2.1 ++ [x.2.2.1.1])) x.2.2.2.2.2.1.2.2.2.2.1).length : Int) ∧ mal (mnew (mkill x.2.1 x.2.2.2.2.2.1.2.2.2.1) (mrow x.2.1 x.2.2.2.2.2.1.2.2.2.1 ++ [x.2.2.1.1])) x.2.2.2.2.2.1.2.2.2.2.1 ∧ (0 : Int) ≤ x.2.2.1.1 ∧ x.2.2.1.1 < (↑(mrow (mnew (mkill x.2.1 x.2.2.2.2.2.1.2.2.2.1) (mrow x.2.1 x.2.2.2.2.2.1.2.2.2.1 ++ [x.2.2.1.1])) x.2.2.2.2.2.1.2.2.2.2.1).length : Int) ∧ [D.int IntKind.i64 (Pl.mul x.2.2.2.1.2.2.1 x.2.2.1.1 x.2.2.2.2.1.1)] = [D.int IntKind.i64 (Pl.mul x.2.2.2.1.2.2.1 x.2.2.1.1 x.2.2.2.2.1.1)] ∧ [D.int IntKind.i64 x.2.2.2.1.1, D.slc false i64 x.2.2.2.1.2.1, D.int IntKind.i64 x.2.2.2.1.2.2.1] = [D.int IntKind.i64 x.2.2.2.1.1, D.slc false i64 x.2.2.2.1.2.1, D.int IntKind.i64 x.2.2.2.1.2.2.1] ∧ [D.int IntKind.i64 x.2.2.2.2.1.1] = [D.int IntKind.i64 x.2.2.2.2.1.1] ∧ [D.int IntKind.i64 x.2.2.2.2.2.1.1, D.slc false i64 x.2.2.2.2.2.1.2.1, D.int IntKind.i64 x.2.2.2.2.2.1.2.2.1, D.ref (0 : Nat) (List.length x.2.1 + (1 : Nat)), D.ref (0 : Nat) x.2.2.2.2.2.1.2.2.2.2.1] = [D.int IntKind.i64 x.2.2.2.2.2.1.1, D.slc false i64 x.2.2.2.2.2.1.2.1, D.int IntKind.i64 x.2.2.2.2.2.1.2.2.1, D.ref (0 : Nat) (List.length x.2.1 + (1 : Nat)), D.ref (0 : Nat) x.2.2.2.2.2.1.2.2.2.2.1] ∧ G (IntKind.i64.wrap (x.1 + (1 : Int)), Nat.casesOn x.2.2.2.2.2.1.2.2.2.2.1 (mnew (mkill x.2.1 x.2.2.2.2.2.1.2.2.2.1) (mrow x.2.1 x.2.2.2.2.2.1.2.2.2.1 ++ [x.2.2.1.1])) fun (n : Nat) => (mnew (mkill x.2.1 x.2.2.2.2.2.1.2.2.2.1) (mrow x.2.1 x.2.2.2.2.2.1.2.2.2.1 ++ [x.2.2.1.1])).set n (some ((mrow (mnew (mkill x.2.1 x.2.2.2.2.2.1.2.2.2.1) (mrow x.2.1 x.2.2.2.2.2.1.2.2.2.1 ++ [x.2.2.1.1])) x.2.2.2.2.2.1.2.2.2.2.1).set (Int.toNat x.2.2.1.1) x.1)), (Pl.mul x.2.2.2.1.2.2.1 x.2.2.1.1 x.2.2.2.2.1.1, ()), x.2.2.2.1, x.2.2.2.2.1, (x.2.2.2.2.2.1.1, x.2.2.2.2.2.1.2.1, x.2.2.2.2.2.1.2.2.1, List.length x.2.1 + (1 : Nat), x.2.2.2.2.2.1.2.2.2.2), ())) (mal x.2.1 x.2.2.2.2.2.1.2.2.2.1 ∧ mal x.2.1 x.2.2.2.2.2.1.2.2.2.2.1 ∧ (D.rptr [D.int IntKind.i64 x.2.2.2.2.2.1.1, D.slc false i64 x.2.2.2.2.2.1.2.1, D.int IntKind.i64 x.2.2.2.2.2.1.2.2.1, D.slc false i64 (mrow x.2.1 x.2.2.2.2.2.1.2.2.2.1), D.slc false i64 (mrow x.2.1 x.2.2.2.2.2.1.2.2.2.2.1)], ()) = C122.post (slowD q, g, ()))) n ((0 : Int), [some (List.replicate q.toNat (0 : Int))], ((1 : Int), ()), (Pl.lpf q, Pl.md q, q, ()), (g, ()), (Pl.lpf q, Pl.md q, q, (0 : Nat), ([] : List Int).length + (1 : Nat), ()), ())) ∧ ((0 : Int) ≤ q ∧ q = q ∧ q * (8 : Int) ≤ (140737488355328 : Int) ∧ [D.int IntKind.i64 (1 : Int)] = [constD (Value.int IntKind.i64 (1 : Int))] ∧ [D.int IntKind.i64 (Pl.lpf q), D.slc false i64 (Pl.md q), D.int IntKind.i64 q] = [n64 (Pl.lpf q), D.slc false i64 (Pl.md q), n64 q] ∧ [D.int IntKind.i64 g] = [D.int IntKind.i64 g] ∧ [D.int IntKind.i64 (Pl.lpf q), D.slc false i64 (Pl.md q), D.int IntKind.i64 q, D.ref (0 : Nat) (0 : Nat), D.ref (0 : Nat) (([] : List Int).length + (1 : Nat))] = [D.int IntKind.i64 (Pl.lpf q), D.slc false i64 (Pl.md q), D.int IntKind.i64 q, D.ref (0 : Nat) (0 : Nat), D.ref (0 : Nat) (([] : List Int).length + (1 : Nat))] ∧ ∃ (n : Nat), itl (fun (G : Int × List (Option (List Int)) × (Int × PUnit) × (Int × List Int × Int × PUnit) × (Int × PUnit) × (Int × List Int × Int × Nat × Nat × PUnit) × PUnit → Prop) (x : Int × List (Option (List Int)) × (Int × PUnit) × (Int × List Int × Int × PUnit) × (Int × PUnit) × (Int × List Int × Int × Nat × Nat × PUnit) × PUnit) => Br (decide (x.1 < IntKind.i64.wrap (q - (1 : Int)))) (Pl.okNx x.2.2.2.1.1 x.2.2.2.1.2.1 x.2.2.2.1.2.2.1 x.2.2.1.1 x.2.2.2.2.1.1 ∧ mal x.2.1 x.2.2.2.2.2.1.2.2.2.1 ∧ ((↑(mrow x.2.1 x.2.2.2.2.2.1.2.2.2.1).length : Int) + (↑[x.2.2.1.1].length : Int)) * (8 : Int) ≤ (140737488355328 : Int) ∧ mal (mnew (mkill x.2.1 x.2.2.2.2.2.1.2.2.2.1) (mrow x.2.1 x.2.2.2.2.2.1.2.2.2.1 ++ [x.2.2.1.1])) x.2.2.2.2.2.1.2.2.2.2.1 ∧ (0 : Int) ≤ x.2.2.1.1 ∧ x.2.2.1.1 < (↑(mrow (mnew (mkill x.2.1 x.2.2.2.2.2.1.2.2.2.1) (mrow x.2.1 x.2.2.2.2.2.1.2.2.2.1 ++ [x.2.2.1.1])) x.2.2.2.2.2.1.2.2.2.2.1).length : Int) ∧ mal (mnew (mkill x.2.1 x.2.2.2.2.2.1.2.2.2.1) (mrow x.2.1 x.2.2.2.2.2.1.2.2.2.1 ++ [x.2.2.1.1])) x.2.2.2.2.2.1.2.2.2.2.1 ∧ (0 : Int) ≤ x.2.2.1.1 ∧ x.2.2.1.1 < (↑(mrow (mnew (mkill x.2.1 x.2.2.2.2.2.1.2.2.2.1) (mrow x.2.1 x.2.2.2.2.2.1.2.2.2.1 ++ [x.2.2.1.1])) x.2.2.2.2.2.1.2.2.2.2.1).length : Int) ∧ [D.int IntKind.i64 (Pl.mul x.2.2.2.1.2.2.1 x.2.2.1.1 x.2.2.2.2.1.1)] = [D.int IntKind.i64 (Pl.mul x.2.2.2.1.2.2.1 x.2.2.1.1 x.2.2.2.2.1.1)] ∧ [D.int IntKind.i64 x.2.2.2.1.1, D.slc false i64 x.2.2.2.1.2.1, D.int IntKind.i64 x.2.2.2.1.2.2.1] = [D.int IntKind.i64 x.2.2.2.1.1, D.slc false i64 x.2.2.2.1.2.1, D.int IntKind.i64 x.2.2.2.1.2.2.1] ∧ [D.int IntKind.i64 x.2.2.2.2.1.1] = [D.int IntKind.i64 x.2.2.2.2.1.1] ∧ [D.int IntKind.i64 x.2.2.2.2.2.1.1, D.slc false i64 x.2.2.2.2.2.1.2.1, D.int IntKind.i64 x.2.2.2.2.2.1.2.2.1, D.ref (0 : Nat) (List.length x.2.1 + (1 : Nat)), D.ref (0 : Nat) x.2.2.2.2.2.1.2.2.2.2.1] = [D.int IntKind.i64 x.2.2.2.2.2.1.1, D.slc false i64 x.2.2.2.2.2.1.2.1, D.int IntKind.i64 x.2.2.2.2.2.1.2.2.1, D.ref (0 : Nat) (List.length x.2.1 + (1 : Nat)), D.ref (0 : Nat) x.2.2.2.2.2.1.2.2.2.2.1] ∧ G (IntKind.i64.wrap (x.1 + (1 : Int)), Nat.casesOn x.2.2.2.2.2.1.2.2.2.2.1 (mnew (mkill x.2.1 x.2.2.2.2.2.1.2.2.2.1) (mrow x.2.1 x.2.2.2.2.2.1.2.2.2.1 ++ [x.2.2.1.1])) fun (n : Nat) => (mnew (mkill x.2.1 x.2.2.2.2.2.1.2.2.2.1) (mrow x.2.1 x.2.2.2.2.2.1.2.2.2.1 ++ [x.2.2.1.1])).set n (some ((mrow (mnew (mkill x.2.1 x.2.2.2.2.2.1.2.2.2.1) (mrow x.2.1 x.2.2.2.2.2.1.2.2.2.1 ++ [x.2.2.1.1])) x.2.2.2.2.2.1.2.2.2.2.1).set (Int.toNat x.2.2.1.1) x.1)), (Pl.mul x.2.2.2.1.2.2.1 x.2.2.1.1 x.2.2.2.2.1.1, ()), x.2.2.2.1, x.2.2.2.2.1, (x.2.2.2.2.2.1.1, x.2.2.2.2.2.1.2.1, x.2.2.2.2.2.1.2.2.1, List.length x.2.1 + (1 : Nat), x.2.2.2.2.2.1.2.2.2.2), ())) (mal x.2.1 x.2.2.2.2.2.1.2.2.2.1 ∧ mal x.2.1 x.2.2.2.2.2.1.2.2.2.2.1 ∧ (D.rptr [D.int IntKind.i64 x.2.2.2.2.2.1.1, D.slc false i64 x.2.2.2.2.2.1.2.1, D.int IntKind.i64 x.2.2.2.2.2.1.2.2.1, D.slc false i64 (mrow x.2.1 x.2.2.2.2.2.1.2.2.2.1), D.slc false i64 (mrow x.2.1 x.2.2.2.2.2.1.2.2.2.2.1)], ()) = C122.post (slowD q, g, ()))) n ((0 : Int), [some (List.replicate q.toNat (0 : Int))], ((1 : Int), ()), (Pl.lpf q, Pl.md q, q, ()), (g, ()), (Pl.lpf q, Pl.md q, q, (0 : Nat), ([] : List Int).length + (1 : Nat), ()), ())) ∧ ((0 : Int) ≤ q ∧ q = q ∧ q * (8 : Int) ≤ (140737488355328 : Int) ∧ [D.int IntKind.i64 (1 : Int)] = [constD (Value.int IntKind.i64 (1 : Int))] ∧ [D.int IntKind.i64 (Pl.lpf q), D.slc false i64 (Pl.md q), D.int IntKind.i64 q] = [n64 (Pl.lpf q), D.slc false i64 (Pl.md q), n64 q] ∧ [D.int IntKind.i64 g] = [D.int IntKind.i64 g] ∧ [D.int IntKind.i64 (Pl.lpf q), D.slc false i64 (Pl.md q), D.int IntKind.i64 q, D.ref (0 : Nat) (0 : Nat), D.ref (0 : Nat) (([] : List Int).length + (1 : Nat))] = [D.int IntKind.i64 (Pl.lpf q), D.slc false i64 (Pl.md q), D.int IntKind.i64 q, D.ref (0 : Nat) (0 : Nat), D.ref (0 : Nat) (([] : List Int).length + (1 : Nat))] ∧ ∃ (n : Nat), itl (fun (G : Int × List (Option (List Int)) × (Int × PUnit) × (Int × List Int × Int × PUnit) × (Int × PUnit) × (Int × List Int × Int × Nat × Nat × PUnit) × PUnit → Prop) (x : Int × List (Option (List Int)) × (Int × PUnit) × (Int × List Int × Int × PUnit) × (Int × PUnit) × (Int × List Int × Int × Nat × Nat × PUnit) × PUnit) => Br (decide (x.1 < IntKind.i64.wrap (q - (1 : Int)))) (Pl.okNx x.2.2.2.1.1 x.2.2.2.1.2.1 x.2.2.2.1.2.2.1 x.2.2.1.1 x.2.2.2.2.1.1 ∧ mal x.2.1 x.2.2.2.2.2.1.2.2.2.1 ∧ ((↑(mrow x.2.1 x.2.2.2.2.2.1.2.2.2.1).length : Int) + (↑[x.2.2.1.1].length : Int)) * (8 : Int) ≤ (140737488355328 : Int) ∧ mal (mnew (mkill x.2.1 x.2.2.2.2.2.1.2.2.2.1) (mrow x.2.1 x.2.2.2.2.2.1.2.2.2.1 ++ [x.2.2.1.1])) x.2.2.2.2.2.1.2.2.2.2.1 ∧ (0 : Int) ≤ x.2.2.1.1 ∧ x.2.2.1.1 < (↑(mrow (mnew (mkill x.2.1 x.2.2.2.2.2.1.2.2.2.1) (mrow x.2.1 x.2.2.2.2.2.1.2.2.2.1 ++ [x.2.2.1.1])) x.2.2.2.2.2.1.2.2.2.2.1).length : Int) ∧ mal (mnew (mkill x.2.1 x.2.2.2.2.2.1.2.2.2.1) (mrow x.2.1 x.2.2.2.2.2.1.2.2.2.1 ++ [x.2.2.1.1])) x.2.2.2.2.2.1.2.2.2.2.1 ∧ (0 : Int) ≤ x.2.2.1.1 ∧ x.2.2.1.1 < (↑(mrow (mnew (mkill x.2.1 x.2.2.2.2.2.1.2.2.2.1) (mrow x.2.1 x.2.2.2.2.2.1.2.2.2.1 ++ [x.2.2.1.1])) x.2.2.2.2.2.1.2.2.2.2.1).length : Int) ∧ [D.int IntKind.i64 (Pl.mul x.2.2.2.1.2.2.1 x.2.2.1.1 x.2.2.2.2.1.1)] = [D.int IntKind.i64 (Pl.mul x.2.2.2.1.2.2.1 x.2.2.1.1 x.2.2.2.2.1.1)] ∧ [D.int IntKind.i64 x.2.2.2.1.1, D.slc false i64 x.2.2.2.1.2.1, D.int IntKind.i64 x.2.2.2.1.2.2.1] = [D.int IntKind.i64 x.2.2.2.1.1, D.slc false i64 x.2.2.2.1.2.1, D.int IntKind.i64 x.2.2.2.1.2.2.1] ∧ [D.int IntKind.i64 x.2.2.2.2.1.1] = [D.int IntKind.i64 x.2.2.2.2.1.1] ∧ [D.int IntKind.i64 x.2.2.2.2.2.1.1, D.slc false i64 x.2.2.2.2.2.1.2.1, D.int IntKind.i64 x.2.2.2.2.2.1.2.2.1, D.ref (0 : Nat) (List.length x.2.1 + (1 : Nat)), D.ref (0 : Nat) x.2.2.2.2.2.1.2.2.2.2.1] = [D.int IntKind.i64 x.2.2.2.2.2.1.1, D.slc false i64 x.2.2.2.2.2.1.2.1, D.int IntKind.i64 x.2.2.2.2.2.1.2.2.1, D.ref (0 : Nat) (List.length x.2.1 + (1 : Nat)), D.ref (0 : Nat) x.2.2.2.2.2.1.2.2.2.2.1] ∧ G (IntKind.i64.wrap (x.1 + (1 : Int)), Nat.casesOn x.2.2.2.2.2.1.2.2.2.2.1 (mnew (mkill x.2.1 x.2.2.2.2.2.1.2.2.2.1) (mrow x.2.1 x.2.2.2.2.2.1.2.2.2.1 ++ [x.2.2.1.1])) fun (n : Nat) => (mnew (mkill x.2.1 x.2.2.2.2.2.1.2.2.2.1) (mrow x.2.1 x.2.2.2.2.2.1.2.2.2.1 ++ [x.2.2.1.1])).set n (some ((mrow (mnew (mkill x.2.1 x.2.2.2.2.2.1.2.2.2.1) (mrow x.2.1 x.2.2.2.2.2.1.2.2.2.1 ++ [x.2.2.1.1])) x.2.2.2.2.2.1.2.2.2.2.1).set (Int.toNat x.2.2.1.1) x.1)), (Pl.mul x.2.2.2.1.2.2.1 x.2.2.1.1 x.2.2.2.2.1.1, ()), x.2.2.2.1, x.2.2.2.2.1, (x.2.2.2.2.2.1.1, x.2.2.2.2.2.1.2.1, x.2.2.2.2.2.1.2.2.1, List.length x.2.1 + (1 : Nat), x.2.2.2.2.2.1.2.2.2.2), ())) (mal x.2.1 x.2.2.2.2.2.1.2.2.2.1 ∧ mal x.2.1 x.2.2.2.2.2.1.2.2.2.2.1 ∧ (D.rptr [D.int IntKind.i64 x.2.2.2.2.2.1.1, D.slc false i64 x.2.2.2.2.2.1.2.1, D.int IntKind.i64 x.2.2.2.2.2.1.2.2.1, D.slc false i64 (mrow x.2.1 x.2.2.2.2.2.1.2.2.2.1), D.slc false i64 (mrow x.2.1 x.2.2.2.2.2.1.2.2.2.2.1)], ()) = C122.post (slowD q, g, ()))) n ((0 : Int), [some (List.replicate q.toNat (0 : Int))], ((1 : Int), ()), (Pl.lpf q, Pl.md q, q, ()), (g, ()), (Pl.lpf q, Pl.md q, q, (0 : Nat), ([] : List Int).length + (1 : Nat), ()), ())) ∧ (0 : Int) ≤ q ∧ q = q ∧ q * (8 : Int) ≤ (140737488355328 : Int) ∧ [D.int IntKind.i64 (1 : Int)] = [constD (Value.int IntKind.i64 (1 : Int))] ∧ [D.int IntKind.i64 (Pl.lpf q), D.slc false i64 (Pl.md q), D.int IntKind.i64 q] = [n64 (Pl.lpf q), D.slc false i64 (Pl.md q), n64 q] ∧ [D.int IntKind.i64 g] = [D.int IntKind.i64 g] ∧ [D.int IntKind.i64 (Pl.lpf q), D.slc false i64 (Pl.md q), D.int IntKind.i64 q, D.ref (0 : Nat) (0 : Nat), D.ref (0 : Nat) (([] : List Int).length + (1 : Nat))] = [D.int IntKind.i64 (Pl.lpf q), D.slc false i64 (Pl.md q), D.int IntKind.i64 q, D.ref (0 : Nat) (0 : Nat), D.ref (0 : Nat) (([] : List Int).length + (1 : Nat))] ∧ ∃ (n : Nat), itl (fun (G : Int × List (Option (List Int)) × (Int × PUnit) × (Int × List Int × Int × PUnit) × (Int × PUnit) × (Int × List Int × Int × Nat × Nat × PUnit) × PUnit → Prop) (x : Int × List (Option (List Int)) × (Int × PUnit) × (Int × List Int × Int × PUnit) × (Int × PUnit) × (Int × List Int × Int × Nat × Nat × PUnit) × PUnit) => Br (decide (x.1 < IntKind.i64.wrap (q - (1 : Int)))) (Pl.okNx x.2.2.2.1.1 x.2.2.2.1.2.1 x.2.2.2.1.2.2.1 x.2.2.1.1 x.2.2.2.2.1.1 ∧ mal x.2.1 x.2.2.2.2.2.1.2.2.2.1 ∧ ((↑(mrow x.2.1 x.2.2.2.2.2.1.2.2.2.1).length : Int) + (↑[x.2.2.1.1].length : Int)) * (8 : Int) ≤ (140737488355328 : Int) ∧ mal (mnew (mkill x.2.1 x.2.2.2.2.2.1.2.2.2.1) (mrow x.2.1 x.2.2.2.2.2.1.2.2.2.1 ++ [x.2.2.1.1])) x.2.2.2.2.2.1.2.2.2.2.1 ∧ (0 : Int) ≤ x.2.2.1.1 ∧ x.2.2.1.1 < (↑(mrow (mnew (mkill x.2.1 x.2.2.2.2.2.1.2.2.2.1) (mrow x.2.1 x.2.2.2.2.2.1.2.2.2.1 ++ [x.2.2.1.1])) x.2.2.2.2.2.1.2.2.2.2.1).length : Int) ∧ mal (mnew (mkill x.2.1 x.2.2.2.2.2.1.2.2.2.1) (mrow x.2.1 x.2.2.2.2.2.1.2.2.2.1 ++ [x.2.2.1.1])) x.2.2.2.2.2.1.2.2.2.2.1 ∧ (0 : Int) ≤ x.2.2.1.1 ∧ x.2.2.1.1 < (↑(mrow (mnew (mkill x.2.1 x.2.2.2.2.2.1.2.2.2.1) (mrow x.2.1 x.2.2.2.2.2.1.2.2.2.1 ++ [x.2.2.1.1])) x.2.2.2.2.2.1.2.2.2.2.1).length : Int) ∧ [D.int IntKind.i64 (Pl.mul x.2.2.2.1.2.2.1 x.2.2.1.1 x.2.2.2.2.1.1)] = [D.int IntKind.i64 (Pl.mul x.2.2.2.1.2.2.1 x.2.2.1.1 x.2.2.2.2.1.1)] ∧ [D.int IntKind.i64 x.2.2.2.1.1, D.slc false i64 x.2.2.2.1.2.1, D.int IntKind.i64 x.2.2.2.1.2.2.1] = [D.int IntKind.i64 x.2.2.2.1.1, D.slc false i64 x.2.2.2.1.2.1, D.int IntKind.i64 x.2.2.2.1.2.2.1] ∧ [D.int IntKind.i64 x.2.2.2.2.1.1] = [D.int IntKind.i64 x.2.2.2.2.1.1] ∧ [D.int IntKind.i64 x.2.2.2.2.2.1.1, D.slc false i64 x.2.2.2.2.2.1.2.1, D.int IntKind.i64 x.2.2.2.2.2.1.2.2.1, D.ref (0 : Nat) (List.length x.2.1 + (1 : Nat)), D.ref (0 : Nat) x.2.2.2.2.2.1.2.2.2.2.1] = [D.int IntKind.i64 x.2.2.2.2.2.1.1, D.slc false i64 x.2.2.2.2.2.1.2.1, D.int IntKind.i64 x.2.2.2.2.2.1.2.2.1, D.ref (0 : Nat) (List.length x.2.1 + (1 : Nat)), D.ref (0 : Nat) x.2.2.2.2.2.1.2.2.2.2.1] ∧ G (IntKind.i64.wrap (x.1 + (1 : Int)), Nat.casesOn x.2.2.2.2.2.1.2.2.2.2.1 (mnew (mkill x.2.1 x.2.2.2.2.2.1.2.2.2.1) (mrow x.2.1 x.2.2.2.2.2.1.2.2.2.1 ++ [x.2.2.1.1])) fun (n : Nat) => (mnew (mkill x.2.1 x.2.2.2.2.2.1.2.2.2.1) (mrow x.2.1 x.2.2.2.2.2.1.2.2.2.1 ++ [x.2.2.1.1])).set n (some ((mrow (mnew (mkill x.2.1 x.2.2.2.2.2.1.2.2.2.1) (mrow x.2.1 x.2.2.2.2.2.1.2.2.2.1 ++ [x.2.2.1.1])) x.2.2.2.2.2.1.2.2.2.2.1).set (Int.toNat x.2.2.1.1) x.1)), (Pl.mul x.2.2.2.1.2.2.1 x.2.2.1.1 x.2.2.2.2.1.1, ()), x.2.2.2.1, x.2.2.2.2.1, (x.2.2.2.2.2.1.1, x.2.2.2.2.2.1.2.1, x.2.2.2.2.2.1.2.2.1, List.length x.2.1 + (1 : Nat), x.2.2.2.2.2.1.2.2.2.2), ())) (mal x.2.1 x.2.2.2.2.2.1.2.2.2.1 ∧ mal x.2.1 x.2.2.2.2.2.1.2.2.2.2.1 ∧ (D.rptr [D.int IntKind.i64 x.2.2.2.2.2.1.1, D.slc false i64 x.2.2.2.2.2.1.2.1, D.int IntKind.i64 x.2.2.2.2.2.1.2.2.1, D.slc false i64 (mrow x.2.1 x.2.2.2.2.2.1.2.2.2.1), D.slc false i64 (mrow x.2.1 x.2.2.2.2.2.1.2.2.2.2.1)], ()) = C122.post (slowD q, g, ()))) n ((0 : Int), [some (List.replicate q.toNat (0 : Int))], ((1 : Int), ()), (Pl.lpf q, Pl.md q, q, ()), (g, ()), (Pl.lpf q, Pl.md q, q, (0 : Nat), ([] : List Int).length + (1 : Nat), ()), ())) (by kernel_rfl) ?_
 have q2 := hq.1
 have q6 := hq.2.1
 rw [wrap_i64 (x := q - 1) (by omega) (by omega)]
 have hloop : True := trivial
 refine ⟨⟨by omega, rfl, by omega, rfl, rfl, rfl, rfl, ?_⟩, ⟨by omega, rfl, by omega, rfl, rfl, rfl, rfl, ?_⟩, ⟨by omega, rfl, by omega, rfl, rfl, rfl, rfl, ?_⟩, ⟨by omega, rfl, by omega, rfl, rfl, rfl, rfl, ?_⟩⟩
 all_goals
  refine itl_rule (fun s => ∃ (i : Nat) (ms : List (Option (List Int))) (je jl : Nat), s = ((i : Int), ms, ((fld q).pow (Pl.gen q) i, ()), (Pl.lpf q, Pl.md q, q, ()), (g, ()), (Pl.lpf q, Pl.md q, q, je, jl, ()), ()) ∧ i ≤ q.toNat - 1 ∧ Rows2 ms je jl (pwAt q i) (Pl.lgAt q i)) (fun s => (q - s.1).toNat)
   ⟨0, [some (List.replicate q.toNat 0)], 0, 1, rfl, Nat.zero_le _, rfl, rfl, .inl ⟨rfl, rfl⟩⟩ ?_
  rintro x G ⟨i, ms, je, jl, rfl, hi, hR⟩ hG
  obtain rfl : jl = 1 := hR.jl1
  obtain ⟨m1, m2⟩ := hR.mal_e
  obtain ⟨l1, l2⟩ := hR.mal_l
  have hgi := gen_in hq i
  have hgn : Pl.inQ q g := by rw [hg]; exact gen_inQ hq
  simp only
  rw [m2, l2]
  refine Br_of (fun h => ?_) (fun h => ?_)
  ·have h : (i : Int) < q - 1 := of_decide_eq_true h
   have hR2 := hR.step (pwAt q i ++ [(fld q).pow (Pl.gen q) i])
   obtain ⟨n1, n2⟩ := hR2.mal_l
   have hll := (lgAt_spec hq i (by omega)).1
   rw [n2]
   refine ⟨⟨hq, hK, rfl, rfl, hgi, hgn⟩, m1, ?_, n1, hgi.1, ?_, n1, hgi.1, ?_, trivial, trivial, trivial, trivial, hG _ ⟨i + 1, mset (mnew (mkill ms je) (pwAt q i ++ [(fld q).pow (Pl.gen q) i])) 1 ((Pl.lgAt q i).set ((fld q).pow (Pl.gen q) i).toNat i), ms.length + 1, 1, ?_, by omega, ?_⟩ (by simp only; rw [wrap_i64 (x := (i : Int) + 1) (by omega) (by omega)]; omega)⟩
   ·simp only [List.length_singleton]
    have : (pwAt q i).length = i := by simp [pwAt]
    omega
   ·rw [hll]; omega
   ·rw [hll]; omega
   ·rw [wrap_i64 (by omega) (by omega)]
    subst hg
    rfl
   ·have e1 : pwAt q i ++ [(fld q).pow (Pl.gen q) i] = pwAt q (i + 1) := by simp [pwAt, List.range_succ]
    rw [e1] at hR2 ⊢
    exact hR2.set _
  ·have h : ¬ (i : Int) < q - 1 := of_decide_eq_false h
   have : i = q.toNat - 1 := by omega
   subst this
   exact ⟨m1, l1, rfl⟩
theorem nrc122 : NRC C122 := by
 refine ⟨?_, fun x hx => ⟨nr_tabs _, trivial⟩⟩
 rintro ⟨s, g, ⟨⟩⟩ ⟨q, hq, hK, (rfl : s = _), _⟩
 exact ⟨nr_slow q, trivial, trivial⟩
theorem snd122 : Sound Try.prog 122 C122 := fn_sound (T := T122) (fn := Try.f122) (tokg (T := T122) trivial ⟨snd151, trivial⟩ trivial noInv noCv) Try.func122 (by kernel_rfl) H122 vc122 (by kernel_rfl) (hC := nrc122)

end Fd
end
section
set_option linter.unusedVariables false
set_option linter.unusedSimpArgs false
set_option maxRecDepth 100000
namespace Fd
open Go Fw Go.Proofs

theorem digs_self {q : Int} (h : 2 ≤ q) : Fm.digs q 64 q = [0, 1] := by
 show Fm.digs q (61 + 1 + 1 + 1) q = _
 rw [Fm.digs, decide_eq_true (show q > 0 by omega), cond_true, Int.emod_self, Int.ediv_self (by omega), Fm.digs, decide_eq_true (show (1 : Int) > 0 by omega), cond_true, Int.emod_eq_of_lt (by omega) (by omega), Int.ediv_eq_zero_of_lt (by omega) (by omega), Fm.digs, decide_eq_false (show ¬ (0 : Int) > 0 by omega), cond_false]
theorem md_one {q : Int} (hq : isQ q) (hK : Pl.K q = 1) : Pl.md q = [0, 1] := by
 have hl := lpf_K1 hq hK
 have hM : Pl.Mod q = q := by
  unfold Pl.Mod
  rw [hK, decide_eq_true rfl, cond_true, hl]
 unfold Pl.md
 rw [hM, hl]
 exact digs_self hq.1
theorem fieldD_1 {q : Int} (hq : isQ q) (hK : Pl.K q = 1) : fieldD q = .rptr [.iface 123 (.agg [n64 (Pl.lpf q)]), n64 q, n64 (Pl.lpf q), n64 (Pl.K q), .slc true i64 [0, 1], n64 (Pl.gen q)] := by
 unfold fieldD fieldC arD Pl.tyA Pl.datA Pl.k1
 rw [decide_eq_true hK, md_one hq hK, cond_true, cond_true]
theorem fieldD_2 {q : Int} (hK : Pl.K q ≠ 1) : fieldD q = .rptr [.iface 128 (.rptr (tabsC q)), n64 q, n64 (Pl.lpf q), n64 (Pl.K q), .slc false i64 (Pl.md q), n64 (Pl.gen q)] := by
 unfold fieldD fieldC arD Pl.tyA Pl.datA Pl.k1
 rw [decide_eq_false hK, cond_false, cond_false]
theorem qF_eq (c : D) (q : Int) (cs : List D) : Pl.qF (.rptr (c :: .int .i64 q :: cs)) = q := rfl
theorem qS_eq (a b : D) (q : Int) : Pl.qS (.agg [a, b, .int .i64 q]) = q := rfl
theorem rd_one (x : Int) : rd i64 [x] 0 = x := rfl
theorem newF_no {q : Int} (h : ¬ isQ q) : (nilP, (20 : Int), ()) = C78.post (q, ()) := by
 have : Pl.okQ q = false := by
  cases hb : Pl.okQ q with
  | false => rfl
  | true => exact absurd (okQ_iff.1 hb) h
 show _ = (newF q, bif Pl.okQ q then 0 else 20, ())
 unfold newF
 rw [this]
 rfl
theorem newF_yes {q : Int} (h : isQ q) : C78.post (q, ()) = (fieldD q, (0 : Int), ()) := by
 have := okQ_iff.2 h
 show (newF q, bif Pl.okQ q then 0 else 20, ()) = _
 unfold newF
 rw [this]
 rfl
theorem vc78 : ∀ x, C78.pre x → VC T78 H78 Try.f78 C78 x := by
 rintro ⟨(q : Int), ⟨⟩⟩ -
 refine cast (α := Br (decide (q < (2 : Int))) ((constD (Value.pointer none), (20 : Int), ()) = C78.post (q, ())) (Br (decide (q > (65536 : Int))) ((constD (Value.pointer none), (20 : Int), ()) = C78.post (q, ())) (((1 : Int) ≤ q ∧ q ≤ (2147483647 : Int)) ∧ Br (decide ((↑(Pl.primes q).length : Int) > (1 : Int))) ((constD (Value.pointer none), (20 : Int), ()) = C78.post (q, ())) ((0 : Int) ≤ (0 : Int) ∧ (0 : Int) < (↑(Pl.primes q).length : Int) ∧ ∃ (n : Nat), itl (fun (G : (D × Int × Int × Int × D × Int × PUnit) × Int × PUnit → Prop) (x : (D × Int × Int × Int × D × Int × PUnit) × Int × PUnit) => Br (decide (x.2.1 > (1 : Int))) (x.1.2.2.1 ≠ (0 : Int) ∧ G ((Ar.raw.enc x.1.1, x.1.2.1, x.1.2.2.1, IntKind.i64.wrap (x.1.2.2.2.1 + (1 : Int)), Ar.raw.enc x.1.2.2.2.2.1, x.1.2.2.2.2.2), IntKind.i64.wrap (Int.tdiv x.2.1 x.1.2.2.1), ())) (Br (x.1.2.2.2.1 == (1 : Int)) (Pl.okFi (D.rptr [D.iface (123 : Nat) (D.agg [D.int IntKind.i64 x.1.2.2.1]), D.int IntKind.i64 x.1.2.1, D.int IntKind.i64 x.1.2.2.1, D.int IntKind.i64 x.1.2.2.2.1, D.slc true (tyE T78 (3 : Nat)) [(0 : Int), (1 : Int)], D.int IntKind.i64 x.1.2.2.2.2.2.1]) (D.iface (123 : Nat) (D.agg [D.int IntKind.i64 x.1.2.2.1])) ∧ (D.rptr [D.iface (123 : Nat) (D.agg [D.int IntKind.i64 x.1.2.2.1]), D.int IntKind.i64 x.1.2.1, D.int IntKind.i64 x.1.2.2.1, D.int IntKind.i64 x.1.2.2.2.1, D.slc true (tyE T78 (3 : Nat)) [(0 : Int), (1 : Int)], D.int IntKind.i64 (Pl.gen (Pl.qF (D.rptr [D.iface (123 : Nat) (D.agg [D.int IntKind.i64 x.1.2.2.1]), D.int IntKind.i64 x.1.2.1, D.int IntKind.i64 x.1.2.2.1, D.int IntKind.i64 x.1.2.2.2.1, D.slc true (tyE T78 (3 : Nat)) [(0 : Int), (1 : Int)], D.int IntKind.i64 x.1.2.2.2.2.2.1])))], (0 : Int), ()) = C78.post (q, ())) (Pl.okLe x.1.2.2.1 x.1.2.2.2.1 q ∧ Pl.okFi (D.rptr [Ar.raw.enc x.1.1, D.int IntKind.i64 x.1.2.1, D.int IntKind.i64 x.1.2.2.1, D.int IntKind.i64 x.1.2.2.2.1, D.slc false i64 (Pl.md q), D.int IntKind.i64 x.1.2.2.2.2.2.1]) (D.iface (127 : Nat) (D.agg [D.int IntKind.i64 x.1.2.2.1, D.slc false i64 (Pl.md q), D.int IntKind.i64 q])) ∧ Pl.okNT (D.agg [D.int IntKind.i64 x.1.2.2.1, D.slc false i64 (Pl.md q), D.int IntKind.i64 q]) (Pl.gen (Pl.qF (D.rptr [Ar.raw.enc x.1.1, D.int IntKind.i64 x.1.2.1, D.int IntKind.i64 x.1.2.2.1, D.int IntKind.i64 x.1.2.2.2.1, D.slc false i64 (Pl.md q), D.int IntKind.i64 x.1.2.2.2.2.2.1]))) ∧ (D.rptr [D.iface (128 : Nat) (D.rptr (tabsC (Pl.qS (D.agg [D.int IntKind.i64 x.1.2.2.1, D.slc false i64 (Pl.md q), D.int IntKind.i64 q])))), D.int IntKind.i64 x.1.2.1, D.int IntKind.i64 x.1.2.2.1, D.int IntKind.i64 x.1.2.2.2.1, D.slc false i64 (Pl.md q), D.int IntKind.i64 (Pl.gen (Pl.qF (D.rptr [Ar.raw.enc x.1.1, D.int IntKind.i64 x.1.2.1, D.int IntKind.i64 x.1.2.2.1, D.int IntKind.i64 x.1.2.2.2.1, D.slc false i64 (Pl.md q), D.int IntKind.i64 x.1.2.2.2.2.2.1])))], (0 : Int), ()) = C78.post (q, ())))) n ((D.val Value.nilIface, q, rd i64 (Pl.primes q) (0 : Int), (0 : Int), D.val (Value.slice none (0 : Nat) (0 : Nat)), (0 : Int), ()), q, ()))))) (by kernel_rfl) ?_
 refine Br_of (fun h => newF_no fun hq => ?_) (fun h => Br_of (fun h6 => newF_no fun hq => ?_) (fun h6 => ?_))
 ·have := hq.1; have := of_decide_eq_true h; omega
 ·have := hq.2.1; have := of_decide_eq_true h6; omega
 have h : ¬ q < 2 := of_decide_eq_false h
 have h6 : ¬ q > 65536 := of_decide_eq_false h6
 have hP := primes_spec (n := q) (by omega) (by omega)
 obtain ⟨l1, l2, l3, l4⟩ := lpf_spec (q := q) (by omega) (by omega)
 have hin : Pl.lpf q ∈ Pl.primes q := (hP.1 _).2 ⟨l4, l3⟩
 refine ⟨⟨by omega, by omega⟩, Br_of (fun h1 => newF_no fun hq => ?_) (fun h1 => ?_)⟩
 ·have h1 := of_decide_eq_true h1
  have hall : ∀ r ∈ Pl.primes q, r = Pl.lpf q := fun r hr => by
   obtain ⟨r1, r2⟩ := (hP.1 r).1 hr
   rw [hq.pow] at r2
   exact l4.eq_of_dvd r1.1 (r1.dvd_pow r2)
  cases hp : Pl.primes q with
  | nil => rw [hp] at h1; simp at h1
  | cons a l =>
   cases l with
   | nil => rw [hp] at h1; simp at h1
   | cons b l =>
    have e1 := hall a (by rw [hp]; simp)
    have e2 := hall b (by rw [hp]; simp)
    have := hP.2
    rw [hp] at this
    have := (List.pairwise_cons.1 this).1 b (by simp)
    omega
 have h1 : ¬ ((Pl.primes q).length : Int) > 1 := of_decide_eq_false h1
 have hone : Pl.primes q = [Pl.lpf q] := by
  cases hp : Pl.primes q with
  | nil => rw [hp] at hin; simp at hin
  | cons a l =>
   cases l with
   | nil => rw [hp] at hin; simp at hin; rw [hin]
   | cons b l => rw [hp] at h1; simp at h1; omega
 rw [hone]
 refine ⟨by omega, by simp, ?_⟩
 rw [rd_one]
 refine itl_rule (fun s => ∃ (k : Nat) (n : Int), s = ((D.val Value.nilIface, q, Pl.lpf q, (k : Int), D.val (Value.slice none 0 0), (0 : Int), ()), n, ()) ∧ 1 ≤ n ∧ n * Pl.lpf q ^ k = q) (fun s => s.2.1.toNat)
  ⟨0, q, rfl, by omega, by simp⟩ ?_
 rintro x G ⟨k, n, rfl, hn, hk⟩ hG
 simp only
 have hpk : 0 < Pl.lpf q ^ k := Int.pow_pos (by omega)
 have hk64 : k < 64 := by
  apply Classical.byContradiction
  intro hge
  have h2 : Pl.lpf q ^ 64 ≤ Pl.lpf q ^ k := pow_mono l1 (by omega)
  have h3 := pow64 (p := Pl.lpf q) (n := q) l1 (by omega)
  have h4 := Int.mul_le_mul_of_nonneg_right hn (Int.le_of_lt hpk)
  rw [Int.one_mul] at h4
  omega
 refine Br_of (fun h2 => ?_) (fun h2 => ?_)
 ·have h2 : n > 1 := of_decide_eq_true h2
  have hnq : n ≤ q := by
   have := Int.mul_le_mul_of_nonneg_left (show 1 ≤ Pl.lpf q ^ k by omega) (show 0 ≤ n by omega)
   omega
  have hd : Pl.lpf q ∣ n := by
   obtain ⟨m1, m2, m3, m4⟩ := lpf_spec (q := n) (by omega) (by omega)
   have : Pl.lpf n ∈ Pl.primes q := (hP.1 _).2 ⟨m4, Int.dvd_trans m3 ⟨_, hk.symm⟩⟩
   rw [hone] at this
   have e : Pl.lpf n = Pl.lpf q := by simpa using this
   rw [← e]; exact m3
  obtain ⟨m, rfl⟩ := hd
  have hm1 : 1 ≤ m := by
   apply Classical.byContradiction
   intro hlt
   have := Int.mul_nonpos_of_nonneg_of_nonpos (show 0 ≤ Pl.lpf q by omega) (show m ≤ 0 by omega)
   omega
  have hdiv : Int.tdiv (Pl.lpf q * m) (Pl.lpf q) = m := Int.mul_tdiv_cancel_left _ (by omega)
  have hmle : 2 * m ≤ Pl.lpf q * m := Int.mul_le_mul_of_nonneg_right l1 (by omega)
  refine ⟨by omega, ?_⟩
  rw [hdiv, wrap_i64 (by omega) (by omega), wrap_i64 (by omega) (by omega)]
  refine hG _ ⟨k + 1, m, rfl, hm1, ?_⟩ ?_
  ·rw [← hk, Int.pow_succ]; grind
  ·simp only; omega
 ·have h2 : ¬ n > 1 := of_decide_eq_false h2
  obtain rfl : n = 1 := by omega
  rw [Int.one_mul] at hk
  have hk1 : 1 ≤ k := by
   cases k with
   | zero => simp at hk; omega
   | succ k => omega
  have hpn : ((Pl.lpf q).toNat : Int) = Pl.lpf q := by omega
  obtain ⟨hq, -, hKq⟩ := isQ_of (p := (Pl.lpf q).toNat) (k := k) l4.nat hk1 (by
   have : (((Pl.lpf q).toNat ^ k : Nat) : Int) = q := by rw [Int.natCast_pow, hpn]; exact hk
   omega)
  have e : (((Pl.lpf q).toNat ^ k : Nat) : Int) = q := by rw [Int.natCast_pow, hpn]; exact hk
  rw [e] at hq hKq
  rw [newF_yes hq, ← hKq]
  refine Br_of (fun h3 => ?_) (fun h3 => ?_)
  ·have h3 : Pl.K q = 1 := by simpa using h3
   have hl := lpf_K1 hq h3
   rw [qF_eq, fieldD_1 hq h3]
   exact ⟨⟨q, _, _, hq, rfl, ⟨trivial, trivial⟩, ⟨trivial, trivial, rfl, trivial, trivial⟩, ⟨q, hq, .inr (.inl ⟨h3, by rw [hl]; rfl⟩)⟩, by rw [hl]; rfl⟩, rfl⟩
  ·have h3 : Pl.K q ≠ 1 := by simpa using h3
   rw [qF_eq, qS_eq, fieldD_2 h3]
   exact ⟨⟨hq, rfl, rfl, h3⟩, ⟨q, _, _, hq, rfl, trivial, ⟨trivial, trivial, rfl, trivial, trivial⟩, ⟨q, hq, .inr (.inr (.inl ⟨h3, rfl⟩))⟩, rfl⟩, ⟨q, hq, h3, rfl, rfl⟩, rfl⟩
theorem newF_nr (q : Int) : (newF q).nr := by
 unfold newF
 cases h : Pl.okQ q with
 | false => exact trivial
 | true => exact nr_field (okQ_iff.1 h)
theorem nrc78 : NRC C78 := ⟨fun x hx => ⟨trivial, trivial⟩, fun x hx => ⟨newF_nr _, trivial, trivial⟩⟩
theorem snd78 : Sound Try.prog 78 C78 := fn_sound (T := T78) (fn := Try.f78) (tokg (T := T78) ⟨snd117, snd120, snd121, snd122, trivial⟩ trivial trivial noInv noCv) Try.func78 (by kernel_rfl) H78 vc78 (by kernel_rfl) (hC := nrc78)
end Fd
end
section
set_option linter.unusedVariables false
set_option linter.unusedSimpArgs false
set_option maxRecDepth 100000
namespace Fd
open Go Fw Go.Proofs

abbrev XS := List (Option (List Int))
abbrev OS := List (Option (List Nat))
def Pl.swp (l : List Nat) (i k : Int) : List Nat := (l.set i.toNat (l.getD k.toNat 0)).set k.toNat (l.getD i.toNat 0)
def Pl.ri (os : OS) (r : Nat) (i : Int) : Nat := (mrow os r).getD i.toNat 0
def Pl.preS (os : OS) (r : Nat) (i k : Int) : Prop := mal os r ∧ (0 ≤ i ∧ i < (mrow os r).length) ∧ 0 ≤ k ∧ k < (mrow os r).length
def Pl.swO (os : OS) (r : Nat) (i k : Int) : OS := mset os r (Pl.swp (mrow os r) i k)
def swapF : List AV → MS → Option (Prop × List D × MS)
 | [.bptr 1 1 0, .d (.int .i64 i), .d (.int .i64 k)], s => some (Pl.preS s.os s.r1 i k, [], { s with os := Pl.swO s.os s.r1 i k })
 | [.bptr 1 1 2, .d (.int .i64 i), .d (.int .i64 k)], s => some (Pl.preS s.os s.r2 i k, [], { s with os := Pl.swO s.os s.r2 i k })
 | _, _ => none
def Pl.inAll (q : Int) (l : List Int) : Prop := (∀ x ∈ l, Pl.inQ q x) ∧ l.length ≤ 1000000000
def Pl.scl (q c : Int) (l : List Int) : List Int := l.map (Pl.mul q c)
def Pl.preL (v : D) (xs : XS) (os : OS) (r : Nat) (i c : Int) : Prop :=
 (mal os r ∧ 0 ≤ i ∧ i < (mrow os r).length) ∧ mal xs (Pl.ri os r i) ∧ Pl.okA v ∧ Pl.inQ (Pl.qA v) c ∧ Pl.inAll (Pl.qA v) (mrow xs (Pl.ri os r i))
def Pl.scX (q : Int) (xs : XS) (os : OS) (r : Nat) (i c : Int) : XS := mset xs (Pl.ri os r i) (Pl.scl q c (mrow xs (Pl.ri os r i)))
def scaleF : List AV → MS → Option (Prop × List D × MS)
 | [.bptr 1 1 0, .d (.int .i64 i), .d (.int .i64 c)], s => some (Pl.preL (.iface s.t1 s.d1) s.xs s.os s.r1 i c, [], { s with xs := Pl.scX (Pl.qA (.iface s.t1 s.d1)) s.xs s.os s.r1 i c })
 | [.bptr 1 1 2, .d (.int .i64 i), .d (.int .i64 c)], s => some (Pl.preL (.iface s.t2 s.d2) s.xs s.os s.r2 i c, [], { s with xs := Pl.scX (Pl.qA (.iface s.t2 s.d2)) s.xs s.os s.r2 i c })
 | _, _ => none
def Pl.tkl (q c : Int) (x y : List Int) : List Int := List.zipWith (fun a b => Pl.sub q a (Pl.mul q c b)) x y
def Pl.preT (v : D) (xs : XS) (os : OS) (r : Nat) (i k c : Int) : Prop :=
 (mal os r ∧ (0 ≤ i ∧ i < (mrow os r).length) ∧ 0 ≤ k ∧ k < (mrow os r).length) ∧ (mal xs (Pl.ri os r i) ∧ mal xs (Pl.ri os r k) ∧ 0 < Pl.ri os r i ∧ Pl.ri os r i ≠ Pl.ri os r k) ∧ Pl.okA v ∧ Pl.inQ (Pl.qA v) c ∧
  Pl.inAll (Pl.qA v) (mrow xs (Pl.ri os r i)) ∧ Pl.inAll (Pl.qA v) (mrow xs (Pl.ri os r k)) ∧ (mrow xs (Pl.ri os r k)).length = (mrow xs (Pl.ri os r i)).length
def Pl.tkX (q : Int) (xs : XS) (os : OS) (r : Nat) (i k c : Int) : XS := mset xs (Pl.ri os r i) (Pl.tkl q c (mrow xs (Pl.ri os r i)) (mrow xs (Pl.ri os r k)))
def takeF : List AV → MS → Option (Prop × List D × MS)
 | [.bptr 1 1 0, .d (.int .i64 i), .d (.int .i64 k), .d (.int .i64 c)], s => some (Pl.preT (.iface s.t1 s.d1) s.xs s.os s.r1 i k c, [], { s with xs := Pl.tkX (Pl.qA (.iface s.t1 s.d1)) s.xs s.os s.r1 i k c })
 | [.bptr 1 1 2, .d (.int .i64 i), .d (.int .i64 k), .d (.int .i64 c)], s => some (Pl.preT (.iface s.t2 s.d2) s.xs s.os s.r2 i k c, [], { s with xs := Pl.tkX (Pl.qA (.iface s.t2 s.d2)) s.xs s.os s.r2 i k c })
 | _, _ => none
def pt161 : PT := pt2 12000000 swapF
def pt162 : PT := pt0 12000000 scaleF
def pt163 : PT := pt0 12000000 takeF
def T161 : Ctx := ⟨tt, [], [], none, [], 12000000, [2], [], 0, [], [], [], []⟩
def T162 : Ctx := ⟨tt, [], VV, none, [], 12000000, [0], [], 0, [], [], [], []⟩
def H162 : Hints := lo [(0, ⟨[0, 1, 2, 14, 15], [(16, si), (0, s0)]⟩)]
def H163 : Hints := lo [(0, ⟨[0, 1, 3, 16, 17], [(18, si), (0, s0)]⟩)]

def swap2F : List AV → MS → Option (Prop × List D × MS)
 | [.d r, .d (.int .i64 i), .d (.int .i64 k)], s => (match r with
  | .ref 1 1 => some (Pl.preS s.os s.r1 i k ∧ Pl.preS (Pl.swO s.os s.r1 i k) s.r2 i k, [], { s with os := Pl.swO (Pl.swO s.os s.r1 i k) s.r2 i k })
  | _ => none)
 | _, _ => none
def scale2F : List AV → MS → Option (Prop × List D × MS)
 | [.d r, .d (.int .i64 i), .d (.int .i64 c)], s => (match r with
  | .ref 1 1 => some (Pl.preL (.iface s.t1 s.d1) s.xs s.os s.r1 i c ∧ Pl.preL (.iface s.t2 s.d2) (Pl.scX (Pl.qA (.iface s.t1 s.d1)) s.xs s.os s.r1 i c) s.os s.r2 i c, [],
   { s with xs := Pl.scX (Pl.qA (.iface s.t2 s.d2)) (Pl.scX (Pl.qA (.iface s.t1 s.d1)) s.xs s.os s.r1 i c) s.os s.r2 i c })
  | _ => none)
 | _, _ => none
def take2F : List AV → MS → Option (Prop × List D × MS)
 | [.d r, .d (.int .i64 i), .d (.int .i64 k), .d (.int .i64 c)], s => (match r with
  | .ref 1 1 => some (Pl.preT (.iface s.t1 s.d1) s.xs s.os s.r1 i k c ∧ Pl.preT (.iface s.t2 s.d2) (Pl.tkX (Pl.qA (.iface s.t1 s.d1)) s.xs s.os s.r1 i k c) s.os s.r2 i k c, [],
   { s with xs := Pl.tkX (Pl.qA (.iface s.t2 s.d2)) (Pl.tkX (Pl.qA (.iface s.t1 s.d1)) s.xs s.os s.r1 i k c) s.os s.r2 i k c })
  | _ => none)
 | _, _ => none
def pt136 : PT := pt2 8000000 swap2F
def pt137 : PT := pt0 8000000 scale2F
def pt138 : PT := pt0 8000000 take2F
def Tp (base : Nat) (pts : List (Nat × PT)) (mods : List Nat) : Ctx := ⟨tt, [], VV, none, pts, base, mods, [], 0, [], [], [], []⟩
def T136 : Ctx := Tp 8000000 [(161, pt161)] [2]
def T137 : Ctx := Tp 8000000 [(162, pt162)] [0]
def T138 : Ctx := Tp 8000000 [(163, pt163)] [0]
def Hp1 (l : List Nat) : Hints := ⟨[], [], [], l, []⟩

end Fd
end
section
set_option linter.unusedVariables false
set_option linter.unusedSimpArgs false
set_option maxRecDepth 100000
namespace Fd
open Go Fw Go.Proofs

theorem mset_at {α : Type} {ms : List (Option (List α))} {j : Nat} {xs : List α} (hm : mal ms j) (h0 : 0 < j) : mal (mset ms j xs) j ∧ mrow (mset ms j xs) j = xs := by
 cases j with
 | zero => omega
 | succ j =>
  obtain ⟨ys, hy⟩ := hm
  have hl : j < ms.length := (List.getElem?_eq_some_iff.1 hy).1
  refine ⟨⟨xs, ?_⟩, ?_⟩
  ·show (ms.set j (some xs))[j]? = _
   rw [List.getElem?_set, if_pos rfl, if_pos hl]
  ·show ((ms.set j (some xs)).getD j none).getD [] = xs
   rw [List.getD_eq_getElem?_getD, List.getElem?_set, if_pos rfl, if_pos hl]; rfl
theorem mset_twice {α : Type} (ms : List (Option (List α))) (j : Nat) (xs ys : List α) : mset (mset ms j xs) j ys = mset ms j ys := by
 cases j with
 | zero => rfl
 | succ j => show (ms.set j (some xs)).set j (some ys) = ms.set j (some ys); rw [List.set_set]
theorem mrow_pos {α : Type} {ms : List (Option (List α))} {j : Nat} {i : Int} (h0 : 0 ≤ i) (h : i < ((mrow ms j).length : Int)) : 0 < j := by
 cases j with
 | zero => have : (mrow ms 0).length = 0 := rfl; omega
 | succ j => omega

def Pl.upto (f : Int → Int) (j : Nat) (l : List Int) : List Int := (l.take j).map f ++ l.drop j
theorem upto_len (f : Int → Int) (j : Nat) (l : List Int) : (Pl.upto f j l).length = l.length := by
 unfold Pl.upto; rw [List.length_append, List.length_map, List.length_take, List.length_drop]; omega
theorem upto_get (f : Int → Int) {j : Nat} {l : List Int} (h : j < l.length) : (Pl.upto f j l).getD j 0 = l.getD j 0 := by
 unfold Pl.upto
 rw [List.getD_eq_getElem?_getD, List.getElem?_append_right (by simp; omega), List.getElem?_drop, List.getD_eq_getElem?_getD]
 congr 2
 simp
 omega
theorem upto_set (f : Int → Int) {j : Nat} {l : List Int} (h : j < l.length) : (Pl.upto f j l).set j (f (l.getD j 0)) = Pl.upto f (j + 1) l := by
 refine List.ext_getElem? fun i => ?_
 rw [List.getElem?_set, upto_len]
 unfold Pl.upto
 rw [List.getElem?_append, List.getElem?_append]
 simp only [List.length_map, List.length_take, List.getElem?_map, List.getElem?_take, List.getElem?_drop]
 have e1 : min j l.length = j := by omega
 have e2 : min (j + 1) l.length = j + 1 := by omega
 rw [e1, e2]
 by_cases e : j = i
 ·subst e
  rw [if_pos rfl, if_pos h, if_pos (by omega), if_pos (by omega), List.getElem?_eq_getElem h, List.getD_eq_getElem?_getD, List.getElem?_eq_getElem h]
  rfl
 ·rw [if_neg e]
  by_cases e3 : i < j
  ·have e4 : i < j + 1 := by omega
   simp only [if_pos e3, if_pos e4]
  ·rw [if_neg e3, if_neg (by omega)]
   congr 1
   omega
theorem upto_0 (f : Int → Int) (l : List Int) : Pl.upto f 0 l = l := by unfold Pl.upto; simp
theorem upto_all (f : Int → Int) (l : List Int) : Pl.upto f l.length l = l.map f := by unfold Pl.upto; simp
theorem mset_self {α : Type} {ms : List (Option (List α))} {j : Nat} (h : mal ms j) : mset ms j (mrow ms j) = ms := by
 cases j with
 | zero => rfl
 | succ j =>
  obtain ⟨ys, hy⟩ := h
  show ms.set j (some ((ms.getD j none).getD [])) = ms
  rw [List.getD_eq_getElem?_getD, hy]
  refine List.ext_getElem? fun i => ?_
  rw [List.getElem?_set]
  split
  ·rename_i e; subst e; rw [if_pos (List.getElem?_eq_some_iff.1 hy).1, hy]; rfl
  ·rfl

theorem okA_M {v : D} (h : Pl.okA v) : Pl.okM v := by
 obtain ⟨q, hq, rfl⟩ := h
 exact ⟨q, hq, .inl rfl⟩
theorem vc161a : ∀ (xs : XS) (os : OS) (t1 : Nat) (d1 : D) (l1 : List D) (r1 t2 : Nat) (d2 : D) (l2 : List D) (r2 : Nat) (h : Hp) (i k : Int), Pl.preS os r1 i k →
  VCP T161 H0 Try.f161 pt161 [.bptr 1 1 0, .d (.int .i64 i), .d (.int .i64 k)] ((MS.mk xs os t1 d1 l1 r1 t2 d2 l2 r2).put h) (.tup []) (put2 ((MS.mk xs os t1 d1 l1 r1 t2 d2 l2 r2).put h) (MS.mk xs (Pl.swO os r1 i k) t1 d1 l1 r1 t2 d2 l2 r2)) := by
 rintro xs os t1 d1 l1 r1 t2 d2 l2 r2 h i k ⟨hm, ⟨i0, i1⟩, k0, k1⟩
 refine cast (α := mal os r1 ∧ (0 : Int) ≤ k ∧ k < (↑(mrow os r1).length : Int) ∧ mal os r1 ∧ (0 : Int) ≤ k ∧ k < (↑(mrow os r1).length : Int) ∧ mal os r1 ∧ (0 : Int) ≤ i ∧ i < (↑(mrow os r1).length : Int) ∧ mal os r1 ∧ (0 : Int) ≤ i ∧ i < (↑(mrow os r1).length : Int) ∧ mal os r1 ∧ (0 : Int) ≤ i ∧ i < (↑(mrow os r1).length : Int) ∧ mal os r1 ∧ (0 : Int) ≤ i ∧ i < (↑(mrow os r1).length : Int) ∧ mal (mset os r1 ((mrow os r1).set i.toNat (rd (Ty.ref (0 : Nat)) (mrow os r1) k))) r1 ∧ (0 : Int) ≤ k ∧ k < (↑(mrow (mset os r1 ((mrow os r1).set i.toNat (rd (Ty.ref (0 : Nat)) (mrow os r1) k))) r1).length : Int) ∧ mal (mset os r1 ((mrow os r1).set i.toNat (rd (Ty.ref (0 : Nat)) (mrow os r1) k))) r1 ∧ (0 : Int) ≤ k ∧ k < (↑(mrow (mset os r1 ((mrow os r1).set i.toNat (rd (Ty.ref (0 : Nat)) (mrow os r1) k))) r1).length : Int) ∧ True ∧ mset (mset os r1 ((mrow os r1).set i.toNat (rd (Ty.ref (0 : Nat)) (mrow os r1) k))) r1 ((mrow (mset os r1 ((mrow os r1).set i.toNat (rd (Ty.ref (0 : Nat)) (mrow os r1) k))) r1).set k.toNat (rd (Ty.ref (0 : Nat)) (mrow os r1) i)) = Pl.swO os r1 i k ∧ True) (by kernel_rfl) ?_
 have hp := mrow_pos i0 i1
 have hs := fun ys => mset_at (xs := ys) hm hp
 refine ⟨hm, k0, k1, hm, k0, k1, hm, i0, i1, hm, i0, i1, hm, i0, i1, hm, i0, i1, (hs _).1, k0, ?_, (hs _).1, k0, ?_, trivial, ?_, trivial⟩
 ·rw [(hs _).2, List.length_set]; exact k1
 ·rw [(hs _).2, List.length_set]; exact k1
 ·rw [mset_twice, (hs _).2]; rfl
theorem vc161b : ∀ (xs : XS) (os : OS) (t1 : Nat) (d1 : D) (l1 : List D) (r1 t2 : Nat) (d2 : D) (l2 : List D) (r2 : Nat) (h : Hp) (i k : Int), Pl.preS os r2 i k →
  VCP T161 H0 Try.f161 pt161 [.bptr 1 1 2, .d (.int .i64 i), .d (.int .i64 k)] ((MS.mk xs os t1 d1 l1 r1 t2 d2 l2 r2).put h) (.tup []) (put2 ((MS.mk xs os t1 d1 l1 r1 t2 d2 l2 r2).put h) (MS.mk xs (Pl.swO os r2 i k) t1 d1 l1 r1 t2 d2 l2 r2)) := by
 rintro xs os t1 d1 l1 r1 t2 d2 l2 r2 h i k ⟨hm, ⟨i0, i1⟩, k0, k1⟩
 refine cast (α := mal os r2 ∧ (0 : Int) ≤ k ∧ k < (↑(mrow os r2).length : Int) ∧ mal os r2 ∧ (0 : Int) ≤ k ∧ k < (↑(mrow os r2).length : Int) ∧ mal os r2 ∧ (0 : Int) ≤ i ∧ i < (↑(mrow os r2).length : Int) ∧ mal os r2 ∧ (0 : Int) ≤ i ∧ i < (↑(mrow os r2).length : Int) ∧ mal os r2 ∧ (0 : Int) ≤ i ∧ i < (↑(mrow os r2).length : Int) ∧ mal os r2 ∧ (0 : Int) ≤ i ∧ i < (↑(mrow os r2).length : Int) ∧ mal (mset os r2 ((mrow os r2).set i.toNat (rd (Ty.ref (0 : Nat)) (mrow os r2) k))) r2 ∧ (0 : Int) ≤ k ∧ k < (↑(mrow (mset os r2 ((mrow os r2).set i.toNat (rd (Ty.ref (0 : Nat)) (mrow os r2) k))) r2).length : Int) ∧ mal (mset os r2 ((mrow os r2).set i.toNat (rd (Ty.ref (0 : Nat)) (mrow os r2) k))) r2 ∧ (0 : Int) ≤ k ∧ k < (↑(mrow (mset os r2 ((mrow os r2).set i.toNat (rd (Ty.ref (0 : Nat)) (mrow os r2) k))) r2).length : Int) ∧ True ∧ mset (mset os r2 ((mrow os r2).set i.toNat (rd (Ty.ref (0 : Nat)) (mrow os r2) k))) r2 ((mrow (mset os r2 ((mrow os r2).set i.toNat (rd (Ty.ref (0 : Nat)) (mrow os r2) k))) r2).set k.toNat (rd (Ty.ref (0 : Nat)) (mrow os r2) i)) = Pl.swO os r2 i k ∧ True) (by kernel_rfl) ?_
 have hp := mrow_pos i0 i1
 have hs := fun ys => mset_at (xs := ys) hm hp
 refine ⟨hm, k0, k1, hm, k0, k1, hm, i0, i1, hm, i0, i1, hm, i0, i1, hm, i0, i1, (hs _).1, k0, ?_, (hs _).1, k0, ?_, trivial, ?_, trivial⟩
 ·rw [(hs _).2, List.length_set]; exact k1
 ·rw [(hs _).2, List.length_set]; exact k1
 ·rw [mset_twice, (hs _).2]; rfl
theorem vc162a : ∀ (xs : XS) (os : OS) (t1 : Nat) (d1 : D) (l1 : List D) (r1 t2 : Nat) (d2 : D) (l2 : List D) (r2 : Nat) (h : Hp) (i c : Int), Pl.preL (.iface t1 d1) xs os r1 i c →
  VCP T162 H162 Try.f162 pt162 [.bptr 1 1 0, .d (.int .i64 i), .d (.int .i64 c)] ((MS.mk xs os t1 d1 l1 r1 t2 d2 l2 r2).put h) (.tup []) (put0 ((MS.mk xs os t1 d1 l1 r1 t2 d2 l2 r2).put h) (MS.mk (Pl.scX (Pl.qA (.iface t1 d1)) xs os r1 i c) os t1 d1 l1 r1 t2 d2 l2 r2)) := by
 rintro xs os t1 d1 l1 r1 t2 d2 l2 r2 h i c ⟨⟨hm, i0, i1⟩, hx, ha, hc, hq, hl⟩
 refine cast (α := mal os r1 ∧ (0 : Int) ≤ i ∧ i < (↑(mrow os r1).length : Int) ∧ mal os r1 ∧ (0 : Int) ≤ i ∧ i < (↑(mrow os r1).length : Int) ∧ mal xs (rd (Ty.ref (0 : Nat)) (mrow os r1) i) ∧ ∃ (n : Nat), itl (fun (G : Int × List (Option (List Int)) × PUnit → Prop) (x : Int × List (Option (List Int)) × PUnit) => Br (decide (x.1 < (↑(mrow xs (rd (Ty.ref (0 : Nat)) (mrow os r1) i)).length : Int))) (mal x.2.1 (rd (Ty.ref (0 : Nat)) (mrow os r1) i) ∧ (0 : Int) ≤ x.1 ∧ x.1 < (↑(mrow x.2.1 (rd (Ty.ref (0 : Nat)) (mrow os r1) i)).length : Int) ∧ mal x.2.1 (rd (Ty.ref (0 : Nat)) (mrow os r1) i) ∧ (0 : Int) ≤ x.1 ∧ x.1 < (↑(mrow x.2.1 (rd (Ty.ref (0 : Nat)) (mrow os r1) i)).length : Int) ∧ mal os r1 ∧ (0 : Int) ≤ i ∧ i < (↑(mrow os r1).length : Int) ∧ mal os r1 ∧ (0 : Int) ≤ i ∧ i < (↑(mrow os r1).length : Int) ∧ (Pl.okM (D.iface t1 d1) ∧ Pl.inQ (Pl.qA (D.iface t1 d1)) c ∧ Pl.inQ (Pl.qA (D.iface t1 d1)) (rd i64 (mrow x.2.1 (rd (Ty.ref (0 : Nat)) (mrow os r1) i)) x.1)) ∧ mal x.2.1 (rd (Ty.ref (0 : Nat)) (mrow os r1) i) ∧ (0 : Int) ≤ x.1 ∧ x.1 < (↑(mrow x.2.1 (rd (Ty.ref (0 : Nat)) (mrow os r1) i)).length : Int) ∧ mal x.2.1 (rd (Ty.ref (0 : Nat)) (mrow os r1) i) ∧ (0 : Int) ≤ x.1 ∧ x.1 < (↑(mrow x.2.1 (rd (Ty.ref (0 : Nat)) (mrow os r1) i)).length : Int) ∧ G (IntKind.i64.wrap (x.1 + (1 : Int)), mset x.2.1 (rd (Ty.ref (0 : Nat)) (mrow os r1) i) ((mrow x.2.1 (rd (Ty.ref (0 : Nat)) (mrow os r1) i)).set (Int.toNat x.1) (Pl.mul (Pl.qA (D.iface t1 d1)) c (rd i64 (mrow x.2.1 (rd (Ty.ref (0 : Nat)) (mrow os r1) i)) x.1))), ())) (True ∧ x.2.1 = Pl.scX (Pl.qA (D.iface t1 d1)) xs os r1 i c ∧ True)) n ((0 : Int), xs, ())) (by kernel_rfl) ?_
 have er : rd (Ty.ref (0 : Nat)) (mrow os r1) i = Pl.ri os r1 i := rfl
 rw [er]
 unfold Pl.scX
 have haM := okA_M ha
 generalize Pl.ri os r1 i = r at *
 generalize hrow : mrow xs r = row at *
 generalize hv : D.iface t1 d1 = v at *
 let f := Pl.mul (Pl.qA v) c
 refine ⟨hm, i0, i1, hm, i0, i1, hx, itl_rule (fun s => ∃ j : Nat, s.1 = (j : Int) ∧ j ≤ row.length ∧ s.2.1 = mset xs r (Pl.upto f j row)) (fun s => (row.length - s.1.toNat)) ⟨0, rfl, Nat.zero_le _, ?_⟩ ?_⟩
 ·rw [upto_0, ← hrow]; exact (mset_self hx).symm
 ·rintro ⟨j', ys, ⟨⟩⟩ G ⟨j, rfl, hj, e⟩ hG
  simp only at e
  subst e
  refine Br_of (fun hlt => ?_) (fun hlt => ?_)
  ·have hlt : j < row.length := by have := of_decide_eq_true hlt; omega
   have hr0 : 0 < r := by
    cases r with
    | zero => have : (mrow xs 0).length = 0 := rfl; rw [hrow] at this; omega
    | succ r => omega
   obtain ⟨s1, s2⟩ := mset_at (xs := Pl.upto f j row) hx hr0
   have g : rd i64 (Pl.upto f j row) (j : Int) = row.getD j 0 := upto_get f hlt
   have hin : Pl.inQ (Pl.qA v) (row.getD j 0) := hq _ (by rw [List.getD_eq_getElem?_getD, List.getElem?_eq_getElem hlt]; exact List.getElem_mem hlt)
   simp only
   rw [s2, upto_len, g, wrap_i64 (by omega) (by omega), mset_twice]
   refine ⟨s1, by omega, by omega, s1, by omega, by omega, hm, i0, i1, hm, i0, i1, ⟨haM, hc, hin⟩, s1, by omega, by omega, s1, by omega, by omega, hG _ ⟨j + 1, by simp, hlt, ?_⟩ (by simp; omega)⟩
   rw [← upto_set f hlt]; rfl
  ·have hge : j = row.length := by have := of_decide_eq_false hlt; omega
   subst hge
   rw [upto_all]
   exact ⟨trivial, rfl, trivial⟩
theorem vc162b : ∀ (xs : XS) (os : OS) (t1 : Nat) (d1 : D) (l1 : List D) (r1 t2 : Nat) (d2 : D) (l2 : List D) (r2 : Nat) (h : Hp) (i c : Int), Pl.preL (.iface t2 d2) xs os r2 i c →
  VCP T162 H162 Try.f162 pt162 [.bptr 1 1 2, .d (.int .i64 i), .d (.int .i64 c)] ((MS.mk xs os t1 d1 l1 r1 t2 d2 l2 r2).put h) (.tup []) (put0 ((MS.mk xs os t1 d1 l1 r1 t2 d2 l2 r2).put h) (MS.mk (Pl.scX (Pl.qA (.iface t2 d2)) xs os r2 i c) os t1 d1 l1 r1 t2 d2 l2 r2)) := by
 rintro xs os t1 d1 l1 r1 t2 d2 l2 r2 h i c ⟨⟨hm, i0, i1⟩, hx, ha, hc, hq, hl⟩
 refine cast (α := mal os r2 ∧ (0 : Int) ≤ i ∧ i < (↑(mrow os r2).length : Int) ∧ mal os r2 ∧ (0 : Int) ≤ i ∧ i < (↑(mrow os r2).length : Int) ∧ mal xs (rd (Ty.ref (0 : Nat)) (mrow os r2) i) ∧ ∃ (n : Nat), itl (fun (G : Int × List (Option (List Int)) × PUnit → Prop) (x : Int × List (Option (List Int)) × PUnit) => Br (decide (x.1 < (↑(mrow xs (rd (Ty.ref (0 : Nat)) (mrow os r2) i)).length : Int))) (mal x.2.1 (rd (Ty.ref (0 : Nat)) (mrow os r2) i) ∧ (0 : Int) ≤ x.1 ∧ x.1 < (↑(mrow x.2.1 (rd (Ty.ref (0 : Nat)) (mrow os r2) i)).length : Int) ∧ mal x.2.1 (rd (Ty.ref (0 : Nat)) (mrow os r2) i) ∧ (0 : Int) ≤ x.1 ∧ x.1 < (↑(mrow x.2.1 (rd (Ty.ref (0 : Nat)) (mrow os r2) i)).length : Int) ∧ mal os r2 ∧ (0 : Int) ≤ i ∧ i < (↑(mrow os r2).length : Int) ∧ mal os r2 ∧ (0 : Int) ≤ i ∧ i < (↑(mrow os r2).length : Int) ∧ (Pl.okM (D.iface t2 d2) ∧ Pl.inQ (Pl.qA (D.iface t2 d2)) c ∧ Pl.inQ (Pl.qA (D.iface t2 d2)) (rd i64 (mrow x.2.1 (rd (Ty.ref (0 : Nat)) (mrow os r2) i)) x.1)) ∧ mal x.2.1 (rd (Ty.ref (0 : Nat)) (mrow os r2) i) ∧ (0 : Int) ≤ x.1 ∧ x.1 < (↑(mrow x.2.1 (rd (Ty.ref (0 : Nat)) (mrow os r2) i)).length : Int) ∧ mal x.2.1 (rd (Ty.ref (0 : Nat)) (mrow os r2) i) ∧ (0 : Int) ≤ x.1 ∧ x.1 < (↑(mrow x.2.1 (rd (Ty.ref (0 : Nat)) (mrow os r2) i)).length : Int) ∧ G (IntKind.i64.wrap (x.1 + (1 : Int)), mset x.2.1 (rd (Ty.ref (0 : Nat)) (mrow os r2) i) ((mrow x.2.1 (rd (Ty.ref (0 : Nat)) (mrow os r2) i)).set (Int.toNat x.1) (Pl.mul (Pl.qA (D.iface t2 d2)) c (rd i64 (mrow x.2.1 (rd (Ty.ref (0 : Nat)) (mrow os r2) i)) x.1))), ())) (True ∧ x.2.1 = Pl.scX (Pl.qA (D.iface t2 d2)) xs os r2 i c ∧ True)) n ((0 : Int), xs, ())) (by kernel_rfl) ?_
 have er : rd (Ty.ref (0 : Nat)) (mrow os r2) i = Pl.ri os r2 i := rfl
 rw [er]
 unfold Pl.scX
 have haM := okA_M ha
 generalize Pl.ri os r2 i = r at *
 generalize hrow : mrow xs r = row at *
 generalize hv : D.iface t2 d2 = v at *
 let f := Pl.mul (Pl.qA v) c
 refine ⟨hm, i0, i1, hm, i0, i1, hx, itl_rule (fun s => ∃ j : Nat, s.1 = (j : Int) ∧ j ≤ row.length ∧ s.2.1 = mset xs r (Pl.upto f j row)) (fun s => (row.length - s.1.toNat)) ⟨0, rfl, Nat.zero_le _, ?_⟩ ?_⟩
 ·rw [upto_0, ← hrow]; exact (mset_self hx).symm
 ·rintro ⟨j', ys, ⟨⟩⟩ G ⟨j, rfl, hj, e⟩ hG
  simp only at e
  subst e
  refine Br_of (fun hlt => ?_) (fun hlt => ?_)
  ·have hlt : j < row.length := by have := of_decide_eq_true hlt; omega
   have hr0 : 0 < r := by
    cases r with
    | zero => have : (mrow xs 0).length = 0 := rfl; rw [hrow] at this; omega
    | succ r => omega
   obtain ⟨s1, s2⟩ := mset_at (xs := Pl.upto f j row) hx hr0
   have g : rd i64 (Pl.upto f j row) (j : Int) = row.getD j 0 := upto_get f hlt
   have hin : Pl.inQ (Pl.qA v) (row.getD j 0) := hq _ (by rw [List.getD_eq_getElem?_getD, List.getElem?_eq_getElem hlt]; exact List.getElem_mem hlt)
   simp only
   rw [s2, upto_len, g, wrap_i64 (by omega) (by omega), mset_twice]
   refine ⟨s1, by omega, by omega, s1, by omega, by omega, hm, i0, i1, hm, i0, i1, ⟨haM, hc, hin⟩, s1, by omega, by omega, s1, by omega, by omega, hG _ ⟨j + 1, by simp, hlt, ?_⟩ (by simp; omega)⟩
   rw [← upto_set f hlt]; rfl
  ·have hge : j = row.length := by have := of_decide_eq_false hlt; omega
   subst hge
   rw [upto_all]
   exact ⟨trivial, rfl, trivial⟩
theorem snd161 : SoundPT Try.prog 161 pt161 := pt_sound (T := T161) (fn := Try.f161) (tokg (T := T161) trivial trivial trivial noInv noCv) Try.func161 (by kernel_rfl) H0 (fun avs h p v h' hf hp => by
 obtain ⟨s, l, s', e, rfl, rfl, e2⟩ := pt2_elim hf
 rw [e2]
 obtain ⟨xs, os, t1, d1, l1, r1, t2, d2, l2, r2⟩ := s
 unfold swapF at e
 split at e
 ·rename_i i k
  injection e with e
  injection e with e1 e3
  injection e3 with e3 e4
  subst e1 e3 e4
  exact vc161a xs os t1 d1 l1 r1 t2 d2 l2 r2 h i k hp
 ·rename_i i k
  injection e with e
  injection e with e1 e3
  injection e3 with e3 e4
  subst e1 e3 e4
  exact vc161b xs os t1 d1 l1 r1 t2 d2 l2 r2 h i k hp
 ·cases e) (by kernel_rfl)
theorem snd162 : SoundPT Try.prog 162 pt162 := pt_sound (T := T162) (fn := Try.f162) (tokg (T := T162) trivial trivial trivial invsV noCv) Try.func162 (by kernel_rfl) H162 (fun avs h p v h' hf hp => by
 obtain ⟨s, l, s', e, rfl, rfl, e2⟩ := pt0_elim hf
 rw [e2]
 obtain ⟨xs, os, t1, d1, l1, r1, t2, d2, l2, r2⟩ := s
 unfold scaleF at e
 split at e
 ·rename_i i c
  injection e with e
  injection e with e1 e3
  injection e3 with e3 e4
  subst e1 e3 e4
  exact vc162a xs os t1 d1 l1 r1 t2 d2 l2 r2 h i c hp
 ·rename_i i c
  injection e with e
  injection e with e1 e3
  injection e3 with e3 e4
  subst e1 e3 e4
  exact vc162b xs os t1 d1 l1 r1 t2 d2 l2 r2 h i c hp
 ·cases e) (by kernel_rfl)
end Fd
end
section
set_option linter.unusedVariables false
set_option linter.unusedSimpArgs false
set_option maxRecDepth 100000
namespace Fd
open Go Fw Go.Proofs

theorem mset_other {α : Type} {ms : List (Option (List α))} {j k : Nat} {xs : List α} (h : j ≠ k) : (mal (mset ms j xs) k ↔ mal ms k) ∧ mrow (mset ms j xs) k = mrow ms k := by
 cases j with
 | zero => exact ⟨Iff.rfl, rfl⟩
 | succ j =>
  cases k with
  | zero => exact ⟨Iff.rfl, rfl⟩
  | succ k =>
   have e : (ms.set j (some xs))[k]? = ms[k]? := by rw [List.getElem?_set, if_neg (by omega)]
   refine ⟨?_, ?_⟩
   ·show (∃ x, (ms.set j (some xs))[k]? = _) ↔ ∃ x, ms[k]? = _
    rw [e]
   ·show ((ms.set j (some xs)).getD k none).getD [] = (ms.getD k none).getD []
    rw [List.getD_eq_getElem?_getD, List.getD_eq_getElem?_getD, e]
def Pl.upI (g : Nat → Int) (j : Nat) (l : List Int) : List Int := (List.range j).map g ++ l.drop j
theorem upI_len (g : Nat → Int) {j : Nat} {l : List Int} (h : j ≤ l.length) : (Pl.upI g j l).length = l.length := by
 unfold Pl.upI; rw [List.length_append, List.length_map, List.length_range, List.length_drop]; omega
theorem upI_get (g : Nat → Int) {j : Nat} {l : List Int} (h : j < l.length) : (Pl.upI g j l).getD j 0 = l.getD j 0 := by
 unfold Pl.upI
 rw [List.getD_eq_getElem?_getD, List.getElem?_append_right (by simp), List.getElem?_drop, List.getD_eq_getElem?_getD]
 simp
theorem upI_set (g : Nat → Int) {j : Nat} {l : List Int} (h : j < l.length) : (Pl.upI g j l).set j (g j) = Pl.upI g (j + 1) l := by
 refine List.ext_getElem? fun i => ?_
 rw [List.getElem?_set, upI_len g (by omega)]
 unfold Pl.upI
 rw [List.getElem?_append, List.getElem?_append]
 simp only [List.length_map, List.length_range, List.getElem?_map, List.getElem?_drop]
 by_cases e : j = i
 ·subst e
  rw [if_pos rfl, if_pos h, if_pos (by omega), List.getElem?_range (by omega)]
  rfl
 ·rw [if_neg e]
  by_cases e3 : i < j
  ·rw [if_pos e3, if_pos (by omega), List.getElem?_range (by omega), List.getElem?_range (by omega)]
  ·rw [if_neg e3, if_neg (by omega)]
   congr 1
   omega
theorem upI_0 (g : Nat → Int) (l : List Int) : Pl.upI g 0 l = l := by unfold Pl.upI; simp
theorem upI_tkl {q c : Int} {x y : List Int} (h : y.length = x.length) : Pl.upI (fun j => Pl.sub q (x.getD j 0) (Pl.mul q c (y.getD j 0))) x.length x = Pl.tkl q c x y := by
 unfold Pl.upI Pl.tkl
 rw [List.drop_length, List.append_nil]
 refine List.ext_getElem? fun i => ?_
 rw [List.getElem?_map, List.getElem?_zipWith]
 by_cases hi : i < x.length
 ·rw [List.getElem?_range hi, List.getElem?_eq_getElem hi, List.getElem?_eq_getElem (show i < y.length by omega)]
  simp only [Option.map_some, List.getD_eq_getElem?_getD, List.getElem?_eq_getElem hi, List.getElem?_eq_getElem (show i < y.length by omega), Option.getD_some]
 ·rw [List.getElem?_eq_none (by simp; omega), List.getElem?_eq_none (show x.length ≤ i by omega)]
  rfl
theorem okA_q {v : D} (h : Pl.okA v) : isQ (Pl.qA v) := by
 obtain ⟨q, hq, rfl⟩ := h
 rw [qA_ar hq]; exact hq
theorem getD_inQ {q : Int} {l : List Int} (h : ∀ x ∈ l, Pl.inQ q x) {j : Nat} (hj : j < l.length) : Pl.inQ q (l.getD j 0) := h _ (by rw [List.getD_eq_getElem?_getD, List.getElem?_eq_getElem hj]; exact List.getElem_mem hj)
theorem vc163a : ∀ (xs : XS) (os : OS) (t1 : Nat) (d1 : D) (l1 : List D) (r1 t2 : Nat) (d2 : D) (l2 : List D) (r2 : Nat) (h : Hp) (i k c : Int), Pl.preT (.iface t1 d1) xs os r1 i k c →
  VCP T162 H163 Try.f163 pt163 [.bptr 1 1 0, .d (.int .i64 i), .d (.int .i64 k), .d (.int .i64 c)] ((MS.mk xs os t1 d1 l1 r1 t2 d2 l2 r2).put h) (.tup []) (put0 ((MS.mk xs os t1 d1 l1 r1 t2 d2 l2 r2).put h) (MS.mk (Pl.tkX (Pl.qA (.iface t1 d1)) xs os r1 i k c) os t1 d1 l1 r1 t2 d2 l2 r2)) := by
 rintro xs os t1 d1 l1 r1 t2 d2 l2 r2 h i k c ⟨⟨hm, ⟨i0, i1⟩, k0, k1⟩, ⟨hx, hy, hr0, hne⟩, ha, hc, ⟨hqx, hlx⟩, ⟨hqy, hly⟩, hlen⟩
 refine cast (α := mal os r1 ∧ (0 : Int) ≤ k ∧ k < (↑(mrow os r1).length : Int) ∧ mal os r1 ∧ (0 : Int) ≤ k ∧ k < (↑(mrow os r1).length : Int) ∧ mal xs (rd (Ty.ref (0 : Nat)) (mrow os r1) k) ∧ ∃ (n : Nat), itl (fun (G : Int × List (Option (List Int)) × PUnit → Prop) (x : Int × List (Option (List Int)) × PUnit) => Br (decide (x.1 < (↑(mrow xs (rd (Ty.ref (0 : Nat)) (mrow os r1) k)).length : Int))) (mal x.2.1 (rd (Ty.ref (0 : Nat)) (mrow os r1) k) ∧ (0 : Int) ≤ x.1 ∧ x.1 < (↑(mrow x.2.1 (rd (Ty.ref (0 : Nat)) (mrow os r1) k)).length : Int) ∧ mal x.2.1 (rd (Ty.ref (0 : Nat)) (mrow os r1) k) ∧ (0 : Int) ≤ x.1 ∧ x.1 < (↑(mrow x.2.1 (rd (Ty.ref (0 : Nat)) (mrow os r1) k)).length : Int) ∧ mal os r1 ∧ (0 : Int) ≤ i ∧ i < (↑(mrow os r1).length : Int) ∧ mal os r1 ∧ (0 : Int) ≤ i ∧ i < (↑(mrow os r1).length : Int) ∧ mal os r1 ∧ (0 : Int) ≤ i ∧ i < (↑(mrow os r1).length : Int) ∧ mal os r1 ∧ (0 : Int) ≤ i ∧ i < (↑(mrow os r1).length : Int) ∧ mal x.2.1 (rd (Ty.ref (0 : Nat)) (mrow os r1) i) ∧ (0 : Int) ≤ x.1 ∧ x.1 < (↑(mrow x.2.1 (rd (Ty.ref (0 : Nat)) (mrow os r1) i)).length : Int) ∧ mal x.2.1 (rd (Ty.ref (0 : Nat)) (mrow os r1) i) ∧ (0 : Int) ≤ x.1 ∧ x.1 < (↑(mrow x.2.1 (rd (Ty.ref (0 : Nat)) (mrow os r1) i)).length : Int) ∧ (Pl.okM (D.iface t1 d1) ∧ Pl.inQ (Pl.qA (D.iface t1 d1)) c ∧ Pl.inQ (Pl.qA (D.iface t1 d1)) (rd i64 (mrow x.2.1 (rd (Ty.ref (0 : Nat)) (mrow os r1) k)) x.1)) ∧ (Pl.okA (D.iface t1 d1) ∧ Pl.inQ (Pl.qA (D.iface t1 d1)) (rd i64 (mrow x.2.1 (rd (Ty.ref (0 : Nat)) (mrow os r1) i)) x.1) ∧ Pl.inQ (Pl.qA (D.iface t1 d1)) (Pl.mul (Pl.qA (D.iface t1 d1)) c (rd i64 (mrow x.2.1 (rd (Ty.ref (0 : Nat)) (mrow os r1) k)) x.1))) ∧ mal x.2.1 (rd (Ty.ref (0 : Nat)) (mrow os r1) i) ∧ (0 : Int) ≤ x.1 ∧ x.1 < (↑(mrow x.2.1 (rd (Ty.ref (0 : Nat)) (mrow os r1) i)).length : Int) ∧ mal x.2.1 (rd (Ty.ref (0 : Nat)) (mrow os r1) i) ∧ (0 : Int) ≤ x.1 ∧ x.1 < (↑(mrow x.2.1 (rd (Ty.ref (0 : Nat)) (mrow os r1) i)).length : Int) ∧ G (IntKind.i64.wrap (x.1 + (1 : Int)), mset x.2.1 (rd (Ty.ref (0 : Nat)) (mrow os r1) i) ((mrow x.2.1 (rd (Ty.ref (0 : Nat)) (mrow os r1) i)).set (Int.toNat x.1) (Pl.sub (Pl.qA (D.iface t1 d1)) (rd i64 (mrow x.2.1 (rd (Ty.ref (0 : Nat)) (mrow os r1) i)) x.1) (Pl.mul (Pl.qA (D.iface t1 d1)) c (rd i64 (mrow x.2.1 (rd (Ty.ref (0 : Nat)) (mrow os r1) k)) x.1)))), ())) (True ∧ x.2.1 = Pl.tkX (Pl.qA (D.iface t1 d1)) xs os r1 i k c ∧ True)) n ((0 : Int), xs, ())) (by kernel_rfl) ?_
 have er : rd (Ty.ref (0 : Nat)) (mrow os r1) i = Pl.ri os r1 i := rfl
 have ek : rd (Ty.ref (0 : Nat)) (mrow os r1) k = Pl.ri os r1 k := rfl
 rw [er, ek]
 unfold Pl.tkX
 have haM := okA_M ha
 have hQ := okA_q ha
 generalize Pl.ri os r1 i = r at *
 generalize Pl.ri os r1 k = r' at *
 generalize hrow : mrow xs r = row at *
 generalize hrow' : mrow xs r' = row' at *
 generalize hv : D.iface t1 d1 = v at *
 let g : Nat → Int := fun j => Pl.sub (Pl.qA v) (row.getD j 0) (Pl.mul (Pl.qA v) c (row'.getD j 0))
 refine ⟨hm, k0, k1, hm, k0, k1, hy, itl_rule (fun s => ∃ j : Nat, s.1 = (j : Int) ∧ j ≤ row.length ∧ s.2.1 = mset xs r (Pl.upI g j row)) (fun s => (row.length - s.1.toNat)) ⟨0, rfl, Nat.zero_le _, ?_⟩ ?_⟩
 ·rw [upI_0, ← hrow]; exact (mset_self hx).symm
 ·rintro ⟨j', ys, ⟨⟩⟩ G ⟨j, rfl, hj, e⟩ hG
  simp only at e
  subst e
  refine Br_of (fun hlt => ?_) (fun hlt => ?_)
  ·have hlt : j < row.length := by have := of_decide_eq_true hlt; omega
   obtain ⟨s1, s2⟩ := mset_at (xs := Pl.upI g j row) hx hr0
   obtain ⟨o1, o2⟩ := mset_other (ms := xs) (xs := Pl.upI g j row) hne
   rw [hrow'] at o2
   have o1 := o1.2 hy
   have g1 : rd i64 (Pl.upI g j row) (j : Int) = row.getD j 0 := upI_get g hlt
   have g2 : rd i64 row' (j : Int) = row'.getD j 0 := rfl
   have hin := getD_inQ hqx hlt
   have hin' := getD_inQ hqy (show j < row'.length by omega)
   have hll := upI_len g hj
   simp only
   rw [s2, o2, hll, g1, g2, wrap_i64 (by omega) (by omega), mset_twice]
   refine ⟨o1, by omega, by omega, o1, by omega, by omega, hm, i0, i1, hm, i0, i1, hm, i0, i1, hm, i0, i1, s1, by omega, by omega, s1, by omega, by omega, ⟨haM, hc, hin'⟩, ⟨ha, hin, mul_inQ hQ _ _⟩, s1, by omega, by omega, s1, by omega, by omega, hG _ ⟨j + 1, by simp, hlt, ?_⟩ (by simp; omega)⟩
   rw [← upI_set g hlt]; rfl
  ·have hge : j = row.length := by have := of_decide_eq_false hlt; omega
   subst hge
   rw [upI_tkl hlen]
   exact ⟨trivial, rfl, trivial⟩
theorem vc163b : ∀ (xs : XS) (os : OS) (t1 : Nat) (d1 : D) (l1 : List D) (r1 t2 : Nat) (d2 : D) (l2 : List D) (r2 : Nat) (h : Hp) (i k c : Int), Pl.preT (.iface t2 d2) xs os r2 i k c →
  VCP T162 H163 Try.f163 pt163 [.bptr 1 1 2, .d (.int .i64 i), .d (.int .i64 k), .d (.int .i64 c)] ((MS.mk xs os t1 d1 l1 r1 t2 d2 l2 r2).put h) (.tup []) (put0 ((MS.mk xs os t1 d1 l1 r1 t2 d2 l2 r2).put h) (MS.mk (Pl.tkX (Pl.qA (.iface t2 d2)) xs os r2 i k c) os t1 d1 l1 r1 t2 d2 l2 r2)) := by
 rintro xs os t1 d1 l1 r1 t2 d2 l2 r2 h i k c ⟨⟨hm, ⟨i0, i1⟩, k0, k1⟩, ⟨hx, hy, hr0, hne⟩, ha, hc, ⟨hqx, hlx⟩, ⟨hqy, hly⟩, hlen⟩
 refine cast (α := mal os r2 ∧ (0 : Int) ≤ k ∧ k < (↑(mrow os r2).length : Int) ∧ mal os r2 ∧ (0 : Int) ≤ k ∧ k < (↑(mrow os r2).length : Int) ∧ mal xs (rd (Ty.ref (0 : Nat)) (mrow os r2) k) ∧ ∃ (n : Nat), itl (fun (G : Int × List (Option (List Int)) × PUnit → Prop) (x : Int × List (Option (List Int)) × PUnit) => Br (decide (x.1 < (↑(mrow xs (rd (Ty.ref (0 : Nat)) (mrow os r2) k)).length : Int))) (mal x.2.1 (rd (Ty.ref (0 : Nat)) (mrow os r2) k) ∧ (0 : Int) ≤ x.1 ∧ x.1 < (↑(mrow x.2.1 (rd (Ty.ref (0 : Nat)) (mrow os r2) k)).length : Int) ∧ mal x.2.1 (rd (Ty.ref (0 : Nat)) (mrow os r2) k) ∧ (0 : Int) ≤ x.1 ∧ x.1 < (↑(mrow x.2.1 (rd (Ty.ref (0 : Nat)) (mrow os r2) k)).length : Int) ∧ mal os r2 ∧ (0 : Int) ≤ i ∧ i < (↑(mrow os r2).length : Int) ∧ mal os r2 ∧ (0 : Int) ≤ i ∧ i < (↑(mrow os r2).length : Int) ∧ mal os r2 ∧ (0 : Int) ≤ i ∧ i < (↑(mrow os r2).length : Int) ∧ mal os r2 ∧ (0 : Int) ≤ i ∧ i < (↑(mrow os r2).length : Int) ∧ mal x.2.1 (rd (Ty.ref (0 : Nat)) (mrow os r2) i) ∧ (0 : Int) ≤ x.1 ∧ x.1 < (↑(mrow x.2.1 (rd (Ty.ref (0 : Nat)) (mrow os r2) i)).length : Int) ∧ mal x.2.1 (rd (Ty.ref (0 : Nat)) (mrow os r2) i) ∧ (0 : Int) ≤ x.1 ∧ x.1 < (↑(mrow x.2.1 (rd (Ty.ref (0 : Nat)) (mrow os r2) i)).length : Int) ∧ (Pl.okM (D.iface t2 d2) ∧ Pl.inQ (Pl.qA (D.iface t2 d2)) c ∧ Pl.inQ (Pl.qA (D.iface t2 d2)) (rd i64 (mrow x.2.1 (rd (Ty.ref (0 : Nat)) (mrow os r2) k)) x.1)) ∧ (Pl.okA (D.iface t2 d2) ∧ Pl.inQ (Pl.qA (D.iface t2 d2)) (rd i64 (mrow x.2.1 (rd (Ty.ref (0 : Nat)) (mrow os r2) i)) x.1) ∧ Pl.inQ (Pl.qA (D.iface t2 d2)) (Pl.mul (Pl.qA (D.iface t2 d2)) c (rd i64 (mrow x.2.1 (rd (Ty.ref (0 : Nat)) (mrow os r2) k)) x.1))) ∧ mal x.2.1 (rd (Ty.ref (0 : Nat)) (mrow os r2) i) ∧ (0 : Int) ≤ x.1 ∧ x.1 < (↑(mrow x.2.1 (rd (Ty.ref (0 : Nat)) (mrow os r2) i)).length : Int) ∧ mal x.2.1 (rd (Ty.ref (0 : Nat)) (mrow os r2) i) ∧ (0 : Int) ≤ x.1 ∧ x.1 < (↑(mrow x.2.1 (rd (Ty.ref (0 : Nat)) (mrow os r2) i)).length : Int) ∧ G (IntKind.i64.wrap (x.1 + (1 : Int)), mset x.2.1 (rd (Ty.ref (0 : Nat)) (mrow os r2) i) ((mrow x.2.1 (rd (Ty.ref (0 : Nat)) (mrow os r2) i)).set (Int.toNat x.1) (Pl.sub (Pl.qA (D.iface t2 d2)) (rd i64 (mrow x.2.1 (rd (Ty.ref (0 : Nat)) (mrow os r2) i)) x.1) (Pl.mul (Pl.qA (D.iface t2 d2)) c (rd i64 (mrow x.2.1 (rd (Ty.ref (0 : Nat)) (mrow os r2) k)) x.1)))), ())) (True ∧ x.2.1 = Pl.tkX (Pl.qA (D.iface t2 d2)) xs os r2 i k c ∧ True)) n ((0 : Int), xs, ())) (by kernel_rfl) ?_
 have er : rd (Ty.ref (0 : Nat)) (mrow os r2) i = Pl.ri os r2 i := rfl
 have ek : rd (Ty.ref (0 : Nat)) (mrow os r2) k = Pl.ri os r2 k := rfl
 rw [er, ek]
 unfold Pl.tkX
 have haM := okA_M ha
 have hQ := okA_q ha
 generalize Pl.ri os r2 i = r at *
 generalize Pl.ri os r2 k = r' at *
 generalize hrow : mrow xs r = row at *
 generalize hrow' : mrow xs r' = row' at *
 generalize hv : D.iface t2 d2 = v at *
 let g : Nat → Int := fun j => Pl.sub (Pl.qA v) (row.getD j 0) (Pl.mul (Pl.qA v) c (row'.getD j 0))
 refine ⟨hm, k0, k1, hm, k0, k1, hy, itl_rule (fun s => ∃ j : Nat, s.1 = (j : Int) ∧ j ≤ row.length ∧ s.2.1 = mset xs r (Pl.upI g j row)) (fun s => (row.length - s.1.toNat)) ⟨0, rfl, Nat.zero_le _, ?_⟩ ?_⟩
 ·rw [upI_0, ← hrow]; exact (mset_self hx).symm
 ·rintro ⟨j', ys, ⟨⟩⟩ G ⟨j, rfl, hj, e⟩ hG
  simp only at e
  subst e
  refine Br_of (fun hlt => ?_) (fun hlt => ?_)
  ·have hlt : j < row.length := by have := of_decide_eq_true hlt; omega
   obtain ⟨s1, s2⟩ := mset_at (xs := Pl.upI g j row) hx hr0
   obtain ⟨o1, o2⟩ := mset_other (ms := xs) (xs := Pl.upI g j row) hne
   rw [hrow'] at o2
   have o1 := o1.2 hy
   have g1 : rd i64 (Pl.upI g j row) (j : Int) = row.getD j 0 := upI_get g hlt
   have g2 : rd i64 row' (j : Int) = row'.getD j 0 := rfl
   have hin := getD_inQ hqx hlt
   have hin' := getD_inQ hqy (show j < row'.length by omega)
   have hll := upI_len g hj
   simp only
   rw [s2, o2, hll, g1, g2, wrap_i64 (by omega) (by omega), mset_twice]
   refine ⟨o1, by omega, by omega, o1, by omega, by omega, hm, i0, i1, hm, i0, i1, hm, i0, i1, hm, i0, i1, s1, by omega, by omega, s1, by omega, by omega, ⟨haM, hc, hin'⟩, ⟨ha, hin, mul_inQ hQ _ _⟩, s1, by omega, by omega, s1, by omega, by omega, hG _ ⟨j + 1, by simp, hlt, ?_⟩ (by simp; omega)⟩
   rw [← upI_set g hlt]; rfl
  ·have hge : j = row.length := by have := of_decide_eq_false hlt; omega
   subst hge
   rw [upI_tkl hlen]
   exact ⟨trivial, rfl, trivial⟩
theorem snd163 : SoundPT Try.prog 163 pt163 := pt_sound (T := T162) (fn := Try.f163) (tokg (T := T162) trivial trivial trivial invsV noCv) Try.func163 (by kernel_rfl) H163 (fun avs h p v h' hf hp => by
 obtain ⟨s, l, s', e, rfl, rfl, e2⟩ := pt0_elim hf
 rw [e2]
 obtain ⟨xs, os, t1, d1, l1, r1, t2, d2, l2, r2⟩ := s
 unfold takeF at e
 split at e
 ·rename_i i k c
  injection e with e
  injection e with e1 e3
  injection e3 with e3 e4
  subst e1 e3 e4
  exact vc163a xs os t1 d1 l1 r1 t2 d2 l2 r2 h i k c hp
 ·rename_i i k c
  injection e with e
  injection e with e1 e3
  injection e3 with e3 e4
  subst e1 e3 e4
  exact vc163b xs os t1 d1 l1 r1 t2 d2 l2 r2 h i k c hp
 ·cases e) (by kernel_rfl)
theorem vc136 : ∀ (xs : XS) (os : OS) (t1 : Nat) (d1 : D) (l1 : List D) (r1 t2 : Nat) (d2 : D) (l2 : List D) (r2 : Nat) (h : Hp) (i k : Int), (Pl.preS os r1 i k ∧ Pl.preS (Pl.swO os r1 i k) r2 i k) →
  VCP T136 (Hp1 [161]) Try.f136 pt136 [.d (.ref 1 1), .d (.int .i64 i), .d (.int .i64 k)] ((MS.mk xs os t1 d1 l1 r1 t2 d2 l2 r2).put h) (.tup []) (put2 ((MS.mk xs os t1 d1 l1 r1 t2 d2 l2 r2).put h) (MS.mk xs (Pl.swO (Pl.swO os r1 i k) r2 i k) t1 d1 l1 r1 t2 d2 l2 r2)) := by
 rintro xs os t1 d1 l1 r1 t2 d2 l2 r2 h i k hp
 refine cast (α := Pl.preS os r1 i k ∧ Pl.preS (Pl.swO os r1 i k) r2 i k ∧ True ∧ Pl.swO (Pl.swO os r1 i k) r2 i k = Pl.swO (Pl.swO os r1 i k) r2 i k ∧ True) (by kernel_rfl) ?_
 exact ⟨hp.1, hp.2, trivial, rfl, trivial⟩
theorem snd136 : SoundPT Try.prog 136 pt136 := pt_sound (T := T136) (fn := Try.f136) (tokg (T := T136) trivial ⟨snd161, trivial⟩ trivial invsV noCv) Try.func136 (by kernel_rfl) (Hp1 [161]) (fun avs h p v h' hf hp => by
 obtain ⟨s, l, s', e, rfl, rfl, e2⟩ := pt2_elim hf
 rw [e2]
 obtain ⟨xs, os, t1, d1, l1, r1, t2, d2, l2, r2⟩ := s
 unfold swap2F at e
 split at e
 ·rename_i r i k
  split at e
  ·have e := Option.some.inj e
   obtain ⟨e1, e3⟩ := Prod.mk.inj e
   obtain ⟨e3, e4⟩ := Prod.mk.inj e3
   subst e1 e3 e4
   exact vc136 xs os t1 d1 l1 r1 t2 d2 l2 r2 h i k hp
  ·cases e
 ·cases e) (by kernel_rfl)
theorem vc137 : ∀ (xs : XS) (os : OS) (t1 : Nat) (d1 : D) (l1 : List D) (r1 t2 : Nat) (d2 : D) (l2 : List D) (r2 : Nat) (h : Hp) (i c : Int), (Pl.preL (.iface t1 d1) xs os r1 i c ∧ Pl.preL (.iface t2 d2) (Pl.scX (Pl.qA (.iface t1 d1)) xs os r1 i c) os r2 i c) →
  VCP T137 (Hp1 [162]) Try.f137 pt137 [.d (.ref 1 1), .d (.int .i64 i), .d (.int .i64 c)] ((MS.mk xs os t1 d1 l1 r1 t2 d2 l2 r2).put h) (.tup []) (put0 ((MS.mk xs os t1 d1 l1 r1 t2 d2 l2 r2).put h) (MS.mk (Pl.scX (Pl.qA (.iface t2 d2)) (Pl.scX (Pl.qA (.iface t1 d1)) xs os r1 i c) os r2 i c) os t1 d1 l1 r1 t2 d2 l2 r2)) := by
 rintro xs os t1 d1 l1 r1 t2 d2 l2 r2 h i c hp
 refine cast (α := Pl.preL (D.iface t1 d1) xs os r1 i c ∧ Pl.preL (D.iface t2 d2) (Pl.scX (Pl.qA (D.iface t1 d1)) xs os r1 i c) os r2 i c ∧ True ∧ Pl.scX (Pl.qA (D.iface t2 d2)) (Pl.scX (Pl.qA (D.iface t1 d1)) xs os r1 i c) os r2 i c = Pl.scX (Pl.qA (D.iface t2 d2)) (Pl.scX (Pl.qA (D.iface t1 d1)) xs os r1 i c) os r2 i c ∧ True) (by kernel_rfl) ?_
 exact ⟨hp.1, hp.2, trivial, rfl, trivial⟩
theorem snd137 : SoundPT Try.prog 137 pt137 := pt_sound (T := T137) (fn := Try.f137) (tokg (T := T137) trivial ⟨snd162, trivial⟩ trivial invsV noCv) Try.func137 (by kernel_rfl) (Hp1 [162]) (fun avs h p v h' hf hp => by
 obtain ⟨s, l, s', e, rfl, rfl, e2⟩ := pt0_elim hf
 rw [e2]
 obtain ⟨xs, os, t1, d1, l1, r1, t2, d2, l2, r2⟩ := s
 unfold scale2F at e
 split at e
 ·rename_i r i c
  split at e
  ·have e := Option.some.inj e
   obtain ⟨e1, e3⟩ := Prod.mk.inj e
   obtain ⟨e3, e4⟩ := Prod.mk.inj e3
   subst e1 e3 e4
   exact vc137 xs os t1 d1 l1 r1 t2 d2 l2 r2 h i c hp
  ·cases e
 ·cases e) (by kernel_rfl)
theorem vc138 : ∀ (xs : XS) (os : OS) (t1 : Nat) (d1 : D) (l1 : List D) (r1 t2 : Nat) (d2 : D) (l2 : List D) (r2 : Nat) (h : Hp) (i k c : Int), (Pl.preT (.iface t1 d1) xs os r1 i k c ∧ Pl.preT (.iface t2 d2) (Pl.tkX (Pl.qA (.iface t1 d1)) xs os r1 i k c) os r2 i k c) →
  VCP T138 (Hp1 [163]) Try.f138 pt138 [.d (.ref 1 1), .d (.int .i64 i), .d (.int .i64 k), .d (.int .i64 c)] ((MS.mk xs os t1 d1 l1 r1 t2 d2 l2 r2).put h) (.tup []) (put0 ((MS.mk xs os t1 d1 l1 r1 t2 d2 l2 r2).put h) (MS.mk (Pl.tkX (Pl.qA (.iface t2 d2)) (Pl.tkX (Pl.qA (.iface t1 d1)) xs os r1 i k c) os r2 i k c) os t1 d1 l1 r1 t2 d2 l2 r2)) := by
 rintro xs os t1 d1 l1 r1 t2 d2 l2 r2 h i k c hp
 refine cast (α := Pl.preT (D.iface t1 d1) xs os r1 i k c ∧ Pl.preT (D.iface t2 d2) (Pl.tkX (Pl.qA (D.iface t1 d1)) xs os r1 i k c) os r2 i k c ∧ True ∧ Pl.tkX (Pl.qA (D.iface t2 d2)) (Pl.tkX (Pl.qA (D.iface t1 d1)) xs os r1 i k c) os r2 i k c = Pl.tkX (Pl.qA (D.iface t2 d2)) (Pl.tkX (Pl.qA (D.iface t1 d1)) xs os r1 i k c) os r2 i k c ∧ True) (by kernel_rfl) ?_
 exact ⟨hp.1, hp.2, trivial, rfl, trivial⟩
theorem snd138 : SoundPT Try.prog 138 pt138 := pt_sound (T := T138) (fn := Try.f138) (tokg (T := T138) trivial ⟨snd163, trivial⟩ trivial invsV noCv) Try.func138 (by kernel_rfl) (Hp1 [163]) (fun avs h p v h' hf hp => by
 obtain ⟨s, l, s', e, rfl, rfl, e2⟩ := pt0_elim hf
 rw [e2]
 obtain ⟨xs, os, t1, d1, l1, r1, t2, d2, l2, r2⟩ := s
 unfold take2F at e
 split at e
 ·rename_i r i k c
  split at e
  ·have e := Option.some.inj e
   obtain ⟨e1, e3⟩ := Prod.mk.inj e
   obtain ⟨e3, e4⟩ := Prod.mk.inj e3
   subst e1 e3 e4
   exact vc138 xs os t1 d1 l1 r1 t2 d2 l2 r2 h i k c hp
  ·cases e
 ·cases e) (by kernel_rfl)
end Fd
end
section
set_option linter.unusedVariables false
set_option linter.unusedSimpArgs false
set_option maxRecDepth 100000
namespace Fd
open Go Fw Go.Proofs

abbrev XO := XS × OS
def Pl.len (os : OS) (r : Nat) : Nat := (mrow os r).length
def Pl.ent (xs : XS) (os : OS) (r : Nat) (i col : Int) : Int := (mrow xs (Pl.ri os r i)).getD col.toNat 0
def Pl.kf (xs : XS) (os : OS) (r : Nat) (col : Int) : Nat → Int → Int
 | 0, k => k
 | f + 1, k => bif decide (k < (Pl.len os r : Int)) && decide (Pl.ent xs os r k col = 0) then Pl.kf xs os r col f (k + 1) else k
def Pl.elim1 (q : Int) (r1 r2 : Nat) (os : OS) (at_ col i : Int) (xs : XS) : XS :=
 bif decide (i ≠ at_) && decide (Pl.ent xs os r1 i col ≠ 0) then Pl.tkX q (Pl.tkX q xs os r1 i at_ (Pl.ent xs os r1 i col)) os r2 i at_ (Pl.ent xs os r1 i col) else xs
def Pl.elim (q : Int) (r1 r2 : Nat) (os : OS) (at_ col : Int) : Nat → XS → XS
 | 0, xs => xs
 | m + 1, xs => Pl.elim1 q r1 r2 os at_ col (m : Int) (Pl.elim q r1 r2 os at_ col m xs)
def Pl.colO (r1 r2 : Nat) (os : OS) (at_ k : Int) : OS := Pl.swO (Pl.swO os r1 at_ k) r2 at_ k
def Pl.colX (q : Int) (r1 r2 : Nat) (xs : XS) (os : OS) (at_ col : Int) : XS :=
 Pl.scX q (Pl.scX q xs os r1 at_ (Pl.inv q (Pl.ent xs os r1 at_ col))) os r2 at_ (Pl.inv q (Pl.ent xs os r1 at_ col))
def Pl.colK (r1 : Nat) (xo : XO) (at_ col : Int) : Int := Pl.kf xo.1 xo.2 r1 col (Pl.len xo.2 r1 + 1) at_
def Pl.col (q : Int) (r1 r2 : Nat) (xo : XO) (cs : List Int) (col : Int) : XO × List Int :=
 bif decide (Pl.colK r1 xo cs.length col = (Pl.len xo.2 r1 : Int)) then (xo, cs) else
  ((Pl.elim q r1 r2 (Pl.colO r1 r2 xo.2 cs.length (Pl.colK r1 xo cs.length col)) cs.length col (Pl.len xo.2 r1) (Pl.colX q r1 r2 xo.1 (Pl.colO r1 r2 xo.2 cs.length (Pl.colK r1 xo cs.length col)) cs.length col),
   Pl.colO r1 r2 xo.2 cs.length (Pl.colK r1 xo cs.length col)), cs ++ [col])
def Pl.cols (q : Int) (r1 r2 : Nat) (xo : XO) : Nat → XO × List Int
 | 0 => (xo, [])
 | j + 1 => Pl.col q r1 r2 (Pl.cols q r1 r2 xo j).1 (Pl.cols q r1 r2 xo j).2 (j : Int)
def Pl.ech (q : Int) (r1 r2 : Nat) (xo : XO) : XO × List Int := bif decide (Pl.len xo.2 r1 = 0) then (xo, []) else Pl.cols q r1 r2 xo (mrow xo.1 (Pl.ri xo.2 r1 0)).length

def Pl.good (q : Int) (xs : XS) (w : Nat) (l : List Nat) : Prop := ∀ r ∈ l, mal xs r ∧ 0 < r ∧ (mrow xs r).length = w ∧ ∀ x ∈ mrow xs r, Pl.inQ q x
structure Pl.Rec (q : Int) (r1 r2 n w : Nat) (xs : XS) (os : OS) : Prop where
 m1 : mal os r1
 m2 : mal os r2
 ne : r1 ≠ r2
 p1 : 0 < r1
 p2 : 0 < r2
 l1 : (mrow os r1).length = n
 l2 : (mrow os r2).length = n
 nd : (mrow os r1 ++ mrow os r2).Nodup
 g1 : Pl.good q xs w (mrow os r1)
 g2 : Pl.good q xs n (mrow os r2)
 nn : n ≤ 1000000000
 ww : w ≤ 1000000000
def Pl.preE (t1 t2 : Nat) (d1 d2 : D) (r1 r2 : Nat) (xs : XS) (os : OS) : Prop := Pl.okA (.iface t1 d1) ∧ .iface t2 d2 = D.iface t1 d1 ∧ mal os r1 ∧ (Pl.len os r1 = 0 ∨ ∃ n w, 0 < n ∧ Pl.Rec (Pl.qA (.iface t1 d1)) r1 r2 n w xs os)
def Pl.cst (l : List Int) : List (Option (List Int)) := bif decide (l.length = 0) then [] else List.replicate (l.length - 1) none ++ [some l]
def echH (s : MS) (h : Hp) (cs : List (Option (List Int))) : Hp := upd (put02 h s) 4 (some (.aren 3 i64 cs))
def echF : List AV → MS → List (Option (List Int)) → Option (Prop × List Int × MS)
 | [.d r], s, cs => (match r with
  | .ref 1 1 => some (Pl.preE s.t1 s.t2 s.d1 s.d2 s.r1 s.r2 s.xs s.os ∧ cs = [], (Pl.ech (Pl.qA (.iface s.t1 s.d1)) s.r1 s.r2 (s.xs, s.os)).2,
    { s with xs := (Pl.ech (Pl.qA (.iface s.t1 s.d1)) s.r1 s.r2 (s.xs, s.os)).1.1, os := (Pl.ech (Pl.qA (.iface s.t1 s.d1)) s.r1 s.r2 (s.xs, s.os)).1.2 })
  | _ => none)
 | _, _, _ => none
def ech91 (avs : List AV) (h : Hp) : Option (Prop × AV × Hp) := match getM h with
 | some s => (match h 4 with
  | some (.aren 3 (.int .i64) cs) => (match echF avs s cs with
   | some (p, l, s') => some (p, .d (.ref 4 l.length), echH s' h (Pl.cst l))
   | none => none)
  | _ => none)
 | none => none
theorem echH_eq (s : MS) (h : Hp) (cs : List (Option (List Int))) (id : Nat) : echH s h cs id = if id = 4 then some (.aren 3 i64 cs) else if id = 2 then some (.aren 30 (.ref 0) s.os) else if id = 0 then some (.aren 3 i64 s.xs) else h id := by
 unfold echH put02
 rw [upd_eq, upd_eq, upd_eq]
theorem ech91_some {avs : List AV} {h h' : Hp} {p : Prop} {v : AV} (e : ech91 avs h = some (p, v, h')) : ∃ s cs l s', getM h = some s ∧ h 4 = some (.aren 3 i64 cs) ∧ echF avs s cs = some (p, l, s') ∧ v = .d (.ref 4 l.length) ∧ h' = echH s' h (Pl.cst l) := by
 unfold ech91 at e
 split at e
 ·rename_i s hs
  split at e
  ·rename_i cs h4
   split at e
   ·rename_i p' l s' hf
    have e := Option.some.inj e
    obtain ⟨e1, e3⟩ := Prod.mk.inj e
    obtain ⟨e3, e4⟩ := Prod.mk.inj e3
    subst e1
    exact ⟨s, cs, l, s', hs, h4, hf, e3.symm, e4.symm⟩
   ·cases e
  ·cases e
 ·cases e
def pt91 : PT where
 base := 4000000
 mods := [0, 2, 4]
 fn := ech91
 ok := by
  intro avs h p v h' e
  obtain ⟨s, cs, l, s', hs, h4, hf, rfl, rfl⟩ := ech91_some e
  obtain ⟨e0, e1, e2⟩ := getM_some hs
  refine ⟨fun id => ?_, fun id hid => ?_, rfl, fun id hid => ?_, fun K hK => ?_⟩
  ·rw [echH_eq]
   by_cases c4 : id = 4
   ·subst c4; rw [if_pos rfl, h4]; simp
   ·rw [if_neg c4]
    by_cases c2 : id = 2
    ·subst c2; rw [if_pos rfl, e2]; simp
    ·rw [if_neg c2]
     by_cases c0 : id = 0
     ·subst c0; rw [if_pos rfl, e0]; simp
     ·rw [if_neg c0]
  ·simp only [List.mem_cons, List.not_mem_nil, or_false, not_or] at hid
   rw [echH_eq, if_neg hid.2.2, if_neg hid.2.1, if_neg hid.1]
  ·simp only [List.mem_cons, List.not_mem_nil, or_false] at hid
   rcases hid with rfl | rfl | rfl
   ·simp [e0]
   ·simp [e2]
   ·simp [h4]
  ·obtain ⟨o, ho, ha⟩ := hK
   rw [echH_eq] at ho
   by_cases c4 : K = 4
   ·subst c4; exact ⟨_, h4, rfl⟩
   ·rw [if_neg c4] at ho
    by_cases c2 : K = 2
    ·subst c2; exact ⟨_, e2, rfl⟩
    ·rw [if_neg c2] at ho
     by_cases c0 : K = 0
     ·subst c0; exact ⟨_, e0, rfl⟩
     ·rw [if_neg c0] at ho; exact ⟨o, ho, ha⟩
abbrev sO : Sh := .ar 30 (.ref 0)
def T91 : Ctx := ⟨tt, [], VV, none, [(136, pt136), (137, pt137), (138, pt138)], 4000000, [0, 2, 4], [], 0, [(105, 4)], [], [], []⟩
def H91 : Hints := ⟨[], [], [(0, ⟨[0, 4, 20], [(3, .ty (.ref 4)), (21, si), (0, s0), (2, sO), (4, s0)]⟩), (2, ⟨[0, 3, 4, 5, 6, 20, 21], [(7, si), (0, s0), (2, sO), (4, s0)]⟩), (4, ⟨[0, 3, 4, 5, 6, 20, 21, 73], [(74, si), (0, s0), (2, sO), (4, s0)]⟩)], [136, 137, 138], []⟩

end Fd
end
