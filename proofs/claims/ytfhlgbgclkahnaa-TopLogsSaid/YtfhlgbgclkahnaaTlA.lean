/- What the functions that TopLogs reaches compute: contracts. -/
import Derived.Test.YtfhlgbgclkahnaaProg
import Derived.Test.YtfhlgbgclkahnaaChecked
import Derived.Test.YtfhlgbgclkahnaaFwT
set_option linter.unusedVariables false
namespace Tl
open Go Fw Go.Proofs

abbrev I : Ar := .ty (.int .i64)
abbrev B : Ar := .ty .bool
abbrev i64 : Ty := .int .i64
abbrev L : Ar := .ty (.slc (.int .i64))
abbrev G3 : Ar := .ty (.pair i64 (.pair i64 (.pair i64 .unit)))
def tt : List (Nat × TInf) := [
  (3, ⟨1, 8, TD.int IntKind.i64, [D.int IntKind.i64 0]⟩),
  (4, ⟨1, 1, TD.bool, [D.bool false]⟩),
  (2, ⟨1, 8, TD.int IntKind.i64, [D.int IntKind.i64 0]⟩),
  (30, ⟨1, 24, TD.slice 3, [D.val (Value.slice none 0 0)]⟩),
  (23, ⟨1, 8, TD.ptr 112, [D.val (Value.pointer none)]⟩),
  (112, ⟨6, 72, TD.struct [(0, 110), (1, 3), (2, 3), (3, 3), (4, 30), (5, 3)], [D.val Value.nilIface, D.int IntKind.i64 0, D.int IntKind.i64 0, D.int IntKind.i64 0, D.val (Value.slice none 0 0), D.int IntKind.i64 0]⟩),
  (110, ⟨1, 16, TD.iface, [D.val Value.nilIface]⟩),
  (123, ⟨1, 8, TD.struct [(0, 3)], [D.int IntKind.i64 0]⟩),
  (31, ⟨1, 8, TD.int IntKind.i64, [D.int IntKind.i64 0]⟩),
  (22, ⟨1, 24, TD.slice 30, [D.val (Value.slice none 0 0)]⟩),
  (25, ⟨4, 32, TD.struct [(0, 3), (1, 3), (2, 3), (3, 3)], [D.int IntKind.i64 0, D.int IntKind.i64 0, D.int IntKind.i64 0, D.int IntKind.i64 0]⟩),
  (93, ⟨3, 24, TD.struct [(0, 2), (1, 2), (2, 2)], [D.int IntKind.i64 0, D.int IntKind.i64 0, D.int IntKind.i64 0]⟩),
  (132, ⟨1, 8, TD.int IntKind.i64, [D.int IntKind.i64 0]⟩),
  (149, ⟨1, 24, TD.slice 2, [D.val (Value.slice none 0 0)]⟩),
  (134, ⟨8, 64, TD.array 8 2, [D.int IntKind.i64 0, D.int IntKind.i64 0, D.int IntKind.i64 0, D.int IntKind.i64 0, D.int IntKind.i64 0, D.int IntKind.i64 0, D.int IntKind.i64 0, D.int IntKind.i64 0]⟩),
  (90, ⟨1, 8, TD.int IntKind.u64, [D.int IntKind.u64 0]⟩),
  (99, ⟨1, 8, TD.func, [D.val Value.nilFunc]⟩),
  (91, ⟨1, 8, TD.func, [D.val Value.nilFunc]⟩),
  (133, ⟨1, 8, TD.func, [D.val Value.nilFunc]⟩),
  (151, ⟨1, 8, TD.func, [D.val Value.nilFunc]⟩),
  (140, ⟨6, 48, TD.struct [(0, 93), (3, 3), (4, 3), (5, 3)], [D.int IntKind.i64 0, D.int IntKind.i64 0, D.int IntKind.i64 0, D.int IntKind.i64 0, D.int IntKind.i64 0, D.int IntKind.i64 0]⟩),
  (5, ⟨1, 1, TD.int IntKind.u8, [D.int IntKind.u8 0]⟩)
]
theorem tt_all : AllTI Try.prog tt := ⟨by kernel_rfl, by kernel_rfl, by kernel_rfl, by kernel_rfl, by kernel_rfl, by kernel_rfl, by kernel_rfl, by kernel_rfl, by kernel_rfl, by kernel_rfl, by kernel_rfl, by kernel_rfl, by kernel_rfl, by kernel_rfl, by kernel_rfl, by kernel_rfl, by kernel_rfl, by kernel_rfl, by kernel_rfl, by kernel_rfl, by kernel_rfl, by kernel_rfl, trivial⟩

/-! ### Plain functions -/
def Pl.primeL (n : Int) : Nat → Int → Bool
  | 0, _ => false
  | f + 1, p => bif decide (p * p ≤ n) then (bif decide (n % p = 0) then false else Pl.primeL n f (p + 1)) else decide (n > 1)
def Pl.isPrime (n : Int) : Bool := Pl.primeL n 50000 2
def Pl.powL (m : Int) : Nat → Int → Int → Int → Int
  | 0, out, _, _ => out
  | f + 1, out, a, n => bif decide (n > 0) then Pl.powL m f (bif decide (n % 2 = 1) then out * a % m else out) (a * a % m) (n / 2) else out
def Pl.pw (m a n : Int) : Int := Pl.powL m 64 1 a n
def Pl.inB (lo hi x : Int) : Bool := decide (lo ≤ x) && decide (x ≤ hi)
def Pl.divL (p : Int) : Nat → Int → Int
  | 0, n => n
  | f + 1, n => bif decide (n % p = 0) then Pl.divL p f (n / p) else n
def Pl.primesL : Nat → Int → Int → List Int → List Int
  | 0, n, p, out => out
  | f + 1, n, p, out => bif decide (p * p ≤ n) then (bif decide (n % p = 0) then Pl.primesL f (Pl.divL p 64 n) (p + 1) (out ++ [p]) else Pl.primesL f n (p + 1) out)
    else (bif decide (n > 1) then out ++ [n] else out)
def Pl.primes (n : Int) : List Int := Pl.primesL 50000 n 2 []
def Pl.genL (p : Int) (l : List Int) : Nat → Int → Int
  | 0, g => 0
  | f + 1, g => bif l.any (fun q => decide (Pl.pw p g ((p - 1) / q) = 1)) then Pl.genL p l f (g + 1) else g
def Pl.gen (p : Int) : Int := Pl.genL p (Pl.primes (p - 1)) 1000 1
def Pl.logL (p g a : Int) : Nat → Int → Int → Int
  | 0, x, n => 0
  | f + 1, x, n => bif decide (x = a) then n else Pl.logL p g a f (x * g % p) (n + 1)
def Pl.logOK (p g a : Int) : Nat → Int → Bool
  | 0, x => false
  | f + 1, x => bif decide (x = a) then true else Pl.logOK p g a f (x * g % p)
def Pl.logI (p g a : Int) : Int := Pl.logL p g a 65537 1 0
def Pl.findR (p : Int) : Nat → Int → Int
  | 0, r => 0
  | f + 1, r => bif Pl.isPrime r then r else Pl.findR p f (r + p)
def Pl.findH (p r : Int) : Nat → Int → Int
  | 0, h => 0
  | f + 1, h => bif decide (Pl.pw r (h % r) ((r - 1) / p) ≠ 1) then Pl.pw r (h % r) ((r - 1) / p) else Pl.findH p r f (h + 1)
def Pl.theR (p : Int) : Int := Pl.findR p 1000 (p + 1)
def Pl.theG (p : Int) : Int := Pl.findH p (Pl.theR p) 1000 2
def Pl.group (p : Int) : Int × Int × Int := (Pl.theR p, p, Pl.theG p)
def Pl.small (n m : Int) : Int := (n % 18446744073709551616) % (m + 1)
def Pl.prime8 (n : Int) : Int := [7, 11, 13, 17, 31, 97, 251, 1009].getD (Pl.small n 7).toNat 0
def Pl.checkG (r p g : Int) : Int :=
  bif !(Pl.inB 3 2147483647 r) || !(Pl.inB 3 65521 p) || !decide ((r - 1) % p = 0) || !(Pl.inB 2 (r - 1) g) || !(Pl.isPrime r) || !(Pl.isPrime p) || !decide (Pl.pw r g p = 1) then 80 else 0
def Pl.isElt (r p x : Int) : Bool := Pl.inB 1 (r - 1) x && decide (Pl.pw r x p = 1)

/-! ### Data -/
abbrev n64 (x : Int) : D := .int .i64 x
def arD (p : Int) : D := .iface 123 (.agg [n64 p])
def fieldC (p g : Int) : List D := [arD p, n64 p, n64 p, n64 1, .slc true i64 [0, 1], n64 g]
def fieldD (p g : Int) : D := .rptr (fieldC p g)
/-- What multiplies: the remainders modulo p, by themselves or as a field. -/
def Pl.modOf : D → Int
  | .iface 123 (.agg [.int .i64 p]) => p
  | .iface 23 (.rptr (.iface 123 (.agg [.int .i64 p]) :: _)) => p
  | _ => 0
def Pl.recvOK (d : D) : Prop := ∃ p, 2 ≤ p ∧ p ≤ 65536 ∧ (d = arD p ∨ ∃ g, d = .iface 23 (fieldD p g))
def Pl.qOf : D → Int
  | .rptr (_ :: .int .i64 q :: _) => q
  | _ => 0
def Pl.gOf : D → Int
  | .rptr [_, _, _, _, _, .int .i64 g] => g
  | _ => 0
def mulClo (m : Int) : D := .clo 157 [.rptr [.clo 155 []], .rptr [n64 m]]
def Pl.mOf : D → Int
  | .clo 157 [_, .rptr [.int .i64 m]] => m
  | _ => 0
/-- Closures that tell something of a number. -/
def outClo (lo hi : Int) : D := .clo 154 [.rptr [n64 lo], .rptr [n64 hi]]
def notClo (r p g : Int) : D := .clo 159 [.rptr [n64 r, n64 p, n64 g]]
def genClo (p g : Int) : D := .clo 146 [.rptr [arD p], .rptr [n64 g], .rptr [fieldD p 0]]
def Pl.tells : D → Int → Bool
  | .clo 154 [.rptr [.int .i64 lo], .rptr [.int .i64 hi]], x => decide (x < lo) || decide (x > hi)
  | .clo 159 [.rptr [.int .i64 r, .int .i64 p, .int .i64 g]], x => decide (Pl.pw r x p ≠ 1)
  | .clo 146 [_, .rptr [.int .i64 g], .rptr [.rptr (.iface 123 (.agg [.int .i64 p]) :: _)]], q => decide (Pl.pw p g ((p - 1) / q) = 1)
  | _, _ => false
def Pl.tellsOK (d : D) (x : Int) : Prop :=
  (∃ lo hi, d = outClo lo hi) ∨ (∃ r p g, d = notClo r p g ∧ 2 ≤ r ∧ r ≤ 2147483647 ∧ 0 ≤ p ∧ p ≤ 65536 ∧ 0 ≤ x ∧ x < r) ∨ (∃ p g, d = genClo p g ∧ 2 ≤ p ∧ p ≤ 65536 ∧ 0 ≤ g ∧ g < p ∧ 1 ≤ x)

/-! ### Contracts -/
def C85 : Con := ⟨[I, I], [I], fun (x : Int × Int × Unit) => 0 ≤ x.2.1 ∧ x.2.1 ≤ 4611686018427387904, fun (x : Int × Int × Unit) => (Pl.small x.1 x.2.1, ()), none⟩
def C84 : Con := ⟨[I], [I], fun (x : Int × Unit) => True, fun (x : Int × Unit) => (Pl.prime8 x.1, ()), none⟩
def C155 : Con := ⟨[I, I, I], [I], fun (x : Int × Int × Int × Unit) => 1 ≤ x.1 ∧ x.1 ≤ 2147483647 ∧ 0 ≤ x.2.1 ∧ x.2.1 < x.1 ∧ 0 ≤ x.2.2.1 ∧ x.2.2.1 < x.1, fun (x : Int × Int × Int × Unit) => (x.2.1 * x.2.2.1 % x.1, ()), none⟩
def C157 : Con := ⟨[I, I, .raw, .raw], [I], fun (x : Int × Int × D × D × Unit) => ∃ m, x.2.2.1 = .rptr [.clo 155 []] ∧ x.2.2.2.1 = .rptr [n64 m] ∧ 1 ≤ m ∧ m ≤ 2147483647 ∧ 0 ≤ x.1 ∧ x.1 < m ∧ 0 ≤ x.2.1 ∧ x.2.1 < m,
  fun (x : Int × Int × D × D × Unit) => (x.1 * x.2.1 % Pl.mOf (.clo 157 [x.2.2.1, x.2.2.2.1]), ()), none⟩
def Vmul : Con := ⟨[.raw, I, I], [I], fun (x : D × Int × Int × Unit) => ∃ m, x.1 = mulClo m ∧ 1 ≤ m ∧ m ≤ 2147483647 ∧ 0 ≤ x.2.1 ∧ x.2.1 < m ∧ 0 ≤ x.2.2.1 ∧ x.2.2.1 < m, fun (x : D × Int × Int × Unit) => (x.2.1 * x.2.2.1 % Pl.mOf x.1, ()), none⟩
def C156 : Con := ⟨[.raw, I, I, I], [I], fun (x : D × Int × Int × Int × Unit) => ∃ m, x.1 = mulClo m ∧ 2 ≤ m ∧ m ≤ 2147483647 ∧ x.2.1 = 1 ∧ 0 ≤ x.2.2.1 ∧ x.2.2.1 < m ∧ 0 ≤ x.2.2.2.1 ∧ x.2.2.2.1 ≤ 9223372036854775807,
  fun (x : D × Int × Int × Int × Unit) => (Pl.pw (Pl.mOf x.1) x.2.2.1 x.2.2.2.1, ()), none⟩
def C128 : Con := ⟨[I, I, I], [I], fun (x : Int × Int × Int × Unit) => 2 ≤ x.1 ∧ x.1 ≤ 2147483647 ∧ 0 ≤ x.2.1 ∧ 0 ≤ x.2.2.1 ∧ x.2.2.1 ≤ 9223372036854775807, fun (x : Int × Int × Int × Unit) => (Pl.pw x.1 (x.2.1 % x.1) x.2.2.1, ()), none⟩
def C127 : Con := ⟨[I], [B], fun (x : Int × Unit) => x.1 ≤ 2147483647, fun (x : Int × Unit) => (Pl.isPrime x.1, ()), none⟩
def C154 : Con := ⟨[I, .raw, .raw], [B], fun (x : Int × D × D × Unit) => ∃ lo hi, x.2.1 = .rptr [n64 lo] ∧ x.2.2.1 = .rptr [n64 hi], fun (x : Int × D × D × Unit) => (Pl.tells (.clo 154 [x.2.1, x.2.2.1]) x.1, ()), none⟩
def C159 : Con := ⟨[I, .raw], [B], fun (x : Int × D × Unit) => ∃ r p g, x.2.1 = .rptr [n64 r, n64 p, n64 g] ∧ 2 ≤ r ∧ r ≤ 2147483647 ∧ 0 ≤ p ∧ p ≤ 65536 ∧ 0 ≤ x.1 ∧ x.1 < r, fun (x : Int × D × Unit) => (Pl.tells (.clo 159 [x.2.1]) x.1, ()), none⟩
def C146 : Con := ⟨[I, .raw, .raw, .raw], [B], fun (x : Int × D × D × D × Unit) => ∃ p g, x.2.1 = .rptr [arD p] ∧ x.2.2.1 = .rptr [n64 g] ∧ x.2.2.2.1 = .rptr [fieldD p 0] ∧ 2 ≤ p ∧ p ≤ 65536 ∧ 0 ≤ g ∧ g < p ∧ 1 ≤ x.1, fun (x : Int × D × D × D × Unit) => (Pl.tells (.clo 146 [x.2.1, x.2.2.1, x.2.2.2.1]) x.1, ()), none⟩
def Vtell : Con := ⟨[.raw, I], [B], fun (x : D × Int × Unit) => Pl.tellsOK x.1 x.2.1, fun (x : D × Int × Unit) => (Pl.tells x.1 x.2.1, ()), none⟩
def Pl.index (p : Int → Bool) : List Int → Int → Int
  | [], _ => -1
  | x :: l, i => bif p x then i else Pl.index p l (i + 1)
def C166 : Con := ⟨[L, .raw], [I], fun (x : List Int × D × Unit) => x.1.length ≤ 9223372036854775807 ∧ ∀ y ∈ x.1, Pl.tellsOK x.2.1 y, fun (x : List Int × D × Unit) => (Pl.index (Pl.tells x.2.1) x.1 0, ()), none⟩
def C153 : Con := ⟨[L, .raw], [B], fun (x : List Int × D × Unit) => x.1.length ≤ 9223372036854775807 ∧ ∀ y ∈ x.1, Pl.tellsOK x.2.1 y, fun (x : List Int × D × Unit) => (x.1.any (Pl.tells x.2.1), ()), none⟩
def C126 : Con := ⟨[I, I, L], [B], fun (x : Int × Int × List Int × Unit) => x.2.2.1.length ≤ 9223372036854775807, fun (x : Int × Int × List Int × Unit) => (x.2.2.1.all (Pl.inB x.1 x.2.1), ()), none⟩
def C158 : Con := ⟨[G3], [I], fun (x : (Int × Int × Int × Unit) × Unit) => True, fun (x : (Int × Int × Int × Unit) × Unit) => (x.1.1, ()), none⟩
def C131 : Con := ⟨[G3, I], [I], fun (x : (Int × Int × Int × Unit) × Int × Unit) => 2 ≤ x.1.1 ∧ x.1.1 ≤ 2147483647 ∧ 0 ≤ x.1.2.2.1 ∧ x.1.2.2.1 < x.1.1 ∧ 0 ≤ x.2.1 ∧ x.2.1 ≤ 9223372036854775807, fun (x : (Int × Int × Int × Unit) × Int × Unit) => (Pl.pw x.1.1 x.1.2.2.1 x.2.1, ()), none⟩
def C130 : Con := ⟨[G3, L], [B], fun (x : (Int × Int × Int × Unit) × List Int × Unit) => x.1.2.1 ≤ 65536 ∧ 0 ≤ x.1.2.1 ∧ x.2.1.length ≤ 9223372036854775807, fun (x : (Int × Int × Int × Unit) × List Int × Unit) => (x.2.1.all (Pl.inB 0 (x.1.2.1 - 1)), ()), none⟩
def C132 : Con := ⟨[G3, L], [B], fun (x : (Int × Int × Int × Unit) × List Int × Unit) => 2 ≤ x.1.1 ∧ x.1.1 ≤ 2147483647 ∧ 0 ≤ x.1.2.1 ∧ x.1.2.1 ≤ 65536 ∧ x.2.1.length ≤ 9223372036854775807, fun (x : (Int × Int × Int × Unit) × List Int × Unit) => (x.2.1.all (Pl.isElt x.1.1 x.1.2.1), ()), none⟩
def C129 : Con := ⟨[G3], [I], fun (x : (Int × Int × Int × Unit) × Unit) => True, fun (x : (Int × Int × Int × Unit) × Unit) => (Pl.checkG x.1.1 x.1.2.1 x.1.2.2.1, ()), none⟩
def Pl.okP (p : Int) : Bool := Pl.inB 3 65521 p && Pl.isPrime p && decide (Pl.theR p ≠ 0) && decide (Pl.theG p ≠ 0) && decide (Pl.theR p ≤ 65536)
def C83 : Con := ⟨[I], [G3, I], fun (x : Int × Unit) => Pl.okP x.1 = true, fun (x : Int × Unit) => ((Pl.theR x.1, x.1, Pl.theG x.1, ()), 0, ()), none⟩
def C86 : Con := ⟨[G3, I], [I, I], fun (x : (Int × Int × Int × Unit) × Int × Unit) => Pl.checkG x.1.1 x.1.2.1 x.1.2.2.1 = 0, fun (x : (Int × Int × Int × Unit) × Int × Unit) => (bif Pl.inB 0 (x.1.2.1 - 1) x.2.1 then Pl.pw x.1.1 x.1.2.2.1 x.2.1 else 0, bif Pl.inB 0 (x.1.2.1 - 1) x.2.1 then 0 else 1, ()), none⟩
def C87 : Con := ⟨[G3, I], [B], fun (x : (Int × Int × Int × Unit) × Int × Unit) => Pl.checkG x.1.1 x.1.2.1 x.1.2.2.1 = 0, fun (x : (Int × Int × Int × Unit) × Int × Unit) => (Pl.isElt x.1.1 x.1.2.1 x.2.1, ()), none⟩
abbrev Cfg : Ar := .ty (.pair (.pair i64 (.pair i64 (.pair i64 .unit))) (.pair i64 (.pair i64 (.pair i64 .unit))))
def C133 : Con := ⟨[Cfg], [I], fun (x : ((Int × Int × Int × Unit) × Int × Int × Int × Unit) × Unit) => x.1 = ((23, 11, 4, ()), 2, 0, 1, ()) , fun (x : ((Int × Int × Int × Unit) × Int × Int × Int × Unit) × Unit) => (0, ()), none⟩
def C184 : Con := ⟨[.ty (.pair i64 .unit), I, I], [I], fun (x : (Int × Unit) × Int × Int × Unit) => 1 ≤ x.1.1 ∧ x.1.1 ≤ 65536 ∧ 0 ≤ x.2.1 ∧ x.2.1 < x.1.1 ∧ 0 ≤ x.2.2.1 ∧ x.2.2.1 < x.1.1, fun (x : (Int × Unit) × Int × Int × Unit) => (x.2.1 * x.2.2.1 % x.1.1, ()), none⟩
def Vprod : Con := ⟨[.raw, I, I], [I], fun (x : D × Int × Int × Unit) => Pl.recvOK x.1 ∧ 0 ≤ x.2.1 ∧ x.2.1 < Pl.modOf x.1 ∧ 0 ≤ x.2.2.1 ∧ x.2.2.1 < Pl.modOf x.1, fun (x : D × Int × Int × Unit) => (x.2.1 * x.2.2.1 % Pl.modOf x.1, ()), none⟩
def C100 : Con := ⟨[.raw, I, I], [I], fun (x : D × Int × Int × Unit) => Pl.recvOK x.1 ∧ 0 ≤ x.2.1 ∧ x.2.1 < Pl.modOf x.1 ∧ 0 ≤ x.2.2.1 ∧ x.2.2.1 ≤ 9223372036854775807, fun (x : D × Int × Int × Unit) => (Pl.pw (Pl.modOf x.1) x.2.1 x.2.2.1, ()), none⟩
def C117 : Con := ⟨[I], [L], fun (x : Int × Unit) => 1 ≤ x.1 ∧ x.1 ≤ 2147483647, fun (x : Int × Unit) => (Pl.primes x.1, ()), none⟩
def C164 : Con := C166
def C139 : Con := C153
def C120 : Con := ⟨[.raw, .raw], [I], fun (x : D × D × Unit) => ∃ p, x.1 = fieldD p 0 ∧ x.2.1 = arD p ∧ 3 ≤ p ∧ p ≤ 65536 ∧ Pl.gen p ≠ 0 ∧ Pl.gen p < p, fun (x : D × D × Unit) => (Pl.gen (Pl.qOf x.1), ()), none⟩
def C78 : Con := ⟨[I], [.raw, I], fun (x : Int × Unit) => 3 ≤ x.1 ∧ x.1 ≤ 65536 ∧ Pl.isPrime x.1 = true ∧ Pl.gen x.1 ≠ 0 ∧ Pl.gen x.1 < x.1, fun (x : Int × Unit) => (fieldD x.1 (Pl.gen x.1), 0, ()), none⟩
def C95 : Con := ⟨[.raw, I], [I], fun (x : D × Int × Unit) => ∃ p g, x.1 = fieldD p g ∧ 2 ≤ p ∧ p ≤ 65536, fun (x : D × Int × Unit) => (x.2.1 % Pl.qOf x.1, ()), none⟩
def Pl.powF (q a n : Int) : Int × Int :=
  bif decide (n = 0) then (1, 0) else bif decide (a % q = 0) && decide (n < 0) then (0, 6) else bif decide (a % q = 0) then (0, 0) else (Pl.pw q (a % q) (n % (q - 1)), 0)
def C38 : Con := ⟨[.raw, I, I], [I, I], fun (x : D × Int × Int × Unit) => ∃ p g, x.1 = fieldD p g ∧ 3 ≤ p ∧ p ≤ 65536, fun (x : D × Int × Int × Unit) => ((Pl.powF (Pl.qOf x.1) x.2.1 x.2.2.1).1, (Pl.powF (Pl.qOf x.1) x.2.1 x.2.2.1).2, ()), none⟩
def C39 : Con := ⟨[.raw, I], [I, I], fun (x : D × Int × Unit) => ∃ p g, x.1 = fieldD p g ∧ 2 ≤ p ∧ p ≤ 65536 ∧ 0 ≤ g ∧ g < p ∧ (x.2.1 % p ≠ 0 → Pl.logOK p g (x.2.1 % p) 65537 1 = true),
  fun (x : D × Int × Unit) => (bif decide (x.2.1 % Pl.qOf x.1 = 0) then 0 else Pl.logI (Pl.qOf x.1) (Pl.gOf x.1) (x.2.1 % Pl.qOf x.1), bif decide (x.2.1 % Pl.qOf x.1 = 0) then 6 else 0, ()), none⟩

/-! ### Hints -/
def H0 : Hints := ⟨[], [], []⟩
def lo (l : List (Nat × LH)) : Hints := ⟨[], [], l⟩
def s64 : Sh := .ty i64
def H127 : Hints := lo [(0, ⟨[0], [(3, s64)]⟩)]
def H156 : Hints := lo [(0, ⟨[0], [(2, s64), (3, s64), (9, s64)]⟩)]
def H166 : Hints := lo [(0, ⟨[0, 1, 7], [(8, s64)]⟩)]
def H100 : Hints := lo [(0, ⟨[0], [(1, s64), (2, s64), (7, s64)]⟩)]
def H117 : Hints := lo [(0, ⟨[], [(0, s64), (3, .own 3 i64), (4, s64)]⟩), (2, ⟨[4], [(0, s64), (3, .own 3 i64)]⟩)]
def H120 : Hints := lo [(0, ⟨[5], [(2, .box [.raw]), (3, .box [.raw]), (6, .box [I])]⟩)]
def H83 : Hints := lo [(0, ⟨[0], [(2, .box [I, I, I]), (4, s64)]⟩), (2, ⟨[0, 4], [(2, .box [I, I, I]), (5, s64)]⟩)]
def H39 : Hints := lo [(0, ⟨[0, 1], [(6, s64), (7, s64)]⟩)]
def H78 : Hints := lo [(0, ⟨[0], [(5, .box [.raw, I, I, I, .raw, I]), (6, s64)]⟩)]

/-! ### What each may call -/
def T0 : Ctx := ⟨tt, [], [], none⟩
def T84 : Ctx := ⟨tt, [(85, C85)], [], none⟩
def T157 : Ctx := ⟨tt, [(155, C155)], [], none⟩
def T156 : Ctx := ⟨tt, [], [], some Vmul⟩
def T128 : Ctx := ⟨tt, [(156, C156)], [], none⟩
def T159 : Ctx := ⟨tt, [(158, C158), (128, C128)], [], none⟩
def T131 : Ctx := T159
def T146 : Ctx := ⟨tt, [(100, C100)], [], none⟩
def T166 : Ctx := ⟨tt, [], [], some Vtell⟩
def T153 : Ctx := ⟨tt, [(166, C166)], [], none⟩
def T139 : Ctx := ⟨tt, [(164, C164)], [], none⟩
def T126 : Ctx := ⟨tt, [(153, C153)], [], none⟩
def T130 : Ctx := ⟨tt, [(126, C126)], [], none⟩
def T132 : Ctx := ⟨tt, [(126, C126), (153, C153)], [], none⟩
def T129 : Ctx := ⟨tt, [(126, C126), (127, C127), (128, C128)], [], none⟩
def T83 : Ctx := T129
def T86 : Ctx := ⟨tt, [(129, C129), (130, C130), (131, C131)], [], none⟩
def T87 : Ctx := ⟨tt, [(129, C129), (132, C132)], [], none⟩
def T133 : Ctx := ⟨tt, [(129, C129)], [], none⟩
def T100 : Ctx := ⟨tt, [], [("dauber/field.product", Vprod)], none⟩
def T120 : Ctx := ⟨tt, [(117, C117), (139, C139)], [], none⟩
def T78 : Ctx := ⟨tt, [(117, C117), (120, C120)], [], none⟩
def T38 : Ctx := ⟨tt, [(95, C95), (100, C100)], [], none⟩
def T39 : Ctx := ⟨tt, [(95, C95)], [("dauber/field.product", Vprod)], none⟩

def C88 : Con := ⟨[], [B], fun (x : Unit) => True, fun (x : Unit) => (true, ()), none⟩
def C18 : Con := ⟨[I, I], [B], fun (x : Int × Int × Unit) => True, fun (x : Int × Int × Unit) => (true, ()), none⟩
def T88 : Ctx := ⟨tt, [(83, C83), (78, C78), (133, C133)], [], none⟩
def T18 : Ctx := ⟨tt, [(84, C84), (83, C83), (78, C78), (85, C85), (86, C86), (38, C38), (39, C39), (87, C87), (88, C88)], [], none⟩

end Tl
