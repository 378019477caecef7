import Derived.WalkKit
import Derived.ProofKit
import Derived.OpenShut
import Derived.Below
import Derived.Deep.Matrix
import Derived.Test.YtfhlgbgclkahnaaRows
import Derived.Test.YtfhlgbgclkahnaaM5
section
namespace Go.Proofs.Ytfhlgbgclkahnaa
open Go.ChangeShapes Go.WideShapes Go.ChangeAt Go.RowKit
set_option linter.unusedVariables false
set_option maxRecDepth 100000

theorem laidTry : laidOutB Try.prog = true := by kernel_rfl
theorem cells3 : Try.prog.cellsOf 3 = 1 := by kernel_rfl
theorem cells30 : Try.prog.cellsOf 30 = 1 := by kernel_rfl
section
variable {H : Type} {enc : TypeId × Value → H} {W : World}
abbrev O0 : Fw.OO := ⟨fun _ => False, Fw.nn⟩
theorem srep_rows {b0 : Nat} {v : Value} {d : DataW H} {ps : List MemPlace} (hval : Value.okWide Try.prog W .any b0 22 v) (hd : DataW.Trod enc Try.prog W 0 (fun _ => true) true 22 v d ps) : ∃ m : List (List Int), Fw.SRep W O0 (.slc (.int .i64)) m v := by
  obtain ⟨a0, len0, cap0, rfl⟩ := okWide_slice Try.underlying22 hval
  obtain ⟨fuel, hf⟩ := hd
  rcases Deep.open_int_rows Try.underlying22 Try.underlying30 Try.underlying3 cells30 cells3 hf with ⟨hcs, _⟩ | ⟨a, len, cap, A, L, C, Z, hcs, _, hl, _, _, hrow⟩
  · simp [Value.cells] at hcs
    obtain ⟨rfl, rfl, rfl⟩ := hcs
    exact ⟨[], none, 0, rfl, Nat.le_refl _, fun h => absurd h (Nat.lt_irrefl 0)⟩
  · simp [Value.cells] at hcs
    obtain ⟨rfl, rfl, rfl⟩ := hcs
    have hlen : ((List.range len0).map fun r => (Z r).take (L r)).length = len0 := by rw [List.length_map, List.length_range]
    refine ⟨(List.range len0).map fun r => (Z r).take (L r), some a, cap0, by rw [hlen], by rw [hlen]; exact hl, fun _ => ⟨a, rfl, fun j hj => ?_⟩⟩
    have hj' : j < len0 := by rw [hlen] at hj; exact hj
    obtain ⟨c1, c2, c3, c4, _, c5, c6⟩ := hrow j (by omega)
    have hel : ((List.range len0).map fun r => (Z r).take (L r))[j] = (Z j).take (L j) := by rw [List.getElem_map, List.getElem_range]
    have hL : ((Z j).take (L j)).length = L j := by rw [List.length_take]; omega
    rw [hel]
    refine ⟨A j, C j, ⟨fun h => h, ?_⟩, by rw [hL]; exact c2, fun h0 => ?_⟩
    · show W.cell? (a.add (j * 1)) = _
      rw [Nat.mul_one, c1, hL]
    · cases hA : A j with
      | none => have := c5 hA; rw [hL] at h0; omega
      | some ad =>
        obtain ⟨_, hc⟩ := c6 ad hA
        refine ⟨ad, rfl, fun i hi => ⟨fun h => h, ?_⟩⟩
        have hi' : i < L j := by rw [hL] at hi; exact hi
        show W.cell? (ad.add (i * 1)) = some (.int .i64 ((Z j).take (L j))[i])
        rw [Nat.mul_one, hc i (by omega), List.getElem_take, List.getD_eq_getElem?_getD, List.getElem?_eq_getElem (by omega)]; rfl
end
end Go.Proofs.Ytfhlgbgclkahnaa
end
