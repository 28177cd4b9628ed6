/-
  Chapter 01: the table of math/bits: what the row's condition gives.
-/
import Derived.Test.YtchjlgmnfepedaaDoorRows
import Derived.Test.YtchjlgmnfepedaaDoorIter
import Derived.ProofKit
import Derived.LaidMore
import Derived.OpenShut
import Derived.Stop.Joined
namespace Go.Proofs.YtchjlgmnfepedaaDoor
open Go.ChangeShapes Go.WideShapes Go.ChangeAt Go.RowKit

theorem Tryd.own : ownKnob Tryd.prog.godebug = none := by kernel_rfl
theorem Tryd.laidOut : laidOutB Tryd.prog = true := by kernel_rfl
theorem Tryd.cells5 : Tryd.prog.cellsOf 5 = 1 := by kernel_rfl
theorem Tryd.gTab : Tryd.prog.globalNamed "math/bits.deBruijn64tab" = some 0 := by kernel_rfl
theorem Tryd.tTab : (Tryd.prog.globals[0]?).map (·.type) = some 60 := by kernel_rfl
abbrev theLaid : List (String × DataW Unit) := [("math/bits.deBruijn64tab", Rows.laid_math_bits_deBruijn64tab)]

theorem door_met (os : Os) (args : Array Value) : laidMetH Tryd.prog theLaid ((World.doorLaid Tryd.prog 65 os).forCall (fun _ _ => 0) ⟨#[], args, []⟩).memory :=
  laidMetH_of_parts3 (fuel := 8) (laidMet_of_run' 8 (by kernel_rfl) (by kernel_rfl)) (by kernel_rfl) (by kernel_rfl)

theorem datum_tab : (Rows.laid_math_bits_deBruijn64tab : DataW Unit) = .agg (Lib.deBruijn64tab.map fun n : Nat => .lit (.int .u8 (n : Int))) := rfl
theorem of_laid {W : World} (h : laidMetH Tryd.prog theLaid W) : Tab W := by
  rw [MakeChecks.laidMetH_plain _ _ _ (by kernel_rfl)] at h
  obtain ⟨ps, ⟨g0, t0, cs0, f0, p0, q0, hg0, ht0, hv0, hd0, _, _⟩, _, _⟩ := h
  obtain rfl := Option.some.inj (Tryd.gTab.symm.trans hg0)
  obtain rfl := Option.some.inj (Tryd.tTab.symm.trans ht0)
  obtain ⟨xs, m1, rfl, hx1, hlen, hn, hel⟩ := DataW.trod_array Tryd.underlying60 hd0
  rw [datum_tab] at hx1
  simp only [Prod.mk.injEq, DataW.agg.injEq] at hx1
  intro j hj
  have hj64 : j < 64 := hj
  have h0 := hel j hj64
  rw [Tryd.cells5] at h0
  have hxj : xs[j]? = some (xs[j]'(by omega)) := List.getElem?_eq_getElem _
  rw [hxj] at h0
  obtain ⟨k, e1, e2, _⟩ := DataW.trod_int Tryd.underlying5 h0
  have hd := congrArg (fun l : List (DataW Unit) => l[j]?) hx1.1
  simp only [List.getElem?_map, hxj, e2, List.getElem?_eq_getElem hj, Option.map_some] at hd
  have hk : ((Lib.deBruijn64tab[j] : Nat) : Int) = k := by simp at hd; rw [← hd]; rfl
  have hc := World.var?_cell hg0 hv0 j
  rw [hc]
  have hcs : cs0[j]? = some (.int .u8 k) := by
    have := congrArg (fun l => l[0]?) e1
    simpa [List.getElem?_take, List.getElem?_drop] using this
  rw [hcs, List.getD_eq_getElem?_getD, List.getElem?_eq_getElem hj, ← hk]
  rfl
end Go.Proofs.YtchjlgmnfepedaaDoor
