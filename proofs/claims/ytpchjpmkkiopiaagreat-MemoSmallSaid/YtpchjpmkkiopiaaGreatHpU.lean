/-
  Small words on worlds: boxes, what stays.
-/
import Derived.Test.YtpchjpmkkiopiaaGreatFlat
import Derived.StillTailTactics
import Derived.Deep.CutBlock
import Derived.Deep.DeepCutAuto
import Derived.Deep.RegionLaw
import Derived.Deep.RegionHeld3
import Derived.Deep.AppendLies
namespace Go.Proofs.YtpchjpmkkiopiaaGreat
open Go.RowKit Go.Lib

theorem three_box {w : World} {b : Nat} {u v x : Value} {t : TypeId} (h : w.heap[b]? = some (.cells #[u, v, x] t (0, 0))) : w.cell? ⟨b, 0, none⟩ = some u ∧ w.cell? ⟨b, 1, none⟩ = some v ∧ w.cell? ⟨b, 2, none⟩ = some x ∧ w.frozen? ⟨b, 0, none⟩ = false ∧ w.frozen? ⟨b, 1, none⟩ = false ∧ w.frozen? ⟨b, 2, none⟩ = false := by
  simp [World.cell?, World.frozen?, h]
theorem gen_world {P : Program} {c : Code} {Q : Exit → Act → World → Prop} {a : Act} {w : World} (S : World → Prop) (h : S w) (k : ∀ w', S w' → c.wp P Q a w') : c.wp P Q a w := k w h
theorem one_new (w : World) (o1 : Obj) : Below w.heap.size w (w.alloc o1) ∧ (w.alloc o1).heap[w.heap.size]? = some o1 := ⟨(Below.refl _ _).alloc (Nat.le_refl _) _, heap_alloc_new w _⟩
theorem Below.keeps {x : Nat} {a b c : World} (h : Below a.heap.size a b) (k : Keeps (fun k => k = x) b c) (hx : a.heap.size ≤ x) : Below a.heap.size a c :=
  h.trans (Keeps.below k h.size (fun k e => e ▸ hx))
theorem Keeps.set_new {S : Nat → Prop} {a b c : World} {x : Nat} (h : Keeps S a b) (k : Keeps (fun k => k = x) b c) (hx : a.heap.size ≤ x) : Keeps S a c :=
  ⟨k.os.trans h.os, k.tape.trans h.tape, k.output.trans h.output, Nat.le_trans h.size k.size, fun i hi hn => (k.block i (Nat.lt_of_lt_of_le hi h.size) (by omega)).trans (h.block i hi hn)⟩
theorem set3 {w : World} {x : Nat} {a0 a1 a2 : Value} {t : TypeId} (h : w.heap[x]? = some (.cells #[a0, a1, a2] t (0, 0))) (v0 v1 v2 : Value) :
    (((w.setCell ⟨x, 0, none⟩ v0).setCell ⟨x, 1, none⟩ v1).setCell ⟨x, 2, none⟩ v2).heap[x]? = some (.cells #[v0, v1, v2] t (0, 0)) ∧
    Keeps (fun k => k = x) w (((w.setCell ⟨x, 0, none⟩ v0).setCell ⟨x, 1, none⟩ v1).setCell ⟨x, 2, none⟩ v2) :=
  ⟨block_setCell' (k := 2) (block_setCell' (k := 1) (block_setCell' (k := 0) h)), ((((Keeps.refl (fun k => k = x) w).setCell (p := ⟨x, 0, none⟩) rfl _).setCell (p := ⟨x, 1, none⟩) rfl _).setCell (p := ⟨x, 2, none⟩) rfl _)⟩
theorem two_box {w : World} {b : Nat} {x0 x1 : Value} {t : TypeId} (h : w.heap[b]? = some (.cells #[x0, x1] t (0, 0))) : w.cell? ⟨b, 0, none⟩ = some x0 ∧ w.cell? ⟨b, 1, none⟩ = some x1 := by
  simp [World.cell?, h]
end Go.Proofs.YtpchjpmkkiopiaaGreat
