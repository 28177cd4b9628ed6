/-
  Chapter far: FarDoes: the state at the loop's head; a deed's cells.
-/
import Derived.Test.YtfhgmnlhmfnckaaDo
import Derived.Test.YtfhgmnlhmfnckaaSize
namespace Go.Proofs.Ytfhgmnlhmfnckaa
open Go.RowKit Go.Lib

/-- a deed, in a block of its own. -/
def deedO (d : Deed) : Obj := .cells (deedc d).toArray 55 (0, 0)
theorem deedO_cells {w : World} {x : Nat} {d : Deed} (h : w.heap[x]? = some (deedO d)) : w.cell? ⟨x, 0, none⟩ = some (.int .i64 d.what) ∧ w.cell? ⟨x, 1, none⟩ = some (.int .i64 d.place) ∧ w.cell? ⟨x, 2, none⟩ = some (.int .u64 (word d.c 0)) ∧ w.cell? ⟨x, 3, none⟩ = some (.int .u64 (word d.c 1)) ∧ w.cell? ⟨x, 4, none⟩ = some (.int .u64 (word d.c 2)) ∧ w.cell? ⟨x, 5, none⟩ = some (.int .u64 (word d.c 3)) ∧ w.cell? ⟨x, 6, none⟩ = some (.string d.s) :=
  ⟨(block_cell' h 0).1, (block_cell' h 1).1, (block_cell' h 2).1, (block_cell' h 3).1, (block_cell' h 4).1, (block_cell' h 5).1, (block_cell' h 6).1⟩

/-- both records, and rows S, T that say what they hold. -/
structure Rows2 (S : List (List Miss)) (T : List Miss) (k : Nat) : Prop where
  ps : ∀ s ∈ S, Pos s
  pt : Pos T
  ls : S.length ≤ k
  ll : (S.flatten ++ T).length ≤ k
def partsOf (S : List (List Miss)) (T : List Miss) : List Part := S.map sumP ++ [sumP T]
/-- at the loop's head: no deed is held. -/
def DB (w0 w : World) (a r : Nat) (v : Value) (W : List UInt8) (S : List (List Miss)) (T : List Miss) : Prop := ∃ Ha Hr : Nat → Prop, (∀ k, Ha k → w0.heap.size ≤ k) ∧ (∀ k, Hr k → w0.heap.size ≤ k) ∧ (∀ k, Ha k → ¬ Hr k) ∧ Far Ha w a (partsOf S T) W ∧ RefS Hr w r v (S.flatten ++ T) (marks S) ∧ BytesAt w0 v W ∧ Below w0.heap.size w0 w
def DD (w0 w : World) (a r x : Nat) (v : Value) (d : Deed) (W : List UInt8) (S : List (List Miss)) (T : List Miss) : Prop := DS w0 w a r x v (deedO d) W (partsOf S T) (S.flatten ++ T) (marks S)
theorem DB.deed {w0 w w' : World} {a r : Nat} {v : Value} {W : List UInt8} {S : List (List Miss)} {T : List Miss} (h : DB w0 w a r v W S T) {d : Deed} (hb : Below w.heap.size w w') (hx : w'.heap[w.heap.size]? = some (deedO d)) : DD w0 w' a r w.heap.size v d W S T := by
  obtain ⟨Ha, Hr, h1, h2, h3, h4, h5, h6, h7⟩ := h
  exact ⟨Ha, Hr, h1, h2, h3, fun hk => Nat.lt_irrefl _ (h4.1 _ hk), fun hk => Nat.lt_irrefl _ (h5.1 _ hk), h4.later hb, h5.later hb, h6, h7.trans (hb.mono h7.size), hx⟩
theorem DS.under {w0 w : World} {a r x : Nat} {v : Value} {o : Obj} {W : List UInt8} {ps : List Part} {L : List Miss} {F : List Nat} (h : DS w0 w a r x v o W ps L F) : Below w0.heap.size w0 w := by
  obtain ⟨_, _, h⟩ := h; exact h.bel
theorem DS.box {w0 w : World} {a r x : Nat} {v : Value} {o : Obj} {W : List UInt8} {ps : List Part} {L : List Miss} {F : List Nat} (h : DS w0 w a r x v o W ps L F) : w.heap[x]? = some o := by
  obtain ⟨_, _, h⟩ := h; exact h.deed
theorem DD.back {w0 w : World} {a r x : Nat} {v : Value} {d : Deed} {W : List UInt8} {S : List (List Miss)} {T : List Miss} (h : DD w0 w a r x v d W S T) : DB w0 w a r v W S T := by
  obtain ⟨Ha, Hr, h⟩ := h
  exact ⟨Ha, Hr, h.la, h.lr, h.ar, h.fa, h.fr, h.inp, h.bel⟩
theorem DB.under {w0 w : World} {a r : Nat} {v : Value} {W : List UInt8} {S : List (List Miss)} {T : List Miss} (h : DB w0 w a r v W S T) : Below w0.heap.size w0 w := by
  obtain ⟨_, _, _, _, _, _, _, _, h⟩ := h; exact h
end Go.Proofs.Ytfhgmnlhmfnckaa
