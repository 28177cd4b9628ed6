/-
  A queue in memory, by its list of things: what is first, a thing's key, how many.
-/
import Derived.Test.YtcpcgpanmoellaaHqE
import Derived.Test.YtcpcgpanmoellaaHrA
namespace Go.Proofs.Ytcpcgpanmoellaa
open Go.RowKit Go.Lib

/-- the queue q, whose things are M, by turns; the next turn is t. -/
structure Qu [Watch] (base : Nat) (w : World) (q : Nat) (t : Int) (M : List En) : Prop where
  ex : ∃ r m lv L, QuIs base w q r m t lv L ∧ L.Perm M
  trn : Trn t M
/-- what a queue's deed may write. -/
abbrev KeepQ [Watch] (base q : Nat) (w w' : World) : Prop := Keeps (fun k => FootH base w k ∨ k = q) w w'
theorem KeepQ.trans [Watch] {base q : Nat} {a b c : World} (h : KeepQ base q a b) (k : KeepQ base q b c) : KeepQ base q a c :=
  ⟨k.os.trans h.os, k.tape.trans h.tape, k.output.trans h.output, Nat.le_trans h.size k.size, fun i hi hn => by
    have e := h.block i hi hn
    exact (k.block i (Nat.lt_of_lt_of_le hi h.size) (fun hb => hn (hb.elim (fun hb => .inl ((FootH.eq e).1 hb)) .inr))).trans e⟩
theorem KeepQ.ofH [Watch] {base q : Nat} {a b : World} (h : KeepH base a b) : KeepQ base q a b := Keeps.mono h fun _ _ hk => .inl hk
theorem KeepQ.ofBelow [Watch] {base q : Nat} {a b : World} (h : Below a.heap.size a b) : KeepQ base q a b := Keeps.ofNew h _
theorem KeepQ.below [Watch] {base q : Nat} {a b : World} (h : KeepQ base q a b) (hB : base ≤ a.heap.size) (hq : base ≤ q) : Below base a b :=
  Keeps.below h hB fun _ hk => hk.elim (fun hk => hk.1.1) (fun e => e ▸ hq)
theorem KeepQ.cells [Watch] {base q : Nat} {a b : World} (h : KeepQ base q a b) {k : Nat} {cs : Array Value} {t : TypeId} {fr : Nat × Nat} (hk : a.heap[k]? = some (.cells cs t fr)) (ht : t ∉ [62, 67]) (hq : k ≠ q) : b.heap[k]? = some (.cells cs t fr) :=
  Keeps.obj h hk fun hS => hS.elim (fun hS => ht (by have := hS.2; rw [hk] at this; exact this)) hq
theorem Qu.later [Watch] {base : Nat} {w w' : World} {q : Nat} {t : Int} {M : List En} (h : Qu base w q t M) (hb : Below w.heap.size w w') : Qu base w' q t M := by
  obtain ⟨⟨r, m, lv, L, h1, h2⟩, h3⟩ := h
  exact ⟨⟨r, m, lv, L, h1.later hb, h2⟩, h3⟩
theorem Qu.base [Watch] {base : Nat} {w : World} {q : Nat} {t : Int} {M : List En} (h : Qu base w q t M) : base ≤ q := by
  obtain ⟨⟨r, m, lv, L, h1, h2⟩, h3⟩ := h
  exact h1.bq
theorem Qu.lt [Watch] {base : Nat} {w : World} {q : Nat} {t : Int} {M : List En} (h : Qu base w q t M) : q < w.heap.size := by
  obtain ⟨⟨r, m, lv, L, h1, h2⟩, h3⟩ := h
  exact lt_of_block h1.blk
theorem Qu.wf [Watch] {base : Nat} {w : World} {q : Nat} {t : Int} {M : List En} (h : Qu base w q t M) : ∀ e ∈ M, (kx e.name).wf = true := by
  obtain ⟨⟨r, m, lv, L, h1, h2⟩, h3⟩ := h
  exact fun e he => h1.row.wf e (h2.mem_iff.2 he)
theorem Qu.qblk [Watch] {base : Nat} {w : World} {q : Nat} {t : Int} {M : List En} (h : Qu base w q t M) : ∃ cs, w.heap[q]? = some (.cells cs 64 (0, 0)) := by
  obtain ⟨⟨r, m, lv, L, h1, h2⟩, h3⟩ := h
  exact ⟨_, h1.blk⟩
theorem first_least {L M : List En} (hp : L.Perm M) (hh : Hp (pos L) L.length) (h0 : 0 < L.length) : FirstN M (pos L 0) := by
  refine ⟨hp.mem_iff.1 (by rw [pos_get h0]; exact List.getElem_mem h0), fun a ha => ?_⟩
  obtain ⟨i, hi, rfl⟩ := List.mem_iff_getElem.1 (hp.mem_iff.2 ha)
  rw [← pos_get hi]
  exact hp_least hh i hi
theorem quFirst0 [Watch] {base : Nat} {q : Nat} {t : Int} (w : World) (h : Qu base w q t []) :
    Calls Try.prog 28 #[.pointer (some ⟨q, 0, none⟩)] w fun e w' => e = .returned (.tuple #[.agg #[.int .i64 0, .int .i64 0], .bool false]) ∧ Below w.heap.size w w' := by
  obtain ⟨⟨r, m, lv, L, h1, h2⟩, h3⟩ := h
  obtain rfl := List.perm_nil.1 h2
  exact qFirst0_any w h1
theorem quFirst [Watch] {base : Nat} {q : Nat} {t : Int} {M : List En} (w : World) (h : Qu base w q t M) (h0 : M ≠ []) :
    ∃ e, FirstN M e ∧ Calls Try.prog 28 #[.pointer (some ⟨q, 0, none⟩)] w fun en w' => en = .returned (.tuple #[.agg #[.int .i64 e.key, .int .i64 e.name], .bool true]) ∧ Below w.heap.size w w' := by
  obtain ⟨⟨r, m, lv, L, h1, h2⟩, h3⟩ := h
  have hl : 0 < L.length := by
    rw [h2.length_eq]
    exact List.length_pos_iff.2 h0
  exact ⟨pos L 0, first_least h2 h1.hp hl, qFirst_any w h1 hl⟩
theorem quLen [Watch] {base : Nat} {q : Nat} {t : Int} {M : List En} (w : World) (h : Qu base w q t M) :
    Calls Try.prog 15 #[.pointer (some ⟨q, 0, none⟩)] w fun e w' => e = .returned (.int .i64 M.length) ∧ w = w' := by
  obtain ⟨⟨r, m, lv, L, h1, h2⟩, h3⟩ := h
  rw [← h2.length_eq]
  exact qLen_any w h1
theorem quKey [Watch] {base : Nat} {q : Nat} {t : Int} {M : List En} (x : Int) (w : World) (h : Qu base w q t M) (hx : (kx x).wf = true) :
    Calls Try.prog 14 #[.pointer (some ⟨q, 0, none⟩), .int .i64 x] w fun e w' => e = .returned (.tuple #[.int .i64 (keyN M x), .bool (hasN M x)]) ∧ w = w' := by
  obtain ⟨⟨r, m, lv, L, h1, h2⟩, h3⟩ := h
  refine (qKey_any x w h1 hx).mono ?_
  rintro e w1 ⟨rfl, rfl⟩
  refine ⟨?_, rfl⟩
  rw [whr_has, hasN_perm h2]
  have : (match whr L x with | some i => (pos L i).key | none => 0) = keyN M x := by
    cases hw : whr L x with
    | none =>
      have h5 : hasN M x = false := by rw [← hasN_perm h2, ← whr_has, hw]; rfl
      exact (keyN_none h5).symm
    | some i =>
      obtain ⟨h5, h6⟩ := whr_is hw
      have h7 : pos L i ∈ M := h2.mem_iff.1 (by rw [pos_get h5]; exact List.getElem_mem h5)
      rw [← h6]
      exact (keyN_mem h3.once h7).symm
  exact congrArg (fun z => Ending.returned (.tuple #[.int .i64 z, .bool (hasN M x)])) this
end Go.Proofs.Ytcpcgpanmoellaa
