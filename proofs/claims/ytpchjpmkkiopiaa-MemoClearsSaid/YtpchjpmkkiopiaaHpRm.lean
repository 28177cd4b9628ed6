import Derived.Test.YtpchjpmkkiopiaaHpDm
namespace Go.Proofs.Ytpchjpmkkiopiaa
open Go.RowKit Go.Lib

/-- blocks that no call may write (another queue's). -/
class Watch where
  W : Nat → Prop
  lim : Nat
  lt : ∀ k, W k → k < lim
instance (priority := low) noWatch : Watch := ⟨fun _ => False, 0, fun _ h => h.elim⟩

/-- what a heap's call may write: rows, entries, maps that lie from base on. -/
def FootH [Watch] (base : Nat) (w : World) (k : Nat) : Prop := (base ≤ k ∧ ¬ Watch.W k) ∧ match w.heap[k]? with
  | some (.cells _ t _) => t ∈ [110, 136]
  | some (.map _ _) => True
  | _ => False
abbrev KeepH [Watch] (base : Nat) (w w' : World) : Prop := Keeps (FootH base w) w w'
theorem FootH.eq [Watch] {base : Nat} {w w' : World} {k : Nat} (h : w'.heap[k]? = w.heap[k]?) : FootH base w' k ↔ FootH base w k := by unfold FootH; rw [h]
theorem KeepH.trans [Watch] {base : Nat} {a b c : World} (h : KeepH base a b) (k : KeepH base b c) : KeepH base a c :=
  ⟨k.os.trans h.os, k.tape.trans h.tape, k.output.trans h.output, Nat.le_trans h.size k.size, fun i hi hn => by
    have e := h.block i hi hn
    exact (k.block i (Nat.lt_of_lt_of_le hi h.size) (fun hb => hn ((FootH.eq e).1 hb))).trans e⟩
theorem KeepH.below [Watch] {base : Nat} {a b : World} (h : KeepH base a b) (hB : base ≤ a.heap.size) : Below base a b := Keeps.below h hB fun _ hk => hk.1.1
theorem KeepH.ofBelow [Watch] {base : Nat} {a b : World} (h : Below a.heap.size a b) : KeepH base a b := Keeps.ofNew h _
theorem KeepH.cells [Watch] {base : Nat} {a b : World} (h : KeepH base a b) {k : Nat} {cs : Array Value} {t : TypeId} {fr : Nat × Nat} (hk : a.heap[k]? = some (.cells cs t fr)) (ht : t ∉ [110, 136]) : b.heap[k]? = some (.cells cs t fr) :=
  Keeps.obj h hk fun hS => ht (by have := hS.2; rw [hk] at this; exact this)
theorem KeepH.ofMap [Watch] {base m s : Nat} {f : Int → Option Nat} {a b : World} (hm : MapFn a m s f) (hb : base ≤ m) (hn : ¬ Watch.W m) (h : Keeps (· = m) a b) : KeepH base a b := Keeps.mono h fun k _ e => by
  subst e
  obtain ⟨D, ⟨es, clock, h1, -⟩, -⟩ := hm
  exact ⟨⟨hb, hn⟩, by rw [h1]; trivial⟩

theorem enc_len (e : En) : (enc e).length = 3 := rfl
theorem enc_one (e : En) : ∀ u ∈ enc e, u.oneCell' = true := by intro u hu; simp [enc] at hu; rcases hu with rfl | rfl | rfl <;> rfl
theorem flat_set3 (e : En) : ∀ (L : List En) (i : Nat), i < L.length → (((L.flatMap enc).set (i * 3) (.int .i64 e.key)).set (i * 3 + 1) (.int .i64 e.name)).set (i * 3 + 2) (.int .i64 e.turn) = (L.set i e).flatMap enc
  | [], i, h => by simp at h
  | a :: r, 0, _ => by simp [enc]
  | a :: r, i + 1, h => by
    have ih := flat_set3 e r i (by simpa using h)
    have e1 : (i + 1) * 3 = i * 3 + 3 := by omega
    have e2 : (i + 1) * 3 + 1 = (i * 3 + 1) + 3 := by omega
    have e3 : (i + 1) * 3 + 2 = (i * 3 + 2) + 3 := by omega
    simp only [List.flatMap_cons, List.set_cons_succ, e1, e2, e3]
    rw [← ih]
    simp [enc]
/-- a thing of a row that is owned: its cells. -/
theorem row3 {w : World} {base g n cap : Nat} {t : TypeId} {L : List En} (h : w.ownsRow base t 3 (.slice (some ⟨g, 0, none⟩) n cap) n (L.flatMap enc)) (i : Nat) (hi : i < L.length) :
    (w.cell? ⟨g, i * 3, none⟩ = some (.int .i64 (pos L i).key) ∧ w.cell? ⟨g, i * 3 + 1, none⟩ = some (.int .i64 (pos L i).name) ∧ w.cell? ⟨g, i * 3 + 2, none⟩ = some (.int .i64 (pos L i).turn)) ∧
    w.frozen? ⟨g, i * 3, none⟩ = false ∧ w.frozen? ⟨g, i * 3 + 1, none⟩ = false ∧ w.frozen? ⟨g, i * 3 + 2, none⟩ = false := by
  have hn : L.length = n := by have := h.1; rw [flat_len enc_len] at this; omega
  obtain ⟨g', cap', cur, hv, -, hg, -, -, -, ht⟩ := h.2.resolve_left (fun h => by simp at h)
  simp only [Value.slice.injEq, Option.some.injEq, Addr.mk.injEq] at hv
  obtain ⟨⟨rfl, -⟩, -⟩ := hv
  have hc : ∀ c, c < 3 → cur[i * 3 + c]? = (enc (L[i]))[c]? := fun c hc => by
    have := flat_get enc_len L i c hi hc
    rw [← ht, List.getElem?_take_of_lt (by omega)] at this
    simpa using this
  have h0 := hc 0 (by omega)
  have h1 := hc 1 (by omega)
  have h2 := hc 2 (by omega)
  rw [pos_get hi]
  exact ⟨⟨(block_cell' hg _).1.trans h0, (block_cell' hg _).1.trans h1, (block_cell' hg _).1.trans h2⟩, (block_cell' hg _).2, (block_cell' hg _).2, (block_cell' hg _).2⟩
theorem row_put3 {w : World} {base g n cap : Nat} {t : TypeId} {L : List En} (h : w.ownsRow base t 3 (.slice (some ⟨g, 0, none⟩) n cap) n (L.flatMap enc)) (i : Nat) (hi : i < L.length) (e : En) :
    (((w.setCell ⟨g, i * 3, none⟩ (.int .i64 e.key)).setCell ⟨g, i * 3 + 1, none⟩ (.int .i64 e.name)).setCell ⟨g, i * 3 + 2, none⟩ (.int .i64 e.turn)).ownsRow base t 3 (.slice (some ⟨g, 0, none⟩) n cap) n ((L.set i e).flatMap enc) ∧
    Keeps (fun k => k = g) w (((w.setCell ⟨g, i * 3, none⟩ (.int .i64 e.key)).setCell ⟨g, i * 3 + 1, none⟩ (.int .i64 e.name)).setCell ⟨g, i * 3 + 2, none⟩ (.int .i64 e.turn)) := by
  obtain ⟨g', cap', cur, hv, hb, hg, h1, h2, h3, ht⟩ := h.2.resolve_left (fun h => by simp at h)
  simp only [Value.slice.injEq, Option.some.injEq, Addr.mk.injEq] at hv
  obtain ⟨⟨rfl, -⟩, -, rfl⟩ := hv
  refine ⟨⟨by have := h.1; rw [flat_len enc_len] at this ⊢; simpa using this, .inr ⟨g, cap, _, rfl, hb, block_setCell' (block_setCell' (block_setCell' hg)), h1, h2, by simpa using h3, ?_⟩⟩, (((Keeps.refl (fun k => k = g) w).setCell (p := ⟨g, i * 3, none⟩) rfl _).setCell (p := ⟨g, i * 3 + 1, none⟩) rfl _).setCell (p := ⟨g, i * 3 + 2, none⟩) rfl _⟩
  rw [Array.toList_setIfInBounds, Array.toList_setIfInBounds, Array.toList_setIfInBounds, List.take_set, List.take_set, List.take_set, ht]
  exact flat_set3 e L i hi
/-- a row of things that wait, in memory. -/
structure RowIs [Watch] (base : Nat) (w : World) (r m : Nat) (lv : Value) (L : List En) : Prop where
  blk : w.heap[r]? = some (.cells #[lv, .map (some m)] 110 (0, 0))
  row : w.ownsRow base 136 3 lv L.length (L.flatMap enc)
  fn : MapFn w m L.length (whr L)
  once : Once L
  wf : ∀ e ∈ L, (kx e.name).wf = true
  br : base ≤ r
  bm : base ≤ m
  le : L.length ≤ 100000
  nr : ¬ Watch.W r
  nm : ¬ Watch.W m
  nl : ∀ k, lv.ownBlock = some k → ¬ Watch.W k
  lim : Watch.lim ≤ w.heap.size
theorem row_kept {S : Nat → Prop} {w w' : World} {base C n : Nat} {e : TypeId} {v : Value} {xs : List Value} (hr : w.ownsRow base e C v n xs) (hk : Keeps S w w') (hn : ∀ k cs, w.heap[k]? = some (.cells cs e (0, 0)) → ¬ S k) : w'.ownsRow base e C v n xs := by
  refine Keeps.row hk hr fun k hkk hS => ?_
  rcases hr.2 with ⟨rfl, _⟩ | ⟨g, cap, cur, rfl, _, hg, _⟩
  · simp [Value.ownBlock] at hkk
  · simp [Value.ownBlock] at hkk
    subst hkk
    exact hn _ _ hg hS
theorem RowIs.later [Watch] {base : Nat} {w w' : World} {r m : Nat} {lv : Value} {L : List En} (h : RowIs base w r m lv L) (hb : Below w.heap.size w w') : RowIs base w' r m lv L :=
  ⟨(hb.block _ (lt_of_block h.blk)).trans h.blk, row_kept (S := fun _ => False) h.row (Keeps.ofNew hb _) (fun _ _ _ h => h), h.fn.keeps (S := fun _ => False) (Keeps.ofNew hb _) (fun h => h), h.once, h.wf, h.br, h.bm, h.le, h.nr, h.nm, h.nl, Nat.le_trans h.lim hb.size⟩
theorem RowIs.cells [Watch] {base : Nat} {w : World} {r m : Nat} {lv : Value} {L : List En} (h : RowIs base w r m lv L) : w.cell? ⟨r, 0, none⟩ = some lv ∧ w.cell? ⟨r, 1, none⟩ = some (.map (some m)) ∧ w.frozen? ⟨r, 0, none⟩ = false := by
  simp [World.cell?, World.frozen?, h.blk]
end Go.Proofs.Ytpchjpmkkiopiaa
