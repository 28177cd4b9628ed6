/-
  Outside of a footprint the world is as it was.
-/
import Derived.Test.YtkimkghldilliaaGreatLib
namespace Go.Proofs.YtkimkghldilliaaGreat
open Go.RowKit

/-- Outside of the blocks S the world w' is as w was; new blocks may have come. -/
structure Keeps (S : Nat → Prop) (w w' : World) : Prop where
  os : w'.os = w.os
  tape : w'.tape = w.tape
  output : w'.output = w.output
  size : w.heap.size ≤ w'.heap.size
  block : ∀ k, k < w.heap.size → ¬ S k → w'.heap[k]? = w.heap[k]?

theorem Keeps.refl (S : Nat → Prop) (w : World) : Keeps S w w := ⟨rfl, rfl, rfl, Nat.le_refl _, fun _ _ _ => rfl⟩
theorem Keeps.trans {S : Nat → Prop} {a b c : World} (h : Keeps S a b) (k : Keeps S b c) : Keeps S a c :=
  ⟨k.os.trans h.os, k.tape.trans h.tape, k.output.trans h.output, Nat.le_trans h.size k.size, fun i hi hn => (k.block i (Nat.lt_of_lt_of_le hi h.size) hn).trans (h.block i hi hn)⟩
theorem Keeps.mono {S T : Nat → Prop} {a b : World} (h : Keeps S a b) (hs : ∀ k, k < a.heap.size → S k → T k) : Keeps T a b :=
  ⟨h.os, h.tape, h.output, h.size, fun i hi hn => h.block i hi (fun hS => hn (hs i hi hS))⟩
theorem Keeps.alloc {S : Nat → Prop} {a w : World} (h : Keeps S a w) (o : Obj) : Keeps S a (w.alloc o) :=
  h.trans ⟨rfl, rfl, rfl, by simp, fun k hk _ => Below.heap_alloc _ _ _ hk⟩
theorem Keeps.drew {S : Nat → Prop} {a w : World} (h : Keeps S a w) : Keeps S a w.drew := ⟨h.os, h.tape, h.output, h.size, h.block⟩
theorem Keeps.drewN {S : Nat → Prop} {a w : World} (h : Keeps S a w) (n : Nat) : Keeps S a (w.drewN n) := ⟨h.os, h.tape, h.output, h.size, h.block⟩
theorem Keeps.setCell {S : Nat → Prop} {a w : World} (h : Keeps S a w) {p : Addr} (hp : S p.block) (u : Value) : Keeps S a (w.setCell p u) :=
  h.trans ⟨rfl, rfl, rfl, by simp [World.setCell], fun k _ hn => Below.heap_setCell _ _ _ _ (fun e => hn (e ▸ hp))⟩
theorem Keeps.grown {S : Nat → Prop} {a w w' : World} {row : Option Nat} (h : Keeps S a w) (hg : w.grownBy w' row) (hr : ∀ k, row = some k → S k) : Keeps S a w' :=
  h.trans ⟨hg.os, hg.tape, hg.output, hg.size, fun k hk hn => hg.block k hk (fun e => hn (hr k e.symm))⟩
/-- an append onto a row whose block may be new since a. -/
theorem Keeps.grown' {S : Nat → Prop} {a w w' : World} {row : Option Nat} (h : Keeps S a w) (hg : w.grownBy w' row) (hr : ∀ k, row = some k → k < a.heap.size → S k) : Keeps S a w' :=
  ⟨hg.os.trans h.os, hg.tape.trans h.tape, hg.output.trans h.output, Nat.le_trans h.size hg.size, fun k hk hn => (hg.block k (Nat.lt_of_lt_of_le hk h.size) (fun e => hn (hr k e.symm hk))).trans (h.block k hk hn)⟩
theorem Keeps.below {S : Nat → Prop} {a w : World} {B : Nat} (h : Keeps S a w) (hB : B ≤ a.heap.size) (hs : ∀ k, S k → B ≤ k) : Below B a w :=
  ⟨h.os, h.tape, h.output, h.size, fun k hk => h.block k (by omega) (fun hS => by have := hs k hS; omega)⟩
theorem Keeps.ofBelow {a w : World} {B : Nat} (h : Below B a w) : Keeps (fun k => B ≤ k) a w :=
  ⟨h.os, h.tape, h.output, h.size, fun k _ hn => h.block k (by omega)⟩
theorem Keeps.ofNew {a w : World} (h : Below a.heap.size a w) (S : Nat → Prop) : Keeps S a w :=
  ⟨h.os, h.tape, h.output, h.size, fun k hk _ => h.block k hk⟩
theorem Keeps.new {a w : World} (h : Keeps (fun _ => False) a w) : Below a.heap.size a w :=
  ⟨h.os, h.tape, h.output, h.size, fun k hk => h.block k hk (fun h => h)⟩
theorem Keeps.cell {S : Nat → Prop} {a w : World} (h : Keeps S a w) {p : Addr} {v : Value} (hc : a.cell? p = some v) (hn : ¬ S p.block) : w.cell? p = some v :=
  (World.cell?_of_block (w := a) (h.block p.block (World.block_lt_of_cell? _ _ hc) hn)).trans hc
theorem Keeps.obj {S : Nat → Prop} {a w : World} (h : Keeps S a w) {b : Nat} {o : Obj} (hc : a.heap[b]? = some o) (hn : ¬ S b) : w.heap[b]? = some o :=
  (h.block b (lt_of_block hc) hn).trans hc
/-- a row that is owned stays so, if its block is out of the footprint. -/
theorem Keeps.row {S : Nat → Prop} {a w : World} (h : Keeps S a w) {base n size : Nat} {e : TypeId} {v : Value} {xs : List Value} (ho : a.ownsRow base e size v n xs) (hn : ∀ k, v.ownBlock = some k → ¬ S k) : w.ownsRow base e size v n xs := by
  refine ⟨ho.1, ?_⟩
  rcases ho.2 with h0 | ⟨g, cap, cur, rfl, hb, hg, rest⟩
  · exact .inl h0
  · exact .inr ⟨g, cap, cur, rfl, hb, h.obj hg (hn g rfl), rest⟩

/-- what a slice value holds, cell by cell, from whatever address (one cell an element). -/
def CellsAt (w : World) (v : Value) (xs : List Value) : Prop :=
  ∃ ao b off cap, v = .slice ao xs.length cap ∧ xs.length ≤ cap ∧ cap ≤ maxLen ∧ (ao = none → xs.length = 0 ∧ cap = 0) ∧ (0 < xs.length → ao = some ⟨b, off, none⟩) ∧ (∀ u ∈ xs, u.oneCell' = true) ∧ ∀ k (h : k < xs.length), w.cell? ⟨b, off + k, none⟩ = some xs[k]
theorem CellsAt.later {w w' : World} {v : Value} {t : List Value} (h : CellsAt w v t) (hb : Below w.heap.size w w') : CellsAt w' v t := by
  obtain ⟨ao, b, off, cap, rfl, hl, hm, hnil, hao, h1, hc⟩ := h
  exact ⟨ao, b, off, cap, rfl, hl, hm, hnil, hao, h1, fun k hk => cell_later hb (hc k hk)⟩
/-- the same where the world below B is kept, and the cells lie there. -/
def CellsBelow (B : Nat) (w : World) (v : Value) (xs : List Value) : Prop :=
  ∃ ao b off cap, v = .slice ao xs.length cap ∧ xs.length ≤ cap ∧ cap ≤ maxLen ∧ (ao = none → xs.length = 0 ∧ cap = 0) ∧ (0 < xs.length → ao = some ⟨b, off, none⟩) ∧ (∀ u ∈ xs, u.oneCell' = true) ∧ (0 < xs.length → b < B) ∧ ∀ k (h : k < xs.length), w.cell? ⟨b, off + k, none⟩ = some xs[k]
theorem CellsBelow.at {B : Nat} {w : World} {v : Value} {t : List Value} (h : CellsBelow B w v t) : CellsAt w v t := by
  obtain ⟨ao, b, off, cap, rfl, hl, hm, hnil, hao, h1, hb, hc⟩ := h
  exact ⟨ao, b, off, cap, rfl, hl, hm, hnil, hao, h1, hc⟩
theorem CellsBelow.later {B : Nat} {w w' : World} {v : Value} {t : List Value} (h : CellsBelow B w v t) (hb : Below B w w') : CellsBelow B w' v t := by
  obtain ⟨ao, b, off, cap, rfl, hl, hm, hnil, hao, h1, hlt, hc⟩ := h
  exact ⟨ao, b, off, cap, rfl, hl, hm, hnil, hao, h1, hlt, fun k hk => (hb.cell (p := ⟨b, off + k, none⟩) (hlt (by omega))).trans (hc k hk)⟩
theorem CellsAt.belowSize {w : World} {v : Value} {t : List Value} (h : CellsAt w v t) : CellsBelow w.heap.size w v t := by
  obtain ⟨ao, b, off, cap, rfl, hl, hm, hnil, hao, h1, hc⟩ := h
  exact ⟨ao, b, off, cap, rfl, hl, hm, hnil, hao, h1, fun h0 => World.block_lt_of_cell? _ _ (hc 0 h0), hc⟩

theorem cells_news {w : World} {ao : Option Addr} {b off : Nat} {xs : List Value} (hao : 0 < xs.length → ao = some ⟨b, off, none⟩) (hc : ∀ k (h : k < xs.length), w.cell? ⟨b, off + k, none⟩ = some xs[k]) :
    ∀ ad, ao = some ad → ∀ j u, xs[j]? = some u → w.cell? (ad.add j) = some u := by
  intro ad had j u hj
  obtain ⟨hjl, hju⟩ := List.getElem?_eq_some_iff.1 hj
  have := hao (by omega)
  rw [this] at had
  simp only [Option.some.injEq] at had
  subst had
  have hadd : (⟨b, off, none⟩ : Addr).add j = ⟨b, off + j, none⟩ := by
    unfold Addr.add; split
    · simp_all
    · rfl
  rw [hadd, hc j hjl, hju]

/-- an owned row of one-cell elements is what a slice value holds. -/
theorem own_cells {w : World} {base n : Nat} {e : TypeId} {v : Value} {xs : List Value} (h1 : ∀ u ∈ xs, u.oneCell' = true) (h : w.ownsRow base e 1 v n xs) : CellsAt w v xs := by
  have hn : n = xs.length := by have := h.1; omega
  subst hn
  rcases h.2 with ⟨rfl, h0⟩ | ⟨g, cap, cur, rfl, hbg, hg, hnc, hcm, hcs, htake⟩
  · refine ⟨none, 0, 0, 0, by rw [h0], by omega, by unfold maxLen; omega, fun _ => ⟨h0, rfl⟩, fun h => by omega, h1, fun k hk => by omega⟩
  · refine ⟨_, g, 0, cap, rfl, hnc, hcm, fun h => by simp at h, fun _ => rfl, h1, fun k hk => ?_⟩
    rw [Nat.zero_add, h.cellAt k (by omega)]
    simp [hk]

theorem block_setCell' {w : World} {g k : Nat} {cur : Array Value} {e : TypeId} {u : Value} {fr : Nat × Nat} (h : w.heap[g]? = some (.cells cur e fr)) : (w.setCell ⟨g, k, none⟩ u).heap[g]? = some (.cells (cur.setIfInBounds k u) e fr) := by
  simp [World.setCell, Array.getElem?_modify, h]
theorem block_cell' {w : World} {g : Nat} {cur : Array Value} {e : TypeId} (h : w.heap[g]? = some (.cells cur e (0, 0))) (k : Nat) : w.cell? ⟨g, k, none⟩ = cur[k]? ∧ w.frozen? ⟨g, k, none⟩ = false := by
  unfold World.cell? World.frozen?
  simp only [h]
  simp

theorem own_val {w : World} {base n size : Nat} {e : TypeId} {v : Value} {xs : List Value} (h : w.ownsRow base e size v n xs) : ∃ ao cap, v = .slice ao n cap := by
  rcases h.2 with ⟨rfl, h0⟩ | ⟨g, cap, cur, rfl, _⟩
  · exact ⟨none, 0, by rw [h0]⟩
  · exact ⟨_, cap, rfl⟩
theorem ownsRow_base {w : World} {B B' n size : Nat} {e : TypeId} {v : Value} {xs : List Value} (h : w.ownsRow B e size v n xs) (hB : B' ≤ B) : w.ownsRow B' e size v n xs := by
  refine ⟨h.1, ?_⟩
  rcases h.2 with h0 | ⟨g, cap, cur, rfl, hb, rest⟩
  · exact .inl h0
  · exact .inr ⟨g, cap, cur, rfl, by omega, rest⟩

/-- append onto a slice of the call's own, from whatever source: the row's block is the elder one, or new. -/
theorem wpList_append_mine {P : Program} (w : World) {ops : Array Oper} {rest : List Oper} {o : Oper} {a : Act} {Q : Exit → Act → World → Prop} (hgd : o.guard = none) (s x : Operand) (t : TypeId)
    (ho : o.op = .call { callee := .builtin .append, args := #[s, x], argTypes := #[t, t] })
    (base : Nat) (e : TypeId) (i : TypeInfo) (z : Value) (size bytes : Nat) (ht : P.underlying t = some (.slice e)) (hi : P.info? e = some i) (hz : i.zero = some z)
    (hsize : i.size = size) (hby : i.bytes = bytes) (hzs : z.cells.size = size) (hsz : 0 < size)
    (v : Value) (n : Nat) (xs : List Value) (hs : a.eval s = v) (hown : w.ownsRow base e size v n xs)
    (ao : Option Addr) (m c : Nat) (news : List Value) (hx : a.eval x = .slice ao m c) (hl : news.length = m * size) (hnone : ao = none → m = 0 ∧ c = 0)
    (hnews : ∀ ad, ao = some ad → ∀ j u, news[j]? = some u → w.cell? (ad.add j) = some u) (h1 : ∀ u ∈ news, u.oneCell' = true)
    (h63 : n + m ≤ maxLen) (hbytes : (n + m) * bytes ≤ 140737488355328) (hbase : base ≤ w.heap.size)
    (h : ∀ v' w', w'.ownsRow base e size v' (n + m) (xs ++ news) → w.grownBy w' v.ownBlock → (∀ k, v'.ownBlock = some k → v.ownBlock = some k ∨ w.heap.size ≤ k) → wpList P ops Q rest (a.put o.dst v') w') : wpList P ops Q (o :: rest) a w := by
  cases ao with
  | none =>
    obtain ⟨rfl, rfl⟩ := hnone rfl
    have hn : news = [] := List.eq_nil_of_length_eq_zero (by simpa using hl)
    subst hn
    exact wpList_append_own_none hgd s x t ho base e i size ht hi v n xs hs hown hx (h v w (by simpa using hown) (World.grownBy.refl _ _) (fun k hk => .inl hk))
  | some ad =>
    rcases hown.2 with ⟨hv, hn0⟩ | ⟨g, cap, cur, hv, hbg, hg, hnc, hcm, hcs, htake⟩
    · by_cases hm : m = 0
      · refine wpList_append_own w hgd s x t ho base e i z size bytes ht hi hz hsize hby hzs hsz v n xs hs hown ad m c news hx hl (hnews ad rfl) h1 h63 hbytes hbase fun v' w' h2 h3 h4 => h v' w' h2 h3 ?_
        rw [h4.2 ⟨hv, hm⟩]; intro k hk; simp [Value.ownBlock] at hk
      · have hx0 : xs = [] := List.eq_nil_of_length_eq_zero (by have := hown.1; rw [hn0] at this; simpa using this)
        subst hx0; subst hn0
        refine wpList_append_grows w hgd s x t ho e i z size bytes ht hi hz hsize hby hzs hsz none 0 0 [] (by rw [hs, hv]) (fun _ => ⟨rfl, rfl⟩) (by simp) (fun b hb => by cases hb) ad m c news hx hl (hnews ad rfl) h1 (by omega) h63 hbytes fun v' w' h2 h3 => h v' w' (ownsRow_base h2 hbase) ?_ ?_
        · exact ⟨h3.os, h3.tape, h3.output, h3.size, fun k hk _ => h3.block k hk (by simp)⟩
        · exact fun k hk => .inr (h2.lt k hk).1
    · by_cases hroom : n + m ≤ cap
      · subst hv
        refine wpList_append_fits w hgd s x t ho base e i size ht hi hsize g n cap xs hs hown ad m c news hx hl (hnews ad rfl) h1 hroom fun w' h2 h3 => h _ w' h2 h3 (fun k hk => .inl hk)
      · subst hv
        refine wpList_append_grows w hgd s x t ho e i z size bytes ht hi hz hsize hby hzs hsz (some ⟨g, 0, none⟩) n cap xs hs (fun h => by cases h) hown.1 (fun b hb => by cases hb; exact hown.cells rfl) ad m c news hx hl (hnews ad rfl) h1 (by omega) h63 hbytes fun v' w' h2 h3 => h v' w' (ownsRow_base h2 hbase) ?_ ?_
        · exact ⟨h3.os, h3.tape, h3.output, h3.size, fun k hk _ => h3.block k hk (by simp)⟩
        · exact fun k hk => .inr (h2.lt k hk).1

theorem heap_setCells_at {g : Nat} {e : TypeId} {fr : Nat × Nat} : ∀ (vs : List Value) (o : Nat) (w : World) (cur : Array Value), w.heap[g]? = some (.cells cur e fr) → o + vs.length ≤ cur.size →
    (w.setCells g o vs).heap[g]? = some (.cells (cur.toList.take o ++ vs ++ cur.toList.drop (o + vs.length)).toArray e fr)
  | [], o, w, cur, h, _ => by simp [World.setCells, h]
  | v :: r, o, w, cur, h, hl => by
    simp only [List.length_cons] at hl
    unfold World.setCells
    rw [heap_setCells_at r (o + 1) _ _ (block_setCell' h) (by simp; omega)]
    congr 2
    have ho : o < cur.toList.length := by simp; omega
    simp only [Array.toList_setIfInBounds, List.length_cons]
    rw [List.take_set, List.drop_set, if_pos (by omega)]
    rw [show o + 1 + r.length = o + (r.length + 1) by omega]
    rw [List.take_succ_eq_append_getElem ho]
    have hlen : (List.take o cur.toList).length = o := by simp; omega
    rw [List.set_append_right _ _ (by omega)]
    simp [hlen]
/-- the first n cells of an owned row are written. -/
theorem keeps_setCells {w : World} {g : Nat} (vs : List Value) (o : Nat) : Keeps (fun k => k = g) w (w.setCells g o vs) := by
  induction vs generalizing o w with
  | nil => exact Keeps.refl _ _
  | cons v r ih => exact ((Keeps.refl (fun k => k = g) w).setCell (p := ⟨g, o, none⟩) rfl v).trans (ih (w := w.setCell ⟨g, o, none⟩ v) (o + 1))
theorem ownsRow_setCells {w : World} {B g n m cap : Nat} {e : TypeId} {xs vs : List Value} (h : w.ownsRow B e 1 (.slice (some ⟨g, 0, none⟩) n cap) n xs) (hl : vs.length = n) (hm : m ≤ n) :
    (w.setCells g 0 vs).ownsRow B e 1 (.slice (some ⟨g, 0, none⟩) m cap) m (vs.take m) := by
  rcases h.2 with ⟨h0, _⟩ | ⟨g', cap', cur, hv, hb, hg, hnc, hcm, hcs, _⟩
  · simp at h0
  · simp only [Value.slice.injEq, Option.some.injEq, Addr.mk.injEq, and_true, true_and] at hv
    obtain ⟨rfl, rfl⟩ := hv
    have hh := heap_setCells_at vs 0 w cur hg (by omega)
    refine ⟨by simp; omega, .inr ⟨g, cap, _, rfl, hb, hh, by omega, hcm, by simp; omega, ?_⟩⟩
    simp only [List.take_zero, List.nil_append, Nat.mul_one]
    rw [List.take_append_of_le_length (by omega)]

end Go.Proofs.YtkimkghldilliaaGreat
