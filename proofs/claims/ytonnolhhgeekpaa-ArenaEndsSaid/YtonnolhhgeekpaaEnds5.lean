/-
  Chapter 05: ArenaEnds: rows of deeds of one's own, the ends.
-/
import Derived.Test.YtonnolhhgeekpaaNone5
import Derived.Test.YtonnolhhgeekpaaDoesW
import Derived.Deep.RegionHeld
import Derived.Deep.AppendLies
namespace Go.Proofs.Ytonnolhhgeekpaa
open Go.RowKit

theorem deedc_len (d : Deed) : (deedc d).length = 4 := rfl
theorem flat_len {α : Type} {f : α → List Value} {C : Nat} (hf : ∀ x, (f x).length = C) : ∀ l : List α, (l.flatMap f).length = l.length * C
  | [] => by simp
  | x :: r => by rw [List.flatMap_cons, List.length_append, flat_len hf r, hf, List.length_cons, Nat.add_mul]; omega
theorem flat_get {α : Type} {f : α → List Value} {C : Nat} (hf : ∀ x, (f x).length = C) : ∀ (l : List α) (i c : Nat) (h : i < l.length), c < C → (l.flatMap f)[i * C + c]? = (f l[i])[c]?
  | [], _, _, h, _ => by simp at h
  | x :: r, 0, c, _, hc => by
    rw [List.flatMap_cons, List.getElem?_append_left (by rw [hf]; omega)]
    simp
  | x :: r, i + 1, c, h, hc => by
    have e : (i + 1) * C + c = C + (i * C + c) := by rw [Nat.add_mul]; omega
    rw [List.flatMap_cons, e, List.getElem?_append_right (by rw [hf]; omega), hf, Nat.add_sub_cancel_left, flat_get hf r i c (by simpa using h) hc]
    simp
/-- a row that is owned, read. -/
theorem own_rows {α : Type} {f : α → List Value} {C : Nat} (hf : ∀ x, (f x).length = C) {w : World} {base : Nat} {e : TypeId} {v : Value} {n : Nat} {l : List α} (hn : n = l.length) (h : w.ownsRow base e C v n (l.flatMap f)) : RowsAt w C v (l.map f) := by
  subst hn
  rcases h.2 with ⟨rfl, h0⟩ | ⟨g, cap, cur, rfl, _, hg, hnc, hcm, hcs, ht⟩
  · exact ⟨none, 0, 0, 0, by simp [h0], by simp [h0], by unfold maxLen; omega, fun _ => by simp [h0], fun h => by simp [h0] at h, fun e he => by obtain ⟨x, _, rfl⟩ := List.mem_map.1 he; exact hf x, fun i hi => by simp [h0] at hi⟩
  · refine ⟨_, g, 0, cap, by simp, by simpa using hnc, hcm, fun h => by simp at h, fun _ => ⟨rfl, lt_of_block hg⟩, fun e he => by obtain ⟨x, _, rfl⟩ := List.mem_map.1 he; exact hf x, fun i hi j hj => ?_⟩
    simp only [List.length_map] at hi
    rw [(block_cell' hg _).1, List.getElem_map, ← flat_get hf l i j hi hj, Nat.zero_add]
    have hlt : i * C + j < l.length * C := by
      have h1 : (i + 1) * C ≤ l.length * C := Nat.mul_le_mul_right C hi
      rw [Nat.add_mul] at h1
      omega
    rw [← ht, List.getElem?_take_of_lt hlt]
    simp
/-- a deed of one's own. -/
def DO (w : World) (d : Deed) : Prop := (Lit.int .i64 d.what).wf = true ∧ w.ownsRow 0 3 1 d.v d.l.length (iv d.l) ∧ d.l.length ≤ 3
theorem DO.ok {w : World} {d : Deed} (h : DO w d) : DeedOk w d := ⟨h.1, own_cells (iv_oneCell _) h.2.1, by have := h.2.2; omega⟩
theorem DO.grown {w w' : World} {d : Deed} {B n size : Nat} {e : TypeId} {o : Obj} {v : Value} {xs : List Value} (h : DO w d) (hte : 3 ≠ e) (ho : w.ownsRow B e size v n xs) (hg : (w.alloc o).grownBy w' v.ownBlock) : DO w' d := by
  refine ⟨h.1, ⟨h.2.1.1, ?_⟩, h.2.2⟩
  rcases h.2.1.2 with h0 | ⟨g, cap, cur, hv, hb, hgg, rest⟩
  · exact .inl h0
  · exact .inr ⟨g, cap, cur, hv, hb, block_grown hgg hte ho hg, rest⟩
theorem DO.later {w w' : World} {d : Deed} (h : DO w d) (hb : Below w.heap.size w w') : DO w' d := by
  refine ⟨h.1, ⟨h.2.1.1, ?_⟩, h.2.2⟩
  rcases h.2.1.2 with h0 | ⟨g, cap, cur, hv, hbb, hgg, rest⟩
  · exact .inl h0
  · exact .inr ⟨g, cap, cur, hv, hbb, (hb.block _ (lt_of_block hgg)).trans hgg, rest⟩
theorem DO.nil (w : World) {wh n x : Int} (h : (Lit.int .i64 wh).wf = true) : DO w ⟨wh, n, x, .slice none 0 0, []⟩ := ⟨h, World.ownsRow_nil _ _ _ _, by simp⟩
theorem DO.block {w : World} {g : Nat} {wh n x : Int} {l : List Int} (h : (Lit.int .i64 wh).wf = true) (hg : w.heap[g]? = some (.cells (iv l).toArray 3 (0, 0))) (hl : l.length ≤ 3) : DO w ⟨wh, n, x, .slice (some ⟨g, 0, none⟩) l.length l.length, l⟩ := by
  refine ⟨h, ⟨by simp, .inr ⟨g, l.length, _, rfl, Nat.zero_le _, hg, Nat.le_refl _, ?_, by simp, ?_⟩⟩, hl⟩
  · show l.length ≤ _; unfold maxLen; omega
  · rw [List.take_of_length_le (by simp)]
theorem own_deeds {w : World} {B : Nat} {v : Value} {n : Nat} {l : List Deed} (hn : n = l.length) (h : w.ownsRow B 41 4 v n (l.flatMap deedc)) (ho : ∀ d ∈ l, DO w d) : DeedsAt w v l :=
  ⟨own_rows deedc_len hn h, fun d hd => (ho d hd).ok⟩
theorem own_lt {w : World} {base n size : Nat} {e : TypeId} {v : Value} {xs : List Value} (h : w.ownsRow base e size v n xs) : ∀ k, v.ownBlock = some k → base ≤ k ∧ k < w.heap.size := by
  intro k hk
  rcases h.2 with ⟨rfl, _⟩ | ⟨g, cap, cur, rfl, hb, hg, _⟩
  · simp [Value.ownBlock] at hk
  · simp only [Value.ownBlock, Option.some.injEq] at hk
    subst hk
    exact ⟨hb, lt_of_block hg⟩
/-- the ends. -/
def endsO : Obj := .cells #[.int .i64 (-9223372036854775808), .int .i64 (-1), .int .i64 0, .int .i64 1, .int .i64 2, .int .i64 3, .int .i64 9223372036854775807] 3 (0, 0)
def ends : Nat → Int := fun i => if i = 0 then -9223372036854775808 else if i = 1 then -1 else if i = 2 then 0 else if i = 3 then 1 else if i = 4 then 2 else if i = 5 then 3 else 9223372036854775807
theorem ends_cell {w : World} {x : Nat} (h : w.heap[x]? = some endsO) {i : Nat} (hi : i < 7) : w.cell? ⟨x, i, none⟩ = some (.int .i64 (ends i)) := by
  rw [(block_cell' h i).1]
  rcases (by omega : i = 0 ∨ i = 1 ∨ i = 2 ∨ i = 3 ∨ i = 4 ∨ i = 5 ∨ i = 6) with rfl | rfl | rfl | rfl | rfl | rfl | rfl <;> rfl
theorem Try.infoDeed5 : (Try.prog.info? 41).map (fun i => (i.zero, i.size, i.bytes)) = some (some (.agg #[.int .i64 0, .int .i64 0, .int .i64 0, .slice none 0 0]), 4, 48) := by kernel_rfl
/-- a row of naught, made. -/
def zeros (m : Nat) : List Int := List.replicate m 0
theorem make_zeros (m : Nat) (hm : m < 4) (w : World) : (Instr.makeSlice 22 (.int .i64 (m : Int)) (.int .i64 (m : Int))).run Try.prog w = .ok (.slice (some ⟨w.heap.size, 0, none⟩) m m) (w.alloc (.cells (iv (zeros m)).toArray 3)) := by
  obtain ⟨i0, hi, hz0, hz1, hz2⟩ := info_parts Try.infoInt
  rw [run_makeSlice w 22 3 i0 (.int .i64 0) Try.underlying22 hi hz0 .i64 .i64 (m : Int) (m : Int) (by omega) (Int.le_refl _) (by rw [hz1]; omega) (by rw [hz2]; omega) (by omega)]
  rw [hz1]
  rcases (by omega : m = 0 ∨ m = 1 ∨ m = 2 ∨ m = 3) with rfl | rfl | rfl | rfl <;> (simp [madeCells, zeros, Value.cells, Array.range_succ, Array.range_zero', List.replicate])

/-- what a round of the inner loop leaves. -/
theorem round_close {w wr wx w2 : World} {lv : Value} {l ds : List Deed} {g cap n m : Nat} {o : Obj} (hn : l.length = n) (hm : ds.length = m) (hW : Below w.heap.size w wr) (hown : wr.ownsRow w.heap.size 41 4 lv n (l.flatMap deedc)) (hb : Below wr.heap.size wr wx)
    (hl : ∀ d ∈ l, DO wr d) (hd : ∀ d ∈ ds, DO wx d) {E : Nat} (hE : wx.heap[E]? = some endsO)
    (hown2 : w2.ownsRow w.heap.size 41 4 (.slice (some ⟨g, 0, none⟩) (n + m) cap) (n + m) (l.flatMap deedc ++ ds.flatMap deedc)) (hgrow : (wx.alloc o).grownBy w2 lv.ownBlock) :
    Below w.heap.size w w2 ∧ w2.ownsRow w.heap.size 41 4 (.slice (some ⟨g, 0, none⟩) (n + m) cap) (n + m) ((l ++ ds).flatMap deedc) ∧ (∀ d ∈ l ++ ds, DO w2 d) ∧ w2.heap[E]? = some endsO := by
  have hox : wx.ownsRow w.heap.size 41 4 lv n (l.flatMap deedc) := (Keeps.ofNew hb (fun _ => False)).row hown (fun _ _ h => h)
  refine ⟨?_, by rw [List.flatMap_append]; exact hown2, fun d hd' => ?_, block_grown hE (by decide) hox hgrow⟩
  · have h1 : Below w.heap.size w (wx.alloc o) := (hW.trans (hb.mono hW.size)).alloc (hW.trans (hb.mono hW.size)).size _
    have hK : Keeps (fun k => w.heap.size ≤ k) w w2 := (Keeps.ofBelow h1).grown hgrow (fun k hk => (own_lt hown k hk).1)
    exact hK.below (Nat.le_refl _) (fun k hk => hk)
  · rcases List.mem_append.1 hd' with h | h
    · exact ((hl d h).later hb).grown (by decide) hox hgrow
    · exact (hd d h).grown (by decide) hox hgrow
theorem wpAnyH_less {P : Program} {md : Region.Mode} {ops : Array Oper} {Q : Exit → Act → World → Prop} {S S' : World → Prop} (hs : ∀ w, S' w → S w) :
    ∀ (fuel : Nat) (listed : Array Bool) (a : Act) (w : World), wpAnyH P md ops Q S' fuel listed a w → wpAnyH P md ops Q S fuel listed a w
  | 0, _, _, _, h => h
  | fuel + 1, _, _, _, h => ⟨h.1, fun i hi => wpOp_mono (fun a' w' h' => ⟨hs w' h'.1, wpAnyH_less hs fuel _ a' w' h'.2⟩) (h.2 i hi)⟩
theorem wpAnyH_gen {P : Program} {md : Region.Mode} {ops : Array Oper} {Q : Exit → Act → World → Prop} {S S' T : World → Prop} {fuel : Nat} {listed : Array Bool} {a : Act} {w : World} (hs : ∀ w, S' w → S w) (hT : T w)
    (h : ∀ w', T w' → wpAnyH P md ops Q S' fuel listed a w') : wpAnyH P md ops Q S fuel listed a w := wpAnyH_less hs fuel listed a w (h w hT)

theorem three_cells {w : World} {x : Nat} (h : w.heap[x]? = some (.cells #[.int .i64 7, .int .i64 8, .int .i64 9] 3 (0, 0))) : CellsAt w (.slice (some ⟨x, 0, none⟩) 3 3) (iv [7, 8, 9]) := by
  refine ⟨_, x, 0, 3, rfl, by simp, by unfold maxLen; omega, (fun h => by cases h), fun _ => rfl, iv_oneCell _, fun k hk => ?_⟩
  have hk' : k < 3 := hk
  rw [Nat.zero_add, (block_cell' h k).1]
  rcases (by omega : k = 0 ∨ k = 1 ∨ k = 2) with rfl | rfl | rfl <;> rfl
theorem new_max (w : World) : Calls Try.prog 8 #[.int .i64 9223372036854775807] w fun e w' => ∃ M : Nat, 3 ≤ M ∧ e = .returned (.pointer (some ⟨w.heap.size, 0, none⟩)) ∧ IAr w.heap.size w' w.heap.size (.slice none 0 0) (iv []) M 0 ∧ Below w.heap.size w w' :=
  (Inew 9223372036854775807 w (by omega)).mono fun _ _ h => ⟨9223372036854775807, by omega, h⟩
end Go.Proofs.Ytonnolhhgeekpaa
