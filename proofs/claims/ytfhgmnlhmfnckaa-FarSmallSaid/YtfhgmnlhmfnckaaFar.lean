/-
  Package far: a record of what was asked: what its methods do.
-/
import Derived.Test.YtfhgmnlhmfnckaaClass
import Derived.Test.YtfhgmnlhmfnckaaBytes
namespace Go.Proofs.Ytfhgmnlhmfnckaa
open Go.RowKit Go.Lib

/-- a part: the farthest place, what is hoped for there. -/
abbrev Part := Int × (Nat → Bool)
def pcs (p : Part) : List Value := [.int .i64 p.1, .int .u64 (word p.2 0), .int .u64 (word p.2 1), .int .u64 (word p.2 2), .int .u64 (word p.2 3)]
def pcells (ps : List Part) : List Value := ps.flatMap pcs
theorem pcells_len (ps : List Part) : (pcells ps).length = ps.length * 5 := by
  unfold pcells
  induction ps with
  | nil => rfl
  | cons p r ih => rw [List.flatMap_cons, List.length_append, ih, List.length_cons]; simp [pcs]; omega
theorem pcells_append (ps qs : List Part) : pcells (ps ++ qs) = pcells ps ++ pcells qs := by simp [pcells]
theorem pcells_one (p : Part) : pcells [p] = pcs p := by simp [pcells]

/-- a place was missed. -/
def missP (p : Part) (place : Int) (c : Nat → Bool) : Part := if p.1 < place then (place, c) else if place = p.1 then (p.1, clOr p.2 c) else p

/-- some cells of a row are written. -/
theorem ownsRow_splice {w : World} {B g n cap size : Nat} {e : TypeId} {xs ys zs vs : List Value} (h : w.ownsRow B e size (.slice (some ⟨g, 0, none⟩) n cap) n (xs ++ ys ++ zs)) (hl : vs.length = ys.length) :
    (w.setCells g xs.length vs).ownsRow B e size (.slice (some ⟨g, 0, none⟩) n cap) n (xs ++ vs ++ zs) := by
  obtain ⟨h1, h2⟩ := h
  refine ⟨by simp only [List.length_append] at h1 ⊢; omega, ?_⟩
  rcases h2 with ⟨h0, _⟩ | ⟨g', cap', cur, hv, hb, hg, hnc, hcm, hcs, ht⟩
  · simp at h0
  · simp only [Value.slice.injEq, Option.some.injEq, Addr.mk.injEq, and_true, true_and] at hv
    obtain ⟨rfl, rfl⟩ := hv
    have hsz : n * size ≤ cap * size := Nat.mul_le_mul_right _ hnc
    have hlen : xs.length + ys.length + zs.length = n * size := by simp only [List.length_append] at h1; omega
    have hh := heap_setCells_at vs xs.length w cur hg (by omega)
    refine .inr ⟨g, cap, _, rfl, hb, hh, hnc, hcm, ?_, ?_⟩
    · simp; omega
    · have hcur : cur.toList = xs ++ ys ++ zs ++ cur.toList.drop (n * size) := by rw [← ht, List.take_append_drop]
      simp only
      rw [hcur]
      have e1 : (xs ++ ys ++ zs ++ cur.toList.drop (n * size)).take xs.length = xs := by simp
      have e2 : (xs ++ ys ++ zs ++ cur.toList.drop (n * size)).drop (xs.length + vs.length) = zs ++ cur.toList.drop (n * size) := by
        rw [hl, List.append_assoc, List.append_assoc, List.drop_append, List.drop_eq_nil_of_le (by omega)]
        simp
      rw [e1, e2]
      have e3 : (xs ++ vs ++ (zs ++ cur.toList.drop (n * size))) = (xs ++ vs ++ zs) ++ cur.toList.drop (n * size) := by simp
      rw [e3, List.take_append_of_le_length (by simp; omega), List.take_of_length_le (by simp; omega)]

/-- a record in memory: its blocks H, its block a, its parts, its input. -/
def Far (H : Nat → Prop) (w : World) (a : Nat) (ps : List Part) (W : List UInt8) : Prop :=
  (∀ k, H k → k < w.heap.size) ∧ H a ∧ ∃ pv wv, w.heap[a]? = some (.cells #[pv, wv] 68 (0, 0)) ∧ w.ownsRow 0 62 5 pv ps.length (pcells ps) ∧ w.ownsRow 0 5 1 wv W.length (bv W) ∧
    (∀ k, pv.ownBlock = some k → H k) ∧ (∀ k, wv.ownBlock = some k → H k)
theorem Far.keep {H S : Nat → Prop} {w w' : World} {a : Nat} {ps : List Part} {W : List UInt8} (h : Far H w a ps W) (hk : Keeps S w w') (hs : ∀ k, H k → ¬ S k) : Far H w' a ps W := by
  obtain ⟨h1, h2, pv, wv, h3, h4, h5, h6, h7⟩ := h
  exact ⟨fun k hk' => Nat.lt_of_lt_of_le (h1 k hk') hk.size, h2, pv, wv, hk.obj h3 (hs a h2), hk.row h4 (fun k hk' => hs k (h6 k hk')), hk.row h5 (fun k hk' => hs k (h7 k hk')), h6, h7⟩
theorem Far.later {H : Nat → Prop} {w w' : World} {a : Nat} {ps : List Part} {W : List UInt8} (h : Far H w a ps W) (hk : Below w.heap.size w w') : Far H w' a ps W :=
  h.keep (Keeps.ofBelow hk) (fun k hk' => by have := h.1 k hk'; omega)

theorem Try.size_part : (Try.prog.info? 62).map (·.size) = some 5 := by kernel_rfl
set_option maxHeartbeats 400000 in
theorem far_fresh (w : World) : Calls Try.prog 35 #[] w fun e w' => e = .returned (.agg #[.int .i64 (-1), .int .u64 0, .int .u64 0, .int .u64 0, .int .u64 0]) ∧ Below w.heap.size w w' := by
  go_enter Try.func35, Try.ntmps35
  go_wp2
  refine bodyPost_ret (results_cell_row rfl _ _ w.heap.size _ _ _ _ rfl (heap_alloc_new _ _) Try.underlying62 rfl Try.size_part) rfl ⟨rfl, (Below.refl _ _).alloc (Nat.le_refl _) _⟩

set_option maxHeartbeats 400000 in
theorem far_made (w : World) (a n cap : Nat) (ao : Option Addr) (h : w.cell? ⟨a, 0, none⟩ = some (.slice ao n cap)) (hn : 0 < n) :
    Calls Try.prog 37 #[.pointer (some ⟨a, 0, none⟩)] w fun e w' => e = .returned (.bool true) ∧ w = w' := by
  have hn' : (0 : Int) < n := by omega
  go_enter Try.func37, Try.ntmps37
  go_wp2
  go_ret
  exact ⟨rfl, rfl⟩

set_option maxHeartbeats 400000 in
theorem far_last (w : World) (a g n cap : Nat) (h : w.cell? ⟨a, 0, none⟩ = some (.slice (some ⟨g, 0, none⟩) (n + 1) cap)) (hc : n + 1 ≤ cap) (hm : cap ≤ 9223372036854775807) :
    Calls Try.prog 39 #[.pointer (some ⟨a, 0, none⟩)] w fun e w' => e = .returned (.pointer (some ⟨g, n * 5, none⟩)) ∧ ∃ m, w' = w.drewN m := by
  have hsub : IntKind.i64.wrap (((n + 1 : Nat) : Int) - 1) = n := by rw [IntWalk.i64_in _ (by omega)]; omega
  have hsub' : IntKind.i64.wrap ((n : Int) + 1 - 1) = n := by rw [IntWalk.i64_in _ (by omega)]; omega
  have hlt : (n : Int) < ((n + 1 : Nat) : Int) := by omega
  go_enter Try.func39, Try.ntmps39
  go_wp2
  go_quiet (fail)
  go_wp2
  go_ret
  exact ⟨rfl, _, rfl⟩

theorem size_setCells {g : Nat} : ∀ (vs : List Value) (o : Nat) (w : World), (w.setCells g o vs).heap.size = w.heap.size
  | [], _, _ => rfl
  | v :: r, o, w => by unfold World.setCells; rw [size_setCells r]; simp [World.setCell]
theorem setCells_same {w : World} {g o : Nat} {cs : Array Value} {p : Part} {t : TypeId} {fr : Nat × Nat} (hb : w.heap[g]? = some (.cells cs t fr)) (hcs : ∀ j, j < 5 → cs[o + j]? = (pcs p)[j]?) :
    (w.setCells g o (pcs p)).heap[g]? = w.heap[g]? := by
  have h4 := hcs 4 (by omega)
  have hl : o + 4 < cs.size := by
    rcases Nat.lt_or_ge (o + 4) cs.size with h | h
    · exact h
    · rw [Array.getElem?_eq_none h] at h4; simp [pcs] at h4
  rw [heap_setCells_at (pcs p) o w cs hb (by simp [pcs]; omega), hb]
  congr 2
  apply Array.ext'
  simp only
  have e : pcs p = (cs.toList.drop o).take 5 := by
    apply List.ext_getElem?
    intro i
    by_cases hi : i < 5
    · have := hcs i hi
      rw [← Array.getElem?_toList] at this
      rw [List.getElem?_take_of_lt hi, List.getElem?_drop, this]
    · rw [List.getElem?_eq_none (by simp [pcs]; omega), List.getElem?_eq_none (by simp; omega)]
  have hlen : (pcs p).length = 5 := rfl
  rw [hlen, e, ← List.drop_drop, List.append_assoc, List.take_append_drop, List.take_append_drop]

theorem part_cells {w : World} {g o : Nat} {cs : Array Value} {p : Part} {t : TypeId} (hb : w.heap[g]? = some (.cells cs t (0, 0))) (hcs : ∀ j, j < 5 → cs[o + j]? = (pcs p)[j]?) :
    (w.cell? ⟨g, o, none⟩ = some (.int .i64 p.1) ∧ w.frozen? ⟨g, o, none⟩ = false) ∧ (w.cell? ⟨g, o + 1, none⟩ = some (.int .u64 (word p.2 0)) ∧ w.frozen? ⟨g, o + 1, none⟩ = false) ∧ (w.cell? ⟨g, o + 2, none⟩ = some (.int .u64 (word p.2 1)) ∧ w.frozen? ⟨g, o + 2, none⟩ = false) ∧
      (w.cell? ⟨g, o + 3, none⟩ = some (.int .u64 (word p.2 2)) ∧ w.frozen? ⟨g, o + 3, none⟩ = false) ∧ w.cell? ⟨g, o + 4, none⟩ = some (.int .u64 (word p.2 3)) ∧ w.frozen? ⟨g, o + 4, none⟩ = false := by
  have h := fun j => block_cell' hb (o + j)
  refine ⟨⟨(h 0).1.trans (hcs 0 (by omega)), (h 0).2⟩, ⟨(h 1).1.trans (hcs 1 (by omega)), (h 1).2⟩, ⟨(h 2).1.trans (hcs 2 (by omega)), (h 2).2⟩, ⟨(h 3).1.trans (hcs 3 (by omega)), (h 3).2⟩, (h 4).1.trans (hcs 4 (by omega)), (h 4).2⟩
theorem cls_two {w : World} {g : Nat} {s c : Nat → Bool} {t : TypeId} (h : w.heap[g]? = some (.cells #[.int .u64 (word s 0), .int .u64 (word s 1), .int .u64 (word s 2), .int .u64 (word s 3), .int .u64 (word c 0), .int .u64 (word c 1), .int .u64 (word c 2), .int .u64 (word c 3)] t (0, 0))) :
    ClsAt w (.slice (some ⟨g, 0, none⟩) 2 2) [s, c] := by
  refine ⟨_, g, 0, 2, rfl, Nat.le_refl _, by unfold maxLen; omega, (fun h => by cases h), fun _ => ⟨rfl, lt_of_block h⟩, fun k hk j hj => ?_⟩
  rw [(block_cell' h _).1]
  have hk' : k < 2 := hk
  rcases (by omega : k = 0 ∨ k = 1) with rfl | rfl <;> rcases (by omega : j = 0 ∨ j = 1 ∨ j = 2 ∨ j = 3) with rfl | rfl | rfl | rfl <;> rfl

theorem heap_alloc2_drew (w : World) (A B : Obj) : (((w.alloc A).alloc B).drew).heap[w.heap.size + 1]? = some B := heap_alloc2_new w A B
theorem heap_alloc_new_drew (w : World) (A : Obj) : ((w.alloc A).drew).heap[w.heap.size]? = some A := heap_alloc_new w A
theorem heap_alloc_lt_drew (w : World) (A : Obj) : w.heap.size < ((w.alloc A).drew).heap.size := by
  show w.heap.size < (w.alloc A).heap.size
  simp
theorem heap_old2_drew {w : World} {A B : Obj} {g : Nat} (h : g < w.heap.size) : (((w.alloc A).alloc B).drew).heap[g]? = w.heap[g]? := by
  show ((w.alloc A).alloc B).heap[g]? = _
  rw [Below.heap_alloc _ _ _ (by simp; omega), Below.heap_alloc _ _ _ h]
theorem size_alloc2_drew {w : World} {A B : Obj} {g : Nat} (h : g < w.heap.size) : g < (((w.alloc A).alloc B).drew).heap.size := by
  show g < ((w.alloc A).alloc B).heap.size
  simp; omega

theorem clFold_two (s c : Nat → Bool) : clFold clNone [s, c] = clOr s c := by funext b; simp [clFold, clOr, clNone]
def wcells (c : Nat → Bool) : List Value := [.int .u64 (word c 0), .int .u64 (word c 1), .int .u64 (word c 2), .int .u64 (word c 3)]
theorem pcs_wcells (p : Part) : pcs p = .int .i64 p.1 :: wcells p.2 := rfl
theorem wcells_len (c : Nat → Bool) : (wcells c).length = 4 := rfl
theorem setCells_block {w w' : World} {g o : Nat} {cs : Array Value} {t : TypeId} {fr : Nat × Nat} (hb' : w'.heap[g]? = some (.cells cs t fr)) (hb : w.heap[g]? = some (.cells cs t fr)) (vs : List Value) (hl : o + vs.length ≤ cs.size) :
    (w'.setCells g o vs).heap[g]? = (w.setCells g o vs).heap[g]? := by
  rw [heap_setCells_at vs o w' cs hb' hl, heap_setCells_at vs o w cs hb hl]
theorem hoped_set {w w' : World} {g o : Nat} {cs : Array Value} {p : Part} {t : TypeId} {fr : Nat × Nat} (hb' : w'.heap[g]? = some (.cells cs t fr)) (hb : w.heap[g]? = some (.cells cs t fr)) (hcs : ∀ j, j < 5 → cs[o + j]? = (pcs p)[j]?) (c : Nat → Bool) :
    (w'.setCells g (o + 1) (wcells c)).heap[g]? = (w.setCells g o (pcs (p.1, c))).heap[g]? := by
  have h4 := hcs 4 (by omega)
  have hl : o + 4 < cs.size := by
    rcases Nat.lt_or_ge (o + 4) cs.size with h | h
    · exact h
    · rw [Array.getElem?_eq_none h] at h4; simp [pcs] at h4
  have h0 : cs.setIfInBounds o (.int .i64 p.1) = cs := by
    have h0 := hcs 0 (by omega)
    rw [Nat.add_zero, Array.getElem?_eq_getElem (by omega)] at h0
    have h0' : cs[o]'(by omega) = .int .i64 p.1 := by simpa [pcs] using h0
    apply Array.ext
    · simp
    · intro i h1 h2
      by_cases h : o = i
      · subst h; rw [Array.getElem_setIfInBounds_self]; exact h0'.symm
      · rw [Array.getElem_setIfInBounds_ne h2 h]
  have hs : (w.setCell ⟨g, o, none⟩ (.int .i64 p.1)).heap[g]? = some (.cells cs t fr) := by rw [block_setCell' hb, h0]
  rw [pcs_wcells, World.setCells]
  exact setCells_block hb' hs _ (by rw [wcells_len]; omega)

set_option maxHeartbeats 1000000 in
theorem part_miss (w : World) (g o : Nat) (cs : Array Value) (p : Part) (place : Int) (c : Nat → Bool) (hb : w.heap[g]? = some (.cells cs 62 (0, 0))) (hcs : ∀ j, j < 5 → cs[o + j]? = (pcs p)[j]?) :
    Calls Try.prog 40 #[.pointer (some ⟨g, o, none⟩), .int .i64 place, clv c] w fun e w' => e = .returned (.tuple #[]) ∧ w'.heap[g]? = (w.setCells g o (pcs (missP p place c))).heap[g]? ∧ Keeps (fun k => k = g) w w' := by
  have hgl := lt_of_block hb
  obtain ⟨f, s⟩ := p
  obtain ⟨⟨c0, f0⟩, ⟨c1, f1⟩, ⟨c2, f2⟩, ⟨c3, f3⟩, ⟨c4, f4⟩⟩ := part_cells hb hcs
  simp only at c0 c1 c2 c3 c4
  have HB := Lib.hid hb
  have HC := Lib.hid hcs
  clear hb hcs
  unfold clv clc
  by_cases h1 : f < place
  · have h1' : place > f := h1
    go_enter Try.func40, Try.ntmps40
    go_wp2
    go_region_with (fail)
    all_goals go_wp2
    all_goals go_end0
    all_goals
      refine ⟨rfl, ?_, ?_⟩
      · rw [show missP (f, s) place c = (place, c) from if_pos h1]
        exact Below.heap_alloc (w.setCells g o (pcs (place, c))) _ _ (by rw [size_setCells]; exact hgl)
      · exact ((keeps_setCells (w := w) (g := g) (pcs (place, c)) o).alloc _).drew
  · by_cases h2 : place = f
    · subst h2
      have h1' : ¬ place > place := h1
      go_enter Try.func40, Try.ntmps40
      go_wp2
      have HG := Lib.hid hgl
      go_region_with (go_at_call 52; refine (class_Or _ [s, c] _ (cls_two (heap_alloc2_drew _ _ _))).mono ?_; rintro e w' ⟨rfl, hb⟩; obtain ⟨⟨d0, e0⟩, ⟨d1, e1⟩, ⟨d2, e2⟩, ⟨d3, e3⟩, ⟨d4, e4⟩⟩ := part_cells (p := (place, s)) ((hb.block g (size_alloc2_drew HG.out)).trans ((heap_old2_drew HG.out).trans HB.out)) HC.out; rw [clFold_two]; simp only [clv, clc])
      all_goals go_wp2
      all_goals go_end0
      all_goals
        refine ⟨rfl, ?_, ?_⟩
        · rw [show missP (place, s) place c = (place, clOr s c) from by unfold missP; simp]
          exact hoped_set ((hb.block g (size_alloc2_drew HG.out)).trans ((heap_old2_drew HG.out).trans HB.out)) HB.out HC.out (clOr s c)
        · exact ((((Keeps.refl (fun k => k = g) w).alloc _).alloc _).drew.trans (Keeps.ofNew hb _)).trans (keeps_setCells (w := w') (g := g) [.int .u64 (word (clOr s c) 0), .int .u64 (word (clOr s c) 1), .int .u64 (word (clOr s c) 2), .int .u64 (word (clOr s c) 3)] (o + 1))
    · have h1' : ¬ place > f := h1
      go_enter Try.func40, Try.ntmps40
      go_wp2
      go_end0
      refine ⟨rfl, ?_, (Keeps.refl _ _).alloc _⟩
      rw [show missP (f, s) place c = (f, s) from by unfold missP; simp only []; rw [if_neg (by omega), if_neg h2], Below.heap_alloc _ _ _ hgl]
      exact (setCells_same HB.out HC.out).symm
end Go.Proofs.Ytfhgmnlhmfnckaa
