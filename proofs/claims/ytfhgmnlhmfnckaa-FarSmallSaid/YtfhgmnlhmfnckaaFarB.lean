/-
  Package far: a record's methods.
-/
import Derived.Test.YtfhgmnlhmfnckaaFar
namespace Go.Proofs.Ytfhgmnlhmfnckaa
open Go.RowKit Go.Lib

theorem own_bytes {w : World} {B : Nat} {v : Value} {W : List UInt8} (h : w.ownsRow B 5 1 v W.length (bv W)) : BytesAt w v W := by
  rcases h.2 with ⟨rfl, h0⟩ | ⟨g, cap, cur, rfl, hbg, hg, hnc, hcm, hcs, htake⟩
  · exact ⟨none, 0, 0, 0, by rw [h0], by omega, by unfold maxLen; omega, fun _ => ⟨h0, rfl⟩, fun h => by omega, fun k hk => by omega⟩
  · refine ⟨_, g, 0, cap, rfl, hnc, hcm, (fun h => by cases h), fun _ => rfl, fun k hk => ?_⟩
    rw [h.cellAt (0 + k) (by omega)]
    simp [bv, hk]

/-- a record, opened at its innermost part. -/
theorem Far.open {H : Nat → Prop} {w : World} {a : Nat} {init : List Part} {p : Part} {W : List UInt8} (h : Far H w a (init ++ [p]) W) :
    ∃ g cap wv cs, w.heap[a]? = some (.cells #[.slice (some ⟨g, 0, none⟩) (init.length + 1) cap, wv] 68 (0, 0)) ∧ init.length + 1 ≤ cap ∧ cap ≤ 9223372036854775807 ∧
      w.heap[g]? = some (.cells cs 62 (0, 0)) ∧ (∀ j, j < 5 → cs[init.length * 5 + j]? = (pcs p)[j]?) ∧ H g ∧ BytesAt w wv W ∧
      ∀ w' q, Keeps (fun k => k = g) w w' → w'.heap[g]? = (w.setCells g (init.length * 5) (pcs q)).heap[g]? → Far H w' a (init ++ [q]) W := by
  obtain ⟨h1, h2, pv, wv, h3, h4, h5, h6, h7⟩ := h
  have hlen : (init ++ [p]).length = init.length + 1 := by simp
  rw [hlen] at h4
  have hne := own_ne' h3 (by decide) h4
  rcases h4.2 with ⟨_, h0⟩ | ⟨g, cap, cur, rfl, hbg, hg, hnc, hcm, hcs, htake⟩
  · omega
  · have hga : g ≠ a := fun e => hne (by simp [Value.ownBlock, e])
    have hgw := own_ne' hg (by decide) h5
    refine ⟨g, cap, wv, cur, h3, hnc, by unfold maxLen at hcm; omega, hg, ?_, h6 g rfl, own_bytes h5, ?_⟩
    · intro j hj
      rw [← Array.getElem?_toList]
      have e : cur.toList[init.length * 5 + j]? = (cur.toList.take ((init.length + 1) * 5))[init.length * 5 + j]? := by rw [List.getElem?_take_of_lt (by omega)]
      rw [e, htake, pcells_append, pcells_one, List.getElem?_append_right (by rw [pcells_len]; omega), pcells_len]
      congr 1
      omega
    · intro w' q hk hs
      have hsp := ownsRow_splice (xs := pcells init) (ys := pcs p) (zs := []) (vs := pcs q) (by rw [List.append_nil, ← pcells_one p, ← pcells_append]; exact h4) rfl
      rw [List.append_nil, ← pcells_one q, ← pcells_append, pcells_len] at hsp
      refine ⟨fun k hk' => Nat.lt_of_lt_of_le (h1 k hk') hk.size, h2, _, wv, hk.obj h3 (fun e => hga e.symm), ?_, hk.row h5 (fun k hk' e => hgw (by rw [hk', e])), h6, h7⟩
      have hl2 : (init ++ [q]).length = init.length + 1 := by simp
      rw [hl2]
      refine ⟨hsp.1, ?_⟩
      rcases hsp.2 with h0 | ⟨g', cap', cur', hv, hb', hg', rest⟩
      · exact .inl h0
      · simp only [Value.slice.injEq, Option.some.injEq, Addr.mk.injEq, and_true, true_and] at hv
        obtain ⟨rfl, rfl⟩ := hv
        exact .inr ⟨g, cap, cur', rfl, hb', hs.trans hg', rest⟩

set_option maxHeartbeats 400000 in
theorem far_Far {H : Nat → Prop} {a : Nat} {init : List Part} {p : Part} {W : List UInt8} (w : World) (h : Far H w a (init ++ [p]) W) :
    Calls Try.prog 12 #[.pointer (some ⟨a, 0, none⟩)] w fun e w' => e = .returned (.int .i64 p.1) ∧ Below w.heap.size w w' := by
  obtain ⟨g, cap, wv, cs, ha, hc, hm, hg, hcs, _, _, _⟩ := h.open
  obtain ⟨c0, _⟩ := block_cell' ha 0
  have hmade := Lib.hid (far_made w a (init.length + 1) cap _ c0 (by omega))
  have hlast := Lib.hid (far_last w a g init.length cap c0 hc hm)
  obtain ⟨⟨d0, _⟩, _⟩ := part_cells hg hcs
  clear hg hcs ha c0 h
  go_enter Try.func12, Try.ntmps12
  go_wp2_with (first | (go_at_call 37; refine hmade.out.mono ?_; rintro e w' ⟨rfl, rfl⟩) | (go_at_call 39; refine hlast.out.mono ?_; rintro e w' ⟨rfl, m, rfl⟩))
  go_ret
  exact ⟨rfl, below_draws (Below.refl _ _) _⟩

set_option maxHeartbeats 400000 in
theorem far_Hoped {H : Nat → Prop} {a : Nat} {init : List Part} {p : Part} {W : List UInt8} (w : World) (h : Far H w a (init ++ [p]) W) :
    Calls Try.prog 13 #[.pointer (some ⟨a, 0, none⟩)] w fun e w' => e = .returned (clv p.2) ∧ Below w.heap.size w w' := by
  have hal := h.1 a h.2.1
  obtain ⟨g, cap, wv, cs, ha, hc, hm, hg, hcs, hHg, _, _⟩ := h.open
  have hgl := h.1 g hHg
  obtain ⟨c0, _⟩ := block_cell' ha 0
  have hmade := Lib.hid (fun w1 (hb : Below w.heap.size w w1) => far_made w1 a (init.length + 1) cap _ (cell_later hb c0) (by omega))
  have hlast := Lib.hid (fun w1 (hb : Below w.heap.size w w1) => far_last w1 a g init.length cap (cell_later hb c0) hc hm)
  obtain ⟨_, ⟨d1, _⟩, ⟨d2, _⟩, ⟨d3, _⟩, ⟨d4, _⟩⟩ := part_cells hg hcs
  have hb1 := Lib.hid ((Below.refl w.heap.size w).alloc (Nat.le_refl _) (.cells #[.int .u64 0, .int .u64 0, .int .u64 0, .int .u64 0] 29 (0, 0)))
  clear hg hcs ha c0 h
  obtain ⟨⟨r0, f0⟩, ⟨r1, f1⟩, ⟨r2, f2⟩, ⟨r3, f3⟩⟩ := four_cells (heap_alloc_new w (.cells #[.int .u64 0, .int .u64 0, .int .u64 0, .int .u64 0] 29 (0, 0)))
  go_enter Try.func13, Try.ntmps13
  go_wp2_with (first | (go_at_call 37; refine (hmade.out _ hb1.out).mono ?_; rintro e w' ⟨rfl, rfl⟩) | (go_at_call 39; refine (hlast.out _ hb1.out).mono ?_; rintro e w' ⟨rfl, m, rfl⟩))
  have hst := store4 (w := (w.alloc (.cells #[.int .u64 0, .int .u64 0, .int .u64 0, .int .u64 0] 29 (0, 0))).drewN m) (u0 := .int .u64 (word p.2 0)) (u1 := .int .u64 (word p.2 1)) (u2 := .int .u64 (word p.2 2)) (u3 := .int .u64 (word p.2 3)) (heap_alloc_new w _)
  refine bodyPost_ret (results_cell_row rfl _ _ w.heap.size _ _ _ _ rfl hst Try.und_class rfl Try.size_class) rfl ⟨rfl, ?_⟩
  exact ((((((Keeps.refl (fun k => w.heap.size ≤ k) w).alloc _).drewN m).setCell (by simp) _).setCell (by simp) _).setCell (by simp) _ |>.setCell (by simp) _).below (Nat.le_refl _) (fun k hk => hk)

/-- does a place hold a byte of the class? -/
def hit (W : List UInt8) (c : Nat → Bool) (place : Int) : Bool := decide (place < W.length) && c (W.getD place.toNat 0).toNat
/-- what asking leaves of the parts. -/
def askP (W : List UInt8) (p : Part) (c : Nat → Bool) (place : Int) : Part := if hit W c place then p else missP p place c

/-- what asking needs of a record: its innermost part, and how it is written. -/
theorem Far.miss {H : Nat → Prop} {w : World} {a : Nat} {init : List Part} {p : Part} {W : List UInt8} (h : Far H w a (init ++ [p]) W) (place : Int) (c : Nat → Bool) :
    ∃ g cap wv, w.cell? ⟨a, 0, none⟩ = some (.slice (some ⟨g, 0, none⟩) (init.length + 1) cap) ∧ w.cell? ⟨a, 1, none⟩ = some wv ∧ BytesAt w wv W ∧
      (∀ w1, Below w.heap.size w w1 → Calls Try.prog 37 #[.pointer (some ⟨a, 0, none⟩)] w1 fun e w' => e = .returned (.bool true) ∧ w1 = w') ∧
      (∀ w1, Below w.heap.size w w1 → Calls Try.prog 39 #[.pointer (some ⟨a, 0, none⟩)] w1 fun e w' => e = .returned (.pointer (some ⟨g, init.length * 5, none⟩)) ∧ ∃ m, w' = w1.drewN m) ∧
      ∀ w1, Below w.heap.size w w1 → Calls Try.prog 40 #[.pointer (some ⟨g, init.length * 5, none⟩), .int .i64 place, clv c] w1 fun e w' => e = .returned (.tuple #[]) ∧ Far H w' a (init ++ [missP p place c]) W ∧ Keeps H w w' := by
  obtain ⟨g, cap, wv, cs, ha, hc, hm, hg, hcs, hHg, hW, hset⟩ := h.open
  have hgl := h.1 g hHg
  have c0 := (block_cell' ha 0).1
  refine ⟨g, cap, wv, c0, (block_cell' ha 1).1, hW, fun w1 hb => far_made w1 a (init.length + 1) cap _ (cell_later hb c0) (by omega), fun w1 hb => far_last w1 a g init.length cap (cell_later hb c0) hc hm, fun w1 hb => ?_⟩
  refine (part_miss w1 g (init.length * 5) cs p place c ((hb.block g hgl).trans hg) hcs).mono ?_
  rintro e w' ⟨rfl, h1, h2⟩
  have h4 := hcs 4 (by omega)
  have hl : init.length * 5 + 4 < cs.size := by
    rcases Nat.lt_or_ge (init.length * 5 + 4) cs.size with h | h
    · exact h
    · rw [Array.getElem?_eq_none h] at h4; simp [pcs] at h4
  have hk : Keeps (fun k => k = g) w w' := (Keeps.ofNew hb _).trans h2
  refine ⟨rfl, hset w' _ hk (h1.trans (setCells_block ((hb.block g hgl).trans hg) hg _ ?_)), hk.mono (fun k _ hk' => hk' ▸ hHg)⟩
  show init.length * 5 + 5 ≤ cs.size
  omega

set_option maxHeartbeats 4000000 in
theorem far_Set_miss {H : Nat → Prop} {a : Nat} {init : List Part} {p : Part} {W : List UInt8} (w : World) (c : Nat → Bool) (k : Nat) (h : Far H w a (init ++ [p]) W) (hlt : k < W.length) (hcb2 : c W[k].toNat = false) :
    Calls Try.prog 10 #[.pointer (some ⟨a, 0, none⟩), clv c, .int .i64 k] w fun e w' => e = .returned (.bool false) ∧ Far H w' a (init ++ [missP p k c]) W ∧ Keeps H w w' := by
  have hal := h.1 a h.2.1
  have HF := Lib.hid h
  obtain ⟨g, cap, wv, c0, c1, hW, hmade0, hlast0, hmiss0⟩ := h.miss k c
  have hmade := Lib.hid hmade0
  have hlast := Lib.hid hlast0
  obtain ⟨ao, b, off, cap2, rfl, hl2, hm2, _, hao, hcw⟩ := hW
  obtain rfl := hao (by omega)
  have hcb := hcw k hlt
  have hbl := World.block_lt_of_cell? _ _ hcb
  have hltI : (k : Int) < W.length := by omega
  have hHas0 := fun w1 => class_Has w1 c W[k]
  rw [hcb2] at hHas0
  unfold clv clc at hHas0 hmiss0 ⊢
  have hHas := Lib.hid hHas0
  have hmiss := Lib.hid hmiss0
  clear hHas0 hmiss0 hlast0 hmade0 h hcw hao hcb2
  go_enter Try.func10, Try.ntmps10
  go_wp2_with (go_at_call 37; refine (hmade.out _ ((Below.refl _ _).alloc (Nat.le_refl _) _)).mono ?_; rintro e w' ⟨rfl, rfl⟩)
  go_region_with (go_at_call 38; refine (hHas.out _).mono ?_; rintro e w' ⟨rfl, hb1⟩; have hB : Below w.heap.size w w' := (((Below.refl w.heap.size w).alloc (Nat.le_refl _) _).drew).trans (hb1.mono (by simp)); have k0 := hb1.block _ (heap_alloc_lt_drew _ _) |>.trans (heap_alloc_new_drew _ _); obtain ⟨⟨r0, _⟩, ⟨r1, _⟩, ⟨r2, _⟩, ⟨r3, _⟩⟩ := four_cells k0; clear k0 hb1)
  all_goals go_wp2
  all_goals go_region_with (first
    | (go_at_call 39; refine (hlast.out _ (by first | exact hB | exact hB.drew | exact below_draws hB _ | exact below_draws hB.drew _ | exact (below_draws hB.drew _).drew)).mono ?_; rintro e w'' ⟨rfl, m, rfl⟩)
    | (go_at_call 40; refine (hmiss.out _ (by first | exact hB | exact hB.drew | exact below_draws hB _ | exact below_draws hB.drew _ | exact (below_draws hB.drew _).drew)).mono ?_; rintro e w'' ⟨rfl, hF, hK⟩))
  all_goals go_wp2
  all_goals go_ret
  all_goals first
    | exact ⟨rfl, hF, hK⟩
    | exact ⟨rfl, hF.keep ((Keeps.refl (fun _ => False) _).drew) (fun _ _ h => h), hK.drew⟩
    | exact ⟨rfl, hF.keep ((Keeps.refl (fun _ => False) _).drewN _) (fun _ _ h => h), hK.drewN _⟩

set_option maxHeartbeats 4000000 in
theorem far_Set_hit {H : Nat → Prop} {a : Nat} {init : List Part} {p : Part} {W : List UInt8} (w : World) (c : Nat → Bool) (k : Nat) (h : Far H w a (init ++ [p]) W) (hlt : k < W.length) (hcb2 : c W[k].toNat = true) :
    Calls Try.prog 10 #[.pointer (some ⟨a, 0, none⟩), clv c, .int .i64 k] w fun e w' => e = .returned (.bool true) ∧ Far H w' a (init ++ [p]) W ∧ Keeps H w w' := by
  have hal := h.1 a h.2.1
  have HF := Lib.hid h
  obtain ⟨g, cap, wv, c0, c1, hW, hmade0, hlast0, hmiss0⟩ := h.miss k c
  have hmade := Lib.hid hmade0
  have hlast := Lib.hid hlast0
  obtain ⟨ao, b, off, cap2, rfl, hl2, hm2, _, hao, hcw⟩ := hW
  obtain rfl := hao (by omega)
  have hcb := hcw k hlt
  have hbl := World.block_lt_of_cell? _ _ hcb
  have hltI : (k : Int) < W.length := by omega
  have hHas0 := fun w1 => class_Has w1 c W[k]
  rw [hcb2] at hHas0
  unfold clv clc at hHas0 hmiss0 ⊢
  have hHas := Lib.hid hHas0
  have hmiss := Lib.hid hmiss0
  clear hHas0 hmiss0 hlast0 hmade0 h hcw hao hcb2
  go_enter Try.func10, Try.ntmps10
  go_wp2_with (go_at_call 37; refine (hmade.out _ ((Below.refl _ _).alloc (Nat.le_refl _) _)).mono ?_; rintro e w' ⟨rfl, rfl⟩)
  go_region_with (go_at_call 38; refine (hHas.out _).mono ?_; rintro e w' ⟨rfl, hb1⟩; have hB : Below w.heap.size w w' := (((Below.refl w.heap.size w).alloc (Nat.le_refl _) _).drew).trans (hb1.mono (by simp)); clear hb1)
  all_goals go_wp2
  all_goals go_ret
  all_goals first
    | exact ⟨rfl, HF.out.later hB, Keeps.ofNew hB _⟩
    | exact ⟨rfl, HF.out.later hB.drew, Keeps.ofNew hB.drew _⟩
    | exact ⟨rfl, HF.out.later (below_draws hB _), Keeps.ofNew (below_draws hB _) _⟩

end Go.Proofs.Ytfhgmnlhmfnckaa
