/-
  Package far: a record's methods: parts begin and end; new records.
-/
import Derived.Test.YtfhgmnlhmfnckaaFarD
import Derived.Deep.RegionLaw
import Derived.Deep.AppendLies
namespace Go.Proofs.Ytfhgmnlhmfnckaa
open Go.RowKit Go.Lib

theorem Try.infoPart : (Try.prog.info? 62).map (fun i => (i.zero, i.size, i.bytes)) = some (some (.agg #[.int .i64 0, .int .u64 0, .int .u64 0, .int .u64 0, .int .u64 0]), 5, 40) := by kernel_rfl
theorem pcs_fresh : pcs (-1, clNone) = [.int .i64 (-1), .int .u64 0, .int .u64 0, .int .u64 0, .int .u64 0] := by
  have h := clc_none
  simp only [clc, Array.mk.injEq, List.cons.injEq, Value.int.injEq, and_true, true_and] at h
  obtain ⟨h0, h1, h2, h3⟩ := h
  simp only [pcs, h0, h1, h2, h3]
theorem keep_cell {w w' : World} {a : Nat} {pv : Value} (hb : Below w.heap.size w w') (hc : w.cell? ⟨a, 0, none⟩ = some pv) (hf : w.frozen? ⟨a, 0, none⟩ = false) : w'.cell? ⟨a, 0, none⟩ = some pv ∧ w'.frozen? ⟨a, 0, none⟩ = false :=
  ⟨cell_later hb hc, (hb.frozen (p := ⟨a, 0, none⟩) (World.block_lt_of_cell? (a := ⟨a, 0, none⟩) _ hc)).trans hf⟩
/-- the blocks of a record, and new ones. -/
def AndNew (H : Nat → Prop) (w w' : World) : Nat → Prop := fun k => H k ∨ (w.heap.size ≤ k ∧ k < w'.heap.size)

theorem own_apart {w : World} {B B' n n' size size' : Nat} {e e' : TypeId} {v v' : Value} {xs xs' : List Value} (h : w.ownsRow B e size v n xs) (h' : w.ownsRow B' e' size' v' n' xs') (hne : e' ≠ e) : ∀ k, v'.ownBlock = some k → v.ownBlock ≠ some k := by
  intro k hk
  rcases h'.2 with ⟨rfl, _⟩ | ⟨g, cap, cur, rfl, _, hg, _⟩
  · simp [Value.ownBlock] at hk
  · simp [Value.ownBlock] at hk; subst hk; exact own_ne' hg hne h

theorem begin_close {H : Nat → Prop} {a g cap : Nat} {ps : List Part} {W : List UInt8} {w w1 w2 : World} {pv : Value} {o : Obj} (h : Far H w a ps W) (hc : w.cell? ⟨a, 0, none⟩ = some pv) (hb : Below w.heap.size w w1)
    (hown : w2.ownsRow 0 62 5 (.slice (some ⟨g, 0, none⟩) (ps.length + 1) cap) (ps.length + 1) (pcells ps ++ [.int .i64 (-1), .int .u64 0, .int .u64 0, .int .u64 0, .int .u64 0]))
    (hgrow : (w1.alloc o).grownBy w2 pv.ownBlock) (hat : pv.ownBlock = some g ∨ g = w1.heap.size + 1) :
    Far (AndNew H w (w2.setCell ⟨a, 0, none⟩ (.slice (some ⟨g, 0, none⟩) (ps.length + 1) cap))) (w2.setCell ⟨a, 0, none⟩ (.slice (some ⟨g, 0, none⟩) (ps.length + 1) cap)) a (ps ++ [(-1, clNone)]) W ∧
      Keeps H w (w2.setCell ⟨a, 0, none⟩ (.slice (some ⟨g, 0, none⟩) (ps.length + 1) cap)) := by
  obtain ⟨h1, h2, pv', wv, h3, h4, h5, h6, h7⟩ := h
  have hpv : pv' = pv := by
    have := (block_cell' h3 0).1
    rw [hc] at this
    simpa using this.symm
  subst hpv
  have hK2 : Keeps (fun k => pv'.ownBlock = some k) w w2 := ((Keeps.ofNew hb _).alloc o).grown hgrow (fun k hk => hk)
  have hne := own_ne' h3 (by decide) h4
  have h3' := hK2.obj h3 hne
  have hga := own_ne' h3' (by decide) hown
  have hset : Keeps (fun k => k = a) w2 (w2.setCell ⟨a, 0, none⟩ (.slice (some ⟨g, 0, none⟩) (ps.length + 1) cap)) := (Keeps.refl (fun k => k = a) w2).setCell (p := ⟨a, 0, none⟩) rfl _
  have hKH : Keeps H w (w2.setCell ⟨a, 0, none⟩ (.slice (some ⟨g, 0, none⟩) (ps.length + 1) cap)) := (hK2.mono (fun k _ hk => h6 k hk)).trans (hset.mono (fun k _ hk => hk ▸ h2))
  have hsz2 : g < w2.heap.size := (hown.lt g rfl).2
  refine ⟨⟨?_, .inl h2, _, wv, block_setCell' h3', ?_, ?_, ?_, ?_⟩, hKH⟩
  · rintro k (hk | hk)
    · exact Nat.lt_of_lt_of_le (h1 k hk) hKH.size
    · exact hk.2
  · have hr := hset.row hown (fun k hk e => hga (by rw [hk, e]))
    rw [List.length_append, List.length_singleton, pcells_append, pcells_one, pcs_fresh]
    exact hr
  · have := (hK2.row h5 (fun k hk => own_apart h4 h5 (by decide) k hk))
    exact hset.row this (fun k hk e => own_ne' h3 (by decide) h5 (by rw [hk, e]))
  · intro k hk
    simp only [Value.ownBlock, Option.some.injEq] at hk
    subst hk
    rcases hat with hat | hat
    · exact .inl (h6 _ hat)
    · refine .inr ⟨by have := hb.size; omega, by simpa [World.setCell] using hsz2⟩
  · exact fun k hk => .inl (h7 k hk)

set_option maxHeartbeats 1000000 in
theorem far_begin {H : Nat → Prop} {a : Nat} {ps : List Part} {W : List UInt8} (w : World) (h : Far H w a ps W) (hn : ps.length ≤ 1000000) :
    Calls Try.prog 41 #[.pointer (some ⟨a, 0, none⟩)] w fun e w' => e = .returned (.tuple #[]) ∧ Far (AndNew H w w') w' a (ps ++ [(-1, clNone)]) W ∧ Keeps H w w' := by
  have HF := Lib.hid h
  obtain ⟨h1, h2, pv, wv, h3, h4, h5, h6, h7⟩ := h
  obtain ⟨i0, hi0, hz0, hz1, hz2⟩ := info_parts Try.infoPart
  obtain ⟨c0, f0⟩ := block_cell' h3 0
  have hal := h1 a h2
  have hne := own_ne' h3 (by decide) h4
  have Hn := Lib.hid hn
  have Hne := Lib.hid hne
  have hc0 : w.cell? ⟨a, 0, none⟩ = some pv := c0
  clear h1 h3 h5 h6 h7 hn hne c0
  go_enter Try.func41, Try.ntmps41
  go_wp2_with fail
  go_region_law (first
    | (refine step_append_lies _ (by rfl) _ _ _ (by rfl) 0 62 i0 _ 5 40 Try.underlying64 hi0 hz0 hz1 hz2 rfl (by omega) pv ps.length (pcells ps) (by rfl) (((Keeps.ofNew hb2 (fun _ => False)).row h4 (fun _ _ h => h)).alloc _)
          ⟨w1.heap.size, 0, none⟩ 1 1 [.int .i64 (-1), .int .u64 0, .int .u64 0, .int .u64 0, .int .u64 0] (by rfl) (by rfl) (World.news_of_block (cs := #[.int .i64 (-1), .int .u64 0, .int .u64 0, .int .u64 0, .int .u64 0]) (t := 62) (fr := (0, 0)) (heap_alloc_new w1 _)) (by simp [Value.oneCell'])
          (by omega) (by have := Hn.out; unfold maxLen; omega) (by have := Hn.out; omega) (by omega) (w1.heap.size + 1) (by simp) ?_; intro g cap w2 hown2 hgrow hat hlt; obtain ⟨d0, d1⟩ := keep_cell (hb2.alloc hb2.size (.cells #[.int .i64 (-1), .int .u64 0, .int .u64 0, .int .u64 0, .int .u64 0] 62 (0, 0))) hc0 f0; have e0 := (hgrow.cell_far ⟨a, 0, none⟩ (by simp; have := hb2.size; omega) (Ne.symm Hne.out)).trans d0; have e1 := (hgrow.frozen_far ⟨a, 0, none⟩ (by simp; have := hb2.size; omega) (Ne.symm Hne.out)).trans d1; clear d0 d1)
    | (go_simp; go_at_call 35; refine (far_fresh _).mono ?_; rintro e w1 ⟨rfl, hb1⟩; have hb2 : Below w.heap.size w w1 := (Below.refl w.heap.size w).drew.trans hb1; obtain ⟨k0, k1⟩ := keep_cell hb2 hc0 f0; have hal1 : a < w1.heap.size := Nat.lt_of_lt_of_le hal hb2.size; clear hb1; dsimp only))
  all_goals go_wp2
  all_goals go_end0
  all_goals exact ⟨rfl, begin_close HF.out hc0 hb2 hown2 hgrow hat⟩

theorem Far.cell0 {H : Nat → Prop} {w : World} {a : Nat} {init : List Part} {p : Part} {W : List UInt8} (h : Far H w a (init ++ [p]) W) :
    ∃ g cap, w.cell? ⟨a, 0, none⟩ = some (.slice (some ⟨g, 0, none⟩) (init.length + 1) cap) ∧ init.length + 1 ≤ cap ∧ cap ≤ 9223372036854775807 := by
  obtain ⟨g, cap, wv, cs, ha, hc, hm, _⟩ := h.open
  exact ⟨g, cap, (block_cell' ha 0).1, hc, hm⟩

set_option maxHeartbeats 400000 in
theorem far_Begin {H : Nat → Prop} {a : Nat} {init : List Part} {p : Part} {W : List UInt8} (w : World) (h : Far H w a (init ++ [p]) W) (hn : init.length ≤ 900000) :
    Calls Try.prog 14 #[.pointer (some ⟨a, 0, none⟩)] w fun e w' => e = .returned (.int .i64 ((init.length : Int) + 1)) ∧ Far (AndNew H w w') w' a (init ++ [p] ++ [(-1, clNone)]) W ∧ Keeps H w w' := by
  obtain ⟨g, cap, c0, hcap, hm⟩ := h.cell0
  have hmade := Lib.hid (far_made w a (init.length + 1) cap _ c0 (by omega))
  have hbeg := Lib.hid (far_begin w h (by simp; omega))
  clear h c0
  go_enter Try.func14, Try.ntmps14
  go_wp2_with fail
  refine hmade.out.mono ?_
  rintro e w' ⟨rfl, rfl⟩
  go_wp2_with fail
  refine hbeg.out.mono ?_
  rintro e w1 ⟨rfl, hF, hK⟩
  obtain ⟨g1, cap1, c1, hcap1, hm1⟩ := hF.cell0
  have hlen : (init ++ [p]).length = init.length + 1 := by simp
  rw [hlen] at c1 hcap1
  have HF := Lib.hid hF
  clear hF hlen
  have hsub : IntKind.i64.wrap ((init.length : Int) + 1 + 1 - 1) = (init.length : Int) + 1 := by rw [IntWalk.i64_in _ (by omega)]; omega
  go_wp2
  go_ret
  exact ⟨rfl, HF.out, hK⟩

/-- the last part is let go. -/
theorem shrink_close {H : Nat → Prop} {a g cap : Nat} {ps : List Part} {p : Part} {W : List UInt8} {w : World} (h : Far H w a (ps ++ [p]) W) (hc : w.cell? ⟨a, 0, none⟩ = some (.slice (some ⟨g, 0, none⟩) (ps.length + 1) cap)) :
    Far H (w.setCell ⟨a, 0, none⟩ (.slice (some ⟨g, 0, none⟩) ps.length cap)) a ps W ∧ Keeps H w (w.setCell ⟨a, 0, none⟩ (.slice (some ⟨g, 0, none⟩) ps.length cap)) := by
  obtain ⟨h1, h2, pv, wv, h3, h4, h5, h6, h7⟩ := h
  have hpv : pv = .slice (some ⟨g, 0, none⟩) (ps.length + 1) cap := by
    have := (block_cell' h3 0).1
    rw [hc] at this
    simpa using this.symm
  subst hpv
  have hne := own_ne' h3 (by decide) h4
  have hset : Keeps (fun k => k = a) w (w.setCell ⟨a, 0, none⟩ (.slice (some ⟨g, 0, none⟩) ps.length cap)) := (Keeps.refl (fun k => k = a) w).setCell (p := ⟨a, 0, none⟩) rfl _
  have hKH := hset.mono (T := H) (fun k _ hk => hk ▸ h2)
  refine ⟨⟨fun k hk => Nat.lt_of_lt_of_le (h1 k hk) hKH.size, h2, _, wv, block_setCell' h3, ?_, ?_, fun k hk => h6 k hk, h7⟩, hKH⟩
  · have hr := hset.row h4 (fun k hk e => hne (by rw [hk, e]))
    have hlen : (ps ++ [p]).length = ps.length + 1 := by simp
    rw [hlen] at hr
    rcases hr.2 with ⟨h0, _⟩ | ⟨g', cap', cur, hv, hb, hg, hnc, hcm, hcs, ht⟩
    · simp at h0
    · simp only [Value.slice.injEq, Option.some.injEq, Addr.mk.injEq, and_true, true_and] at hv
      obtain ⟨rfl, rfl⟩ := hv
      refine ⟨by rw [pcells_len], .inr ⟨g, cap, cur, rfl, hb, hg, by omega, hcm, hcs, ?_⟩⟩
      have e : cur.toList.take (ps.length * 5) = (cur.toList.take ((ps.length + 1) * 5)).take (ps.length * 5) := by rw [List.take_take]; congr 1; omega
      rw [e, ht, pcells_append, List.take_append_of_le_length (by rw [pcells_len]; omega), List.take_of_length_le (by rw [pcells_len]; omega)]
  · exact hset.row h5 (fun k hk e => own_ne' h3 (by decide) h5 (by rw [hk, e]))

/-- a part that has ended goes into the one around it. -/
def endP (q p : Part) : Part := if p.1 < 0 then q else missP q p.1 p.2
end Go.Proofs.Ytfhgmnlhmfnckaa
