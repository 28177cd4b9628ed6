/-
  Package seedlingref23: the document's record: what its methods do.
-/
import Derived.Test.YtfhgmnlhmfnckaaFarL
import Derived.Deep.RegionLaw
namespace Go.Proofs.Ytfhgmnlhmfnckaa
open Go.RowKit Go.Lib

def nv (F : List Nat) : List Value := F.map fun n : Nat => Value.int .i64 (n : Int)
/-- the document's record in memory: its blocks H, its block r, the input's value v, what was missed, where parts began. -/
def RefS (H : Nat → Prop) (w : World) (r : Nat) (v : Value) (L : List Part) (F : List Nat) : Prop :=
  (∀ k, H k → k < w.heap.size) ∧ H r ∧ ∃ lv fv, w.heap[r]? = some (.cells #[v, lv, fv] 51 (0, 0)) ∧ w.ownsRow 0 77 5 lv L.length (pcells L) ∧ w.ownsRow 0 3 1 fv F.length (nv F) ∧
    (∀ k, lv.ownBlock = some k → H k) ∧ (∀ k, fv.ownBlock = some k → H k)
theorem RefS.keep {H S : Nat → Prop} {w w' : World} {r : Nat} {v : Value} {L : List Part} {F : List Nat} (h : RefS H w r v L F) (hk : Keeps S w w') (hs : ∀ k, H k → ¬ S k) : RefS H w' r v L F := by
  obtain ⟨h1, h2, lv, fv, h3, h4, h5, h6, h7⟩ := h
  exact ⟨fun k hk' => Nat.lt_of_lt_of_le (h1 k hk') hk.size, h2, lv, fv, hk.obj h3 (hs r h2), hk.row h4 (fun k hk' => hs k (h6 k hk')), hk.row h5 (fun k hk' => hs k (h7 k hk')), h6, h7⟩
theorem RefS.later {H : Nat → Prop} {w w' : World} {r : Nat} {v : Value} {L : List Part} {F : List Nat} (h : RefS H w r v L F) (hk : Below w.heap.size w w') : RefS H w' r v L F :=
  h.keep (Keeps.ofBelow hk) (fun k hk' => by have := h.1 k hk'; omega)

theorem three_cells {w : World} {x : Nat} {a b c : Value} {t : TypeId} (h : w.heap[x]? = some (.cells #[a, b, c] t (0, 0))) :
    (w.cell? ⟨x, 0, none⟩ = some a ∧ w.frozen? ⟨x, 0, none⟩ = false) ∧ (w.cell? ⟨x, 1, none⟩ = some b ∧ w.frozen? ⟨x, 1, none⟩ = false) ∧ w.cell? ⟨x, 2, none⟩ = some c ∧ w.frozen? ⟨x, 2, none⟩ = false :=
  ⟨block_cell' h 0, block_cell' h 1, block_cell' h 2⟩
theorem Try.infoMissed : (Try.prog.info? 77).map (fun i => (i.zero, i.size, i.bytes)) = some (some (.agg #[.int .i64 0, .int .u64 0, .int .u64 0, .int .u64 0, .int .u64 0]), 5, 40) := by kernel_rfl
theorem Try.infoInt : (Try.prog.info? 3).map (fun i => (i.zero, i.size, i.bytes)) = some (some (.int .i64 0), 1, 8) := by kernel_rfl

/-- something is put behind what was missed. -/
theorem miss_close {H : Nat → Prop} {r : Nat} {v lv lv' : Value} {L : List Part} {F : List Nat} {q : Part} {w w1 w2 : World} (h : RefS H w r v L F) (hc : w.cell? ⟨r, 1, none⟩ = some lv) (hb : Below w.heap.size w w1)
    (hown : w2.ownsRow 0 77 5 lv' (L.length + 1) (pcells L ++ pcs q)) (hgrow : w1.grownBy w2 lv.ownBlock) (hat : ∀ k, lv'.ownBlock = some k → lv.ownBlock = some k ∨ w.heap.size ≤ k) :
    RefS (AndNew H w (w2.setCell ⟨r, 1, none⟩ lv')) (w2.setCell ⟨r, 1, none⟩ lv') r v (L ++ [q]) F ∧ Keeps H w (w2.setCell ⟨r, 1, none⟩ lv') := by
  obtain ⟨h1, h2, lv0, fv, h3, h4, h5, h6, h7⟩ := h
  have hlv : lv0 = lv := by
    have := (block_cell' h3 1).1
    rw [hc] at this
    simpa using this.symm
  subst hlv
  have hK2 : Keeps (fun k => lv0.ownBlock = some k) w w2 := (Keeps.ofNew hb _).grown hgrow (fun k hk => hk)
  have hne := own_ne' h3 (by decide) h4
  have h3' := hK2.obj h3 hne
  have hga := own_ne' h3' (by decide) hown
  have hset : Keeps (fun k => k = r) w2 (w2.setCell ⟨r, 1, none⟩ lv') := (Keeps.refl (fun k => k = r) w2).setCell (p := ⟨r, 1, none⟩) rfl _
  have hKH : Keeps H w (w2.setCell ⟨r, 1, none⟩ lv') := (hK2.mono (fun k _ hk => h6 k hk)).trans (hset.mono (fun k _ hk => hk ▸ h2))
  refine ⟨⟨?_, .inl h2, lv', fv, block_setCell' h3', ?_, ?_, ?_, ?_⟩, hKH⟩
  · rintro k (hk | hk)
    · exact Nat.lt_of_lt_of_le (h1 k hk) hKH.size
    · exact hk.2
  · have hr := hset.row hown (fun k hk e => hga (by rw [hk, e]))
    rw [List.length_append, List.length_singleton, pcells_append, pcells_one]
    exact hr
  · have := (hK2.row h5 (fun k hk => own_apart h4 h5 (by decide) k hk))
    exact hset.row this (fun k hk e => own_ne' h3 (by decide) h5 (by rw [hk, e]))
  · intro k hk
    rcases hat k hk with h | h
    · exact .inl (h6 k h)
    · exact .inr ⟨h, by have := (hown.lt k hk).2; simpa [World.setCell] using this⟩
  · exact fun k hk => .inl (h7 k hk)

set_option maxHeartbeats 1000000 in
theorem ref_Miss {H : Nat → Prop} {r : Nat} {v : Value} {L : List Part} {F : List Nat} (w : World) (c : Nat → Bool) (place : Int) (h : RefS H w r v L F) (h0 : 0 ≤ place) (hn : L.length ≤ 1000000) :
    Calls Try.prog 30 #[.pointer (some ⟨r, 0, none⟩), .int .i64 place, clv c] w fun e w' => e = .returned (.tuple #[]) ∧ RefS (AndNew H w w') w' r v (L ++ [(place, c)]) F ∧ Keeps H w w' := by
  have HR := Lib.hid h
  obtain ⟨h1, h2, lv, fv, h3, h4, h5, h6, h7⟩ := h
  obtain ⟨i0, hi0, hz0, hz1, hz2⟩ := info_parts Try.infoMissed
  have hrl := h1 r h2
  have hb1 := Lib.hid ((Below.refl w.heap.size w).alloc (Nat.le_refl _) (.cells (clc c) 29 (0, 0)))
  have h3' := (hb1.out.block r hrl).trans h3
  obtain ⟨_, ⟨c1, f1⟩, _⟩ := three_cells h3'
  have hc1 := (three_cells h3).2.1.1
  obtain ⟨⟨r0, _⟩, ⟨r1, _⟩, ⟨r2, _⟩, ⟨r3, _⟩⟩ := four_cells (heap_alloc_new w (.cells (clc c) 29 (0, 0)))
  have H4 := Lib.hid h4
  have H3 := Lib.hid h3
  have HC1 := Lib.hid hc1
  clear h3 h4 h5 h6 h7 h1 h2 h3' hc1
  unfold clv
  unfold clc at *
  go_enter Try.func30, Try.ntmps30
  go_wp2_with fail
  refine gen_world (S := fun u => Below w.heap.size w u ∧ u.heap[w.heap.size]? = some (.cells #[.int .u64 (word c 0), .int .u64 (word c 1), .int .u64 (word c 2), .int .u64 (word c 3)] 29 (0, 0))) ⟨hb1.out, heap_alloc_new _ _⟩ (fun u hu => ?_)
  obtain ⟨hbu, hbx⟩ := hu
  clear c1 f1 r0 r1 r2 r3
  have HBu := Lib.hid hbu
  have hu3 := (hbu.block r hrl).trans H3.out
  obtain ⟨_, ⟨c1, f1⟩, _⟩ := three_cells hu3
  obtain ⟨⟨r0, _⟩, ⟨r1, _⟩, ⟨r2, _⟩, ⟨r3, _⟩⟩ := four_cells hbx
  have hru := lt_of_block hu3
  have hne := own_ne' hu3 (by decide) ((Keeps.ofNew hbu (fun _ => False)).row H4.out (fun _ _ h => h))
  have Hne := Lib.hid hne
  clear hbu hbx hu3 hne
  have hmiss : pcs (place, c) = [.int .i64 place, .int .u64 (word c 0), .int .u64 (word c 1), .int .u64 (word c 2), .int .u64 (word c 3)] := rfl
  have HMs := Lib.hid hmiss
  clear hmiss
  go_region_law (refine step_append_lies _ (by rfl) _ _ _ (by rfl) 0 77 i0 _ 5 40 Try.underlying48 hi0 hz0 hz1 hz2 rfl (by omega) lv L.length (pcells L) (by rfl) (((Keeps.ofNew HBu.out.drew (fun _ => False)).row H4.out (fun _ _ h => h)).alloc _) ⟨u.heap.size, 0, none⟩ 1 1 [.int .i64 place, .int .u64 (word c 0), .int .u64 (word c 1), .int .u64 (word c 2), .int .u64 (word c 3)] (by rfl) (by rfl) (World.news_of_block (cs := #[.int .i64 place, .int .u64 (word c 0), .int .u64 (word c 1), .int .u64 (word c 2), .int .u64 (word c 3)]) (t := 77) (fr := (0, 0)) (heap_alloc_new u.drew _)) (by simp [Value.oneCell']) (by omega) (by unfold maxLen; omega) (by omega) (by omega) (u.heap.size + 1) (by simp) ?_; intro g cap w2 hown2 hgrow hat hlt; have e0 := (hgrow.cell_far ⟨r, 1, none⟩ (by simp; omega) (Ne.symm Hne.out)).trans ((World.cell?_alloc_old u.drew _ ⟨r, 1, none⟩ (by simp; omega)).trans c1); have e1 := (hgrow.frozen_far ⟨r, 1, none⟩ (by simp; omega) (Ne.symm Hne.out)).trans ((Below.frozen (p := ⟨r, 1, none⟩) ((Below.refl u.heap.size u).drew.alloc (Nat.le_refl _) _) hru).trans f1))
  all_goals go_wp2
  all_goals go_end0
  all_goals
    refine ⟨rfl, miss_close (q := (place, c)) HR.out HC1.out ((HBu.out.drew).alloc (by have := HBu.out.size; exact this) _) (by rw [HMs.out]; exact hown2) hgrow (fun k hk => ?_)⟩
    cases hk
    rcases hat with h | h
    · exact .inl h
    · exact .inr (by have := HBu.out.size; show w.heap.size ≤ g; omega)
end Go.Proofs.Ytfhgmnlhmfnckaa
