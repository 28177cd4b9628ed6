/-
  Package seedlingref23: the document's record: Begin, End.
-/
import Derived.Test.YtfhgmnlhmfnckaaRefD
namespace Go.Proofs.Ytfhgmnlhmfnckaa
open Go.RowKit Go.Lib

theorem nv_snoc (F : List Nat) (n : Nat) : nv (F ++ [n]) = nv F ++ [.int .i64 (n : Int)] := by simp [nv]
/-- a part begins. -/
theorem beginF_close {H : Nat → Prop} {r n : Nat} {v fv fv' : Value} {L : List Part} {F : List Nat} {w w1 w2 : World} (h : RefS H w r v L F) (hc : w.cell? ⟨r, 2, none⟩ = some fv) (hb : Below w.heap.size w w1)
    (hown : w2.ownsRow 0 3 1 fv' (F.length + 1) (nv F ++ [.int .i64 (n : Int)])) (hgrow : w1.grownBy w2 fv.ownBlock) (hat : ∀ k, fv'.ownBlock = some k → fv.ownBlock = some k ∨ w.heap.size ≤ k) :
    RefTo H w (w2.setCell ⟨r, 2, none⟩ fv') r v L (F ++ [n]) := by
  obtain ⟨h1, h2, lv, fv0, h3, h4, h5, h6, h7⟩ := h
  have hfv : fv0 = fv := by
    have := (block_cell' h3 2).1
    rw [hc] at this
    simpa using this.symm
  subst hfv
  have hK2 : Keeps (fun k => fv0.ownBlock = some k) w w2 := (Keeps.ofNew hb _).grown hgrow (fun k hk => hk)
  have hne := own_ne' h3 (by decide) h5
  have h3' := hK2.obj h3 hne
  have hga := own_ne' h3' (by decide) hown
  have hset : Keeps (fun k => k = r) w2 (w2.setCell ⟨r, 2, none⟩ fv') := (Keeps.refl (fun k => k = r) w2).setCell (p := ⟨r, 2, none⟩) rfl _
  have hKH : Keeps H w (w2.setCell ⟨r, 2, none⟩ fv') := (hK2.mono (fun k _ hk => h7 k hk)).trans (hset.mono (fun k _ hk => hk ▸ h2))
  refine ⟨AndNew H w (w2.setCell ⟨r, 2, none⟩ fv'), fun k hk => hk.imp_right (fun h => h.1), ⟨?_, .inl h2, lv, fv', block_setCell' h3', ?_, ?_, ?_, ?_⟩, hKH⟩
  · rintro k (hk | hk)
    · exact Nat.lt_of_lt_of_le (h1 k hk) hKH.size
    · exact hk.2
  · have := (hK2.row h4 (fun k hk => own_apart h5 h4 (by decide) k hk))
    exact hset.row this (fun k hk e => own_ne' h3 (by decide) h4 (by rw [hk, e]))
  · have hr := hset.row hown (fun k hk e => hga (by rw [hk, e]))
    rw [List.length_append, List.length_singleton, nv_snoc]
    exact hr
  · exact fun k hk => .inl (h6 k hk)
  · intro k hk
    rcases hat k hk with h | h
    · exact .inl (h7 k h)
    · exact .inr ⟨h, by have := (hown.lt k hk).2; simpa [World.setCell] using this⟩

theorem RefS.len2 {H : Nat → Prop} {r : Nat} {v : Value} {L : List Part} {F : List Nat} {w : World} (h : RefS H w r v L F) : ∃ ao cap, w.cell? ⟨r, 2, none⟩ = some (.slice ao F.length cap) := by
  obtain ⟨h1, h2, lv, fv, h3, h4, h5, h6, h7⟩ := h
  obtain ⟨ao, cap, rfl⟩ := own_val h5
  exact ⟨ao, cap, (three_cells h3).2.2.1⟩

set_option maxRecDepth 100000 in
set_option maxHeartbeats 2000000 in
theorem doc_Begin {H : Nat → Prop} {r : Nat} {v : Value} {L : List Part} {F : List Nat} (w : World) (h : RefS H w r v L F) (hn : L.length ≤ 1000000) (hn2 : F.length ≤ 1000000) :
    Calls Try.prog 27 #[.pointer (some ⟨r, 0, none⟩)] w fun e w' => e = .returned (.int .i64 ((F.length : Int) + 1)) ∧ RefTo H w w' r v L (F ++ [L.length]) := by
  have HR := Lib.hid h
  obtain ⟨h1, h2, lv, fv, h3, h4, h5, h6, h7⟩ := h
  obtain ⟨i0, hi0, hz0, hz1, hz2⟩ := info_parts Try.infoInt
  have hrl := h1 r h2
  obtain ⟨_, ⟨c1, f1⟩, ⟨c2, f2⟩⟩ := three_cells h3
  obtain ⟨ao, cap, rfl⟩ := own_val h4
  have hne := own_ne' h3 (by decide) h5
  have Hne := Lib.hid hne
  have H5 := Lib.hid h5
  have hc2 : w.cell? ⟨r, 2, none⟩ = some fv := c2
  have HC2 := Lib.hid hc2
  have hc1 : w.cell? ⟨r, 1, none⟩ = some (.slice ao L.length cap) := c1
  clear h1 h2 h3 h4 h5 h6 h7 hne c1 f1
  have hlen : (F ++ [L.length]).length = F.length + 1 := by simp
  have HLen := Lib.hid hlen
  clear hlen
  obtain ⟨x, hx⟩ : ∃ x, x = L.length := ⟨_, rfl⟩
  have HX := Lib.hid hx
  rw [← hx] at hc1 hn
  clear hx
  go_enter Try.func27, Try.ntmps27
  go_upto_region 1 with (fail)
  go_cut [14] (fun _ w9 => RefTo H w w9 r v L (F ++ [x]))
  case first =>
    go_region_law (refine step_append_lies _ (by rfl) _ _ _ (by rfl) 0 3 i0 _ 1 8 Try.underlying49 hi0 hz0 hz1 hz2 rfl (by omega) fv F.length (nv F) (by rfl) (((Keeps.ofNew (Below.refl w.heap.size w).drew (fun _ => False)).row H5.out (fun _ _ h => h)).alloc _) ⟨w.heap.size, 0, none⟩ 1 1 [.int .i64 (x : Int)] (by rfl) (by rfl) (World.news_of_block (cs := #[.int .i64 (x : Int)]) (t := 3) (fr := (0, 0)) (heap_alloc_new w.drew _)) (by simp [Value.oneCell']) (by omega) (by unfold maxLen; omega) (by omega) (by omega) (w.heap.size + 1) (by simp) ?_; intro g cap3 w2 hown2 hgrow hat hlt; have e0 := (hgrow.cell_far ⟨r, 2, none⟩ (by simp; omega) (Ne.symm Hne.out)).trans ((World.cell?_alloc_old w.drew _ ⟨r, 2, none⟩ (by simp; omega)).trans hc2); have e1 := (hgrow.frozen_far ⟨r, 2, none⟩ (by simp; omega) (Ne.symm Hne.out)).trans ((Below.frozen (p := ⟨r, 2, none⟩) ((Below.refl w.heap.size w).drew.alloc (Nat.le_refl _) _) hrl).trans f2))
    all_goals go_wp2_with fail
    all_goals
      go_meet
      refine beginF_close HR.out HC2.out ((Below.refl w.heap.size w).drew.alloc (Nat.le_refl _) _) hown2 hgrow (fun k hk => ?_)
      cases hk
      rcases hat with h | h
      · exact .inl h
      · exact .inr (by show w.heap.size ≤ g; omega)
  case rest =>
    have HT := Lib.hid hcut
    obtain ⟨H', _, hR', _⟩ := hcut
    obtain ⟨ao4, cap4, d2⟩ := hR'.len2
    rw [List.length_append, List.length_singleton] at d2
    clear hR' c2 hc2 hc1
    go_wp2
    go_ret
    exact ⟨rfl, by rw [← HX.out]; exact HT.out⟩
end Go.Proofs.Ytfhgmnlhmfnckaa
