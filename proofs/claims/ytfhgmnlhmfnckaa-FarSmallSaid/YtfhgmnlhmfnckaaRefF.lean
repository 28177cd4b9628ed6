/-
  Package seedlingref23: the document's record: End.
-/
import Derived.Test.YtfhgmnlhmfnckaaRefE
namespace Go.Proofs.Ytfhgmnlhmfnckaa
open Go.RowKit Go.Lib

/-- the last mark is let go. -/
theorem endF_close {H : Nat → Prop} {r g n cap : Nat} {v : Value} {L : List Part} {F : List Nat} {w u : World} (h : RefS H w r v L (F ++ [n])) (hc : w.cell? ⟨r, 2, none⟩ = some (.slice (some ⟨g, 0, none⟩) (F.length + 1) cap)) (hb : Below w.heap.size w u) :
    RefTo H w (u.setCell ⟨r, 2, none⟩ (.slice (some ⟨g, 0, none⟩) F.length cap)) r v L F := by
  obtain ⟨h1, h2, lv, fv, h3, h4, h5, h6, h7⟩ := h.later hb
  have hpv : fv = .slice (some ⟨g, 0, none⟩) (F.length + 1) cap := by
    have := (block_cell' h3 2).1
    rw [cell_later hb hc] at this
    simpa using this.symm
  subst hpv
  have hne := own_ne' h3 (by decide) h5
  have hset : Keeps (fun k => k = r) u (u.setCell ⟨r, 2, none⟩ (.slice (some ⟨g, 0, none⟩) F.length cap)) := (Keeps.refl (fun k => k = r) u).setCell (p := ⟨r, 2, none⟩) rfl _
  have hKH := (Keeps.ofNew hb H).trans (hset.mono (T := H) (fun k _ hk => hk ▸ h2))
  refine ⟨H, fun k hk => .inl hk, ⟨fun k hk => Nat.lt_of_lt_of_le (h1 k hk) hset.size, h2, lv, _, block_setCell' h3, ?_, ?_, h6, fun k hk => h7 k hk⟩, hKH⟩
  · exact hset.row h4 (fun k hk e => own_ne' h3 (by decide) h4 (by rw [hk, e]))
  · have hr := hset.row h5 (fun k hk e => hne (by rw [hk, e]))
    have hlen : (F ++ [n]).length = F.length + 1 := by simp
    rw [hlen] at hr
    rcases hr.2 with ⟨h0, _⟩ | ⟨g', cap', cur, hv, hb, hg, hnc, hcm, hcs, ht⟩
    · simp at h0
    · simp only [Value.slice.injEq, Option.some.injEq, Addr.mk.injEq, and_true, true_and] at hv
      obtain ⟨rfl, rfl⟩ := hv
      refine ⟨by simp [nv], .inr ⟨g, cap, cur, rfl, hb, hg, by omega, hcm, hcs, ?_⟩⟩
      have e : cur.toList.take (F.length * 1) = (cur.toList.take ((F.length + 1) * 1)).take (F.length * 1) := by rw [List.take_take]; congr 1; omega
      rw [e, ht, nv_snoc, List.take_append_of_le_length (by simp [nv]), List.take_of_length_le (by simp [nv])]

theorem RefS.own2 {H : Nat → Prop} {r n : Nat} {v : Value} {L : List Part} {F : List Nat} {w : World} (h : RefS H w r v L (F ++ [n])) : ∃ g cap, w.cell? ⟨r, 2, none⟩ = some (.slice (some ⟨g, 0, none⟩) (F.length + 1) cap) ∧ w.frozen? ⟨r, 2, none⟩ = false ∧ F.length ≤ cap ∧ F.length + 1 ≤ cap ∧ r < w.heap.size := by
  obtain ⟨h1, h2, lv, fv, h3, h4, h5, h6, h7⟩ := h
  have hlF : (F ++ [n]).length = F.length + 1 := by simp
  rw [hlF] at h5
  obtain ⟨g, cap, rfl⟩ := own_shape h5 (by omega)
  rcases h5.2 with ⟨hv, h0⟩ | ⟨g', cap', cur, hv, _, _, hnc, _⟩
  · omega
  · simp only [Value.slice.injEq, true_and] at hv
    obtain ⟨_, rfl⟩ := hv
    exact ⟨g, cap, (three_cells h3).2.2.1, (three_cells h3).2.2.2, by omega, by omega, h1 r h2⟩

set_option maxRecDepth 100000 in
set_option maxHeartbeats 1000000 in
theorem doc_End_none {H : Nat → Prop} {r : Nat} {v : Value} {L : List Part} (w : World) (h : RefS H w r v L []) :
    Calls Try.prog 28 #[.pointer (some ⟨r, 0, none⟩)] w fun e w' => e = .returned (.tuple #[.int .i64 0, .int .i64 5]) ∧ Below w.heap.size w w' := by
  obtain ⟨fo, fc, hc2'⟩ := h.len2
  have hc2 : w.cell? ⟨r, 2, none⟩ = some (.slice fo 0 fc) := hc2'
  clear h hc2'
  go_enter Try.func28, Try.ntmps28
  go_wp2
  go_ret2
  exact ⟨rfl, Below.refl _ _⟩

set_option maxRecDepth 100000 in
set_option maxHeartbeats 1000000 in
theorem doc_End {H : Nat → Prop} {r n : Nat} {v : Value} {L : List Part} {F : List Nat} (w : World) (h : RefS H w r v L (F ++ [n])) (hF : ∀ n' ∈ F ++ [n], n' ≤ L.length) (hn : L.length ≤ 1000000) (hn2 : F.length ≤ 900000) :
    Calls Try.prog 28 #[.pointer (some ⟨r, 0, none⟩)] w fun e w' => e = .returned (.tuple #[.int .i64 (maxM (partL L (F ++ [n]))), .int .i64 0]) ∧ RefTo H w w' r v L F := by
  have HR := Lib.hid h
  have hf := Lib.hid (doc_Far w h hF hn (by simp; omega))
  obtain ⟨g, cap, hc2, f2, h2s, _, hrl⟩ := h.own2
  have HC2 := Lib.hid hc2
  clear h hF hn
  obtain ⟨T, hT⟩ : ∃ T, T = maxM (partL L (F ++ [n])) := ⟨_, rfl⟩
  rw [← hT] at hf ⊢
  clear hT
  obtain ⟨x, hx⟩ : ∃ x, x = F.length := ⟨_, rfl⟩
  have HX := Lib.hid hx
  rw [← hx] at hc2 hn2 h2s
  clear hx
  have hsl := fun wq => slice_to 49 Try.underlying49 1 (fun _ => by kernel_rfl) g x (x + 1) cap h2s wq
  have hw2 : IntKind.i64.wrap (((x + 1 : Nat) : Int) - 1) = x := by rw [IntWalk.i64_in _ (by omega)]; omega
  have hw1 : IntKind.i64.wrap (x : Int) = x := IntWalk.i64_in _ (by omega)
  have hw3 : IntKind.i64.wrap ((x : Int) + 1 - 1) = x := by rw [IntWalk.i64_in _ (by omega)]; omega
  have hne1 : (((x + 1 : Nat) : Int) == 0) = false := by simp; omega
  have hne2 : ((x : Int) + 1 == 0) = false := by simp; omega
  go_enter Try.func28, Try.ntmps28
  go_wp2_with fail
  refine hf.out.mono ?_
  rintro e w1 ⟨rfl, hb1⟩
  have c2 := cell_later hb1 hc2
  have f2' := (hb1.frozen (p := ⟨r, 2, none⟩) hrl).trans f2
  have hrl1 : r < w1.heap.size := Nat.lt_of_lt_of_le hrl hb1.size
  have HB1 := Lib.hid hb1
  clear hc2 f2 hrl hb1
  go_wp2_with fail
  go_region_with (fail)
  all_goals go_wp2_with fail
  all_goals go_ret2
  all_goals
    have := endF_close HR.out HC2.out HB1.out
    rw [← HX.out] at this
    exact ⟨rfl, this.then (Below.refl _ _).drew⟩
end Go.Proofs.Ytfhgmnlhmfnckaa
