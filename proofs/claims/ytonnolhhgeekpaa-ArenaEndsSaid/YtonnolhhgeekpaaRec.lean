/-
  Chapter 05: the document's arena.
-/
import Derived.Test.YtonnolhhgeekpaaSets
import Derived.Deep.QuietTactic
import Derived.BigQuiet
import Derived.StillTailTactics
namespace Go.Proofs.Ytonnolhhgeekpaa
open Go.RowKit

def RAr (B : Nat) (w : World) (r : Nat) (v : Value) (zs : List Int) (most pk : Nat) : Prop :=
  w.heap[r]? = some (.cells #[.int .i64 most, .int .i64 pk, v] 39 (0, 0)) ∧ w.ownsRow B 3 1 v zs.length (iv zs) ∧ most ≤ 9223372036854775807

theorem RAr.keeps {B : Nat} {w w' : World} {r : Nat} {v : Value} {zs : List Int} {most pk : Nat} {S : Nat → Prop} (h : RAr B w r v zs most pk) (hk : Keeps S w w') (hx : ¬ S r) (hv : ∀ k, v.ownBlock = some k → ¬ S k) : RAr B w' r v zs most pk :=
  ⟨hk.obj h.1 hx, hk.row h.2.1 hv, h.2.2⟩
theorem RAr.later {B : Nat} {w w' : World} {r : Nat} {v : Value} {zs : List Int} {most pk : Nat} (h : RAr B w r v zs most pk) (hk : Below w.heap.size w w') : RAr B w' r v zs most pk :=
  h.keeps (Keeps.ofBelow hk) (by have := lt_of_block h.1; omega) (fun k hk' => by have := h.2.1.lt k hk'; omega)
theorem RAr.cells {B : Nat} {w : World} {r : Nat} {v : Value} {zs : List Int} {most pk : Nat} (h : RAr B w r v zs most pk) :
    w.cell? ⟨r, 0, none⟩ = some (.int .i64 most) ∧ w.cell? ⟨r, 1, none⟩ = some (.int .i64 pk) ∧ w.cell? ⟨r, 2, none⟩ = some v ∧ (∀ k, w.frozen? ⟨r, k, none⟩ = false) := by
  have hb := block_cell' h.1
  exact ⟨(hb 0).1, (hb 1).1, (hb 2).1, fun k => (hb k).2⟩
theorem RAr.at {B : Nat} {w : World} {r : Nat} {v : Value} {zs : List Int} {most pk : Nat} (h : RAr B w r v zs most pk) : CellsAt w v (iv zs) := own_cells (iv_oneCell zs) h.2.1

set_option maxHeartbeats 1000000 in
theorem doc_put_full {B : Nat} {r : Nat} {v vl : Value} {zs ys : List Int} {most pk : Nat} (w : World) (h : RAr B w r v zs most pk) (hy : CellsAt w vl (iv ys)) (hf : most < zs.length + ys.length) (hl : zs.length + ys.length ≤ 1000000) :
    Calls Try.prog 19 #[.pointer (some ⟨r, 0, none⟩), vl] w fun e w' => e = .returned (.tuple #[.int .i64 0, .int .i64 12]) ∧ Below w.heap.size w w' := by
  obtain ⟨h0, h1, h2, h3⟩ := h.cells
  obtain ⟨ao, b, off, cap, rfl, _⟩ := hy
  obtain ⟨ao', cap', rfl⟩ := own_val h.2.1
  simp only [List.length_map] at *
  have hfI : (zs.length : Int) + ys.length > most := by omega
  have hw : IntKind.i64.wrap ((zs.length : Int) + ys.length) = (zs.length : Int) + ys.length := IntWalk.i64_in _ (by omega)
  clear h
  go_enter Try.func19, Try.ntmps19
  go_wp2
  go_quiet (fail)
  go_wp2
  go_ret2
  exact ⟨rfl, below_draws (Below.refl _ _) _⟩

/-- what changes the document's arena leaves: its row is new, or the elder one. -/
def RNow (B : Nat) (w : World) (r : Nat) (v : Value) (zs : List Int) (most pk : Nat) (w' : World) : Prop :=
  ∃ v', RAr B w' r v' zs most pk ∧ Keeps (fun k => k = r ∨ v.ownBlock = some k) w w' ∧ ∀ k, v'.ownBlock = some k → v.ownBlock = some k ∨ w.heap.size ≤ k

set_option maxHeartbeats 1000000 in
theorem doc_set_out {B : Nat} {r : Nat} {v : Value} {zs : List Int} {most pk : Nat} (w : World) (n x : Int) (h : RAr B w r v zs most pk) (hn : n < 0 ∨ zs.length ≤ n) :
    Calls Try.prog 23 #[.pointer (some ⟨r, 0, none⟩), .int .i64 n, .int .i64 x] w fun e w' => e = .returned (.int .i64 6) ∧ w = w' := by
  obtain ⟨h0, h1, h2, h3⟩ := h.cells
  obtain ⟨ao', cap', rfl⟩ := own_val h.2.1
  clear h
  by_cases hn0 : n < 0
  · clear hn
    go_enter Try.func23, Try.ntmps23
    go_wp2
    go_ret
    exact ⟨rfl, rfl⟩
  · have hn1 : n ≥ zs.length := by omega
    go_enter Try.func23, Try.ntmps23
    go_wp2
    go_ret
    exact ⟨rfl, rfl⟩

set_option maxHeartbeats 1000000 in
theorem doc_set {B : Nat} {r : Nat} {v : Value} {zs : List Int} {most pk : Nat} (w : World) (n : Nat) (x : Int) (h : RAr B w r v zs most pk) (hn : n < zs.length) :
    Calls Try.prog 23 #[.pointer (some ⟨r, 0, none⟩), .int .i64 n, .int .i64 x] w fun e w' => e = .returned (.int .i64 0) ∧ RNow B w r v (zs.set n x) most pk w' := by
  have hne : v.ownBlock ≠ some r := own_ne' h.1 (by decide) h.2.1
  have H := Lib.hid h
  obtain ⟨h0, h1, h2, h3⟩ := h.cells
  obtain ⟨g, cap, rfl⟩ := own_shape h.2.1 (by omega)
  have hcl : w.cell? ⟨g, n, none⟩ = some (.int .i64 zs[n]) ∧ w.frozen? ⟨g, n, none⟩ = false := by
    rcases h.2.1.2 with ⟨h0, _⟩ | ⟨g', cap', cur, hv, hbg, hg, hnc, hcm, hcs, ht⟩
    · simp at h0
    · simp only [Value.slice.injEq, Option.some.injEq, Addr.mk.injEq, and_true, true_and] at hv
      obtain ⟨rfl, rfl⟩ := hv
      have hb := block_cell' hg n
      have := h.2.1.cellAt n (by omega)
      exact ⟨by simpa [iv, hn] using this, hb.2⟩
  obtain ⟨hcl, hfz⟩ := hcl
  have hn1 : ¬ (n : Int) ≥ zs.length := by omega
  have hn2 : (n : Int) < zs.length := by omega
  have hn3 : ¬ (n : Int) < 0 := by omega
  clear h
  go_enter Try.func23, Try.ntmps23
  go_wp2
  go_ret
  have h := H.out
  have hgr : g ≠ r := fun e => hne (by rw [← e]; rfl)
  refine ⟨rfl, _, ⟨?_, ?_, h.2.2⟩, (Keeps.refl (fun k => k = r ∨ (Value.slice (some ⟨g, 0, none⟩) zs.length cap).ownBlock = some k) w).setCell (p := ⟨g, n, none⟩) (Or.inr rfl) _, fun k hk => .inl hk⟩
  · rw [Below.heap_setCell _ _ _ _ (Ne.symm hgr)]
    exact h.1
  · have := (h.2.1.stored n (.int .i64 x)).1
    rw [List.length_set]
    simpa [iv, List.map_set] using this

set_option maxHeartbeats 1000000 in
theorem doc_back_out {B : Nat} {r : Nat} {v : Value} {zs : List Int} {most pk : Nat} (w : World) (n : Int) (h : RAr B w r v zs most pk) (hn : n < 0 ∨ zs.length < n) :
    Calls Try.prog 24 #[.pointer (some ⟨r, 0, none⟩), .int .i64 n] w fun e w' => e = .returned (.int .i64 6) ∧ w = w' := by
  obtain ⟨h0, h1, h2, h3⟩ := h.cells
  obtain ⟨ao', cap', rfl⟩ := own_val h.2.1
  clear h
  by_cases hn0 : n < 0
  · clear hn
    go_enter Try.func24, Try.ntmps24
    go_wp2
    go_ret
    exact ⟨rfl, rfl⟩
  · have hn1 : n > zs.length := by omega
    go_enter Try.func24, Try.ntmps24
    go_wp2
    go_ret
    exact ⟨rfl, rfl⟩

/-- a row of none, just made. -/
theorem own_fresh (w : World) : (w.alloc (.cells #[] 3 (0, 0))).ownsRow w.heap.size 3 1 (.slice (some ⟨w.heap.size, 0, none⟩) 0 0) 0 [] := ⟨by simp, .inr ⟨w.heap.size, 0, #[], rfl, Nat.le_refl _, heap_alloc_new _ _, Nat.le_refl _, by unfold maxLen; omega, by simp, by simp⟩⟩

theorem add_none' (b off j : Nat) : (⟨b, off, none⟩ : Addr).add j = ⟨b, off + j, none⟩ := by
  unfold Addr.add; split
  · simp_all
  · rfl
theorem cellsAt_news {w : World} {ao : Option Addr} {n cap : Nat} {xs : List Value} (h : CellsAt w (.slice ao n cap) xs) : (ao = none → xs.length = 0 ∧ cap = 0) ∧ ∀ ad, ao = some ad → ∀ j u, xs[j]? = some u → w.cell? (ad.add j) = some u := by
  obtain ⟨ao1, b, off, cap1, he, _, _, hnil, hao, _, hc⟩ := h
  simp only [Value.slice.injEq] at he
  obtain ⟨rfl, _, rfl⟩ := he
  exact ⟨hnil, cells_news hao hc⟩
theorem row_news {w : World} {b off m : Nat} {zs : List Int} {ao : Option Addr} (hm : m ≤ zs.length) (hao : 0 < zs.length → ao = some ⟨b, off, none⟩) (hc : ∀ k (h : k < (iv zs).length), w.cell? ⟨b, off + k, none⟩ = some (iv zs)[k]) :
    ∀ ad, ao = some ad → ∀ j u, (iv (zs.take m))[j]? = some u → w.cell? (ad.add j) = some u := by
  intro ad had j u hj
  obtain ⟨h1, h2⟩ := List.getElem?_eq_some_iff.1 hj
  simp [iv] at h1 h2
  have hjz : j < zs.length := by omega
  have := hao (by omega)
  rw [had] at this
  simp at this
  subst this
  have h3 := hc j (by simpa [iv] using hjz)
  rw [add_none', h3, ← h2]
  simp [iv]

set_option maxHeartbeats 1000000 in
theorem doc_back {B : Nat} {r : Nat} {v : Value} {zs : List Int} {most pk : Nat} (w : World) (m : Nat) (h : RAr B w r v zs most pk) (hm : m ≤ zs.length) (hl : zs.length ≤ 1000000) (hB : B ≤ w.heap.size) :
    Calls Try.prog 24 #[.pointer (some ⟨r, 0, none⟩), .int .i64 m] w fun e w' => e = .returned (.int .i64 0) ∧ RNow B w r v (zs.take m) most pk w' := by
  have H := Lib.hid h
  have hat := h.at
  obtain ⟨h0, h1, h2, h3⟩ := h.cells
  have hrl := lt_of_block h.1
  have hat2 := hat.later ((Below.refl w.heap.size w).alloc (Nat.le_refl _) (.cells #[] 3 (0, 0)))
  obtain ⟨ao, b, off, cap, rfl, hlc, hcm, hnil, hao, _, hc⟩ := hat2
  simp only [iv, List.length_map] at hlc hcm hnil hao
  have hn1 : ¬ (m : Int) > zs.length := by omega
  have hn2 : ¬ (m : Int) < 0 := by omega
  have hn3 : (m : Int) ≤ cap := by omega
  obtain ⟨i0, hi, hz0, hz1, hz2⟩ := info_parts Try.infoInt
  have Hn := Lib.hid (row_news (m := m) hm hao hc)
  have hnil2 : ao = none → m = 0 ∧ cap = 0 := fun h => ⟨by have := (hnil h).1; omega, (hnil h).2⟩
  have Hnil := Lib.hid hnil2
  have Hfr := Lib.hid (own_fresh w)
  have hlt : ((zs.take m).map (Value.int .i64)).length = m := by simp; omega
  clear h hat hc hao hnil hnil2
  go_enter Try.func24, Try.ntmps24
  go_wp2_with (at_builtin; refine wpList_append_mine _ rfl (.tmp 17) (.tmp 23) 22 rfl w.heap.size 3 i0 (.int .i64 0) 1 8 Try.underlying22 hi hz0 hz1 hz2 rfl (by decide) _ 0 [] rfl Hfr.out ao m cap (iv (zs.take m)) rfl (by rw [hlt, Nat.mul_one]) Hnil.out Hn.out (iv_oneCell _) (by unfold maxLen; omega) (by omega) (by simp) ?_; intro v2 w1 hown1 hg1 hfr1; obtain ⟨ao2, cap2, rfl⟩ := own_val hown1; have hbel := ((Below.refl w.heap.size w).alloc (Nat.le_refl _) (.cells #[] 3 (0, 0))).grown hg1 (by simp) (fun k hk => by cases hk; exact Nat.le_refl _); have hb1 := (hbel.block r hrl).trans H.out.1; have hc1 := (block_cell' hb1 2).1; have hf1 := (block_cell' hb1 2).2)
  go_ret
  simp only [Nat.zero_add, List.nil_append] at hown1 hfr1
  have hlz : (zs.take m).length = m := by simp; omega
  refine ⟨rfl, _, ⟨by rw [block_setCell' hb1]; rfl, ?_, H.out.2.2⟩, (Keeps.ofNew hbel (fun k => k = r ∨ (Value.slice ao zs.length cap).ownBlock = some k)).setCell (p := ⟨r, 2, none⟩) (Or.inl rfl) _, fun k hk => .inr (by rcases hfr1 k hk with h | h; (cases h; exact Nat.le_refl _); (simp at h; omega))⟩
  have hne : (Value.slice ao2 m cap2).ownBlock ≠ some r := own_ne' hb1 (by decide) hown1
  rw [hlz]
  exact ownsRow_base (ownsRow_setCell_other hown1 (a := ⟨r, 2, none⟩) hne _) hB

set_option maxHeartbeats 2000000 in
theorem doc_put {B : Nat} {r : Nat} {v vl : Value} {zs ys : List Int} {most pk : Nat} (w : World) (h : RAr B w r v zs most pk) (hy : CellsAt w vl (iv ys)) (hf : zs.length + ys.length ≤ most) (hl : zs.length + ys.length ≤ 1000000) (hB : B ≤ w.heap.size) :
    Calls Try.prog 19 #[.pointer (some ⟨r, 0, none⟩), vl] w fun e w' => e = .returned (.tuple #[.int .i64 zs.length, .int .i64 0]) ∧ RNow B w r v (zs ++ ys) most (max pk (zs ++ ys).length) w' := by
  have H := Lib.hid h
  have HY := Lib.hid hy
  have hat := h.at
  obtain ⟨h0, h1, h2, h3⟩ := h.cells
  have hrl := lt_of_block h.1
  obtain ⟨ao, cap, rfl⟩ := own_val h.2.1
  obtain ⟨aoy, _, _, capy, rfl, _⟩ := hy
  simp only [List.length_map] at *
  have hfI : ¬ (zs.length : Int) + ys.length > most := by omega
  have hw : IntKind.i64.wrap ((zs.length : Int) + ys.length) = (zs.length : Int) + ys.length := IntWalk.i64_in _ (by omega)
  obtain ⟨i0, hi, hz0, hz1, hz2⟩ := info_parts Try.infoInt
  clear h hat
  go_enter Try.func19, Try.ntmps19
  go_wp2
  go_quiet (fail)
  have hb0 : Below w.heap.size w (w.drewN nq) := below_draws (Below.refl _ _) nq
  have hsz : (w.drewN nq).heap.size = w.heap.size := rfl
  generalize w.drewN nq = wa at hb0 hsz ⊢
  have h := H.out.later hb0
  have H2 := Lib.hid h
  clear h0 h1 h2 h3
  obtain ⟨h0, h1, h2, h3⟩ := h.cells
  have hrl2 := lt_of_block h.1
  have hal : Below wa.heap.size wa (wa.alloc (.cells #[] 3 (0, 0))) := (Below.refl _ _).alloc (Nat.le_refl _) _
  obtain ⟨Hnil, Hn⟩ := cellsAt_news (h.at.later hal)
  have Hn := Lib.hid Hn
  have Hnil := Lib.hid Hnil
  have Hfr := Lib.hid (own_fresh wa)
  have HYa := Lib.hid (HY.out.later hb0)
  have HB0 := Lib.hid hb0
  have HSZ := Lib.hid hsz
  clear h hb0 HY H hsz
  go_wp2_with (first
    | (at_builtin; refine wpList_append_mine _ rfl (.tmp 26) (.tmp 30) 22 rfl wa.heap.size 3 i0 (.int .i64 0) 1 8 Try.underlying22 hi hz0 hz1 hz2 rfl (by decide) _ 0 [] rfl Hfr.out ao zs.length cap (iv zs) rfl (by simp [iv]) (by simpa [iv] using Hnil.out) Hn.out (iv_oneCell _) (by unfold maxLen; omega) (by omega) (by simp) ?_; intro v2 w1 hown1 hg1 hfr1; have hbel1 := hal.grown hg1 (by simp) (fun k hk => by cases hk; exact Nat.le_refl _); obtain ⟨HYnil, HYn⟩ := cellsAt_news (HYa.out.later hbel1); simp only [Nat.zero_add, List.nil_append] at hown1 hfr1)
    | (at_builtin; refine wpList_append_mine _ rfl (.tmp 31) (.tmp 32) 22 rfl wa.heap.size 3 i0 (.int .i64 0) 1 8 Try.underlying22 hi hz0 hz1 hz2 rfl (by decide) _ zs.length (iv zs) rfl hown1 aoy ys.length capy (iv ys) rfl (by simp [iv]) (by simpa [iv] using HYnil) HYn (iv_oneCell _) (by unfold maxLen; omega) (by omega) hbel1.size ?_; intro v3 w2 hown2 hg2 hfr2; have hbel2 := hbel1.grown hg2 hbel1.size (fun k hk => (hown1.lt k hk).1); obtain ⟨ao3, cap3, rfl⟩ := own_val hown2; have hb2 := (hbel2.block r hrl2).trans H2.out.1; have hc2 := (block_cell' hb2 2).1; have hf2 := (block_cell' hb2 2).2))
  have hb3 : (w2.setCell ⟨r, 2, none⟩ (.slice ao3 (zs.length + ys.length) cap3)).heap[r]? = some (.cells #[.int .i64 most, .int .i64 pk, .slice ao3 (zs.length + ys.length) cap3] 39 (0, 0)) := by rw [block_setCell' hb2]; rfl
  have hne : (Value.slice ao3 (zs.length + ys.length) cap3).ownBlock ≠ some r := own_ne' hb2 (by decide) hown2
  have hown3 := ownsRow_setCell_other hown2 (a := ⟨r, 2, none⟩) hne (.slice ao3 (zs.length + ys.length) cap3)
  have hkk : Keeps (fun k => k = r ∨ (Value.slice ao zs.length cap).ownBlock = some k) wa (w2.setCell ⟨r, 2, none⟩ (.slice ao3 (zs.length + ys.length) cap3)) := (Keeps.ofNew hbel2 _).setCell (p := ⟨r, 2, none⟩) (Or.inl rfl) _
  have Hown := Lib.hid hown3
  have Hkk := Lib.hid hkk
  have Hb3 := Lib.hid hb3
  have Hfr2 := Lib.hid hfr2
  have Hfr1 := Lib.hid hfr1
  have Hne := Lib.hid hne
  have Hw1 := Lib.hid hbel1.size
  clear hown1 hown2 hfr1 hfr2 hg1 hg2 hbel1 hbel2 hb2 hc2 hf2 hne hown3 hkk HYnil HYn h0 h1 h2 h3 hal
  generalize w2.setCell ⟨r, 2, none⟩ (.slice ao3 (zs.length + ys.length) cap3) = w3 at *
  have h1 := (block_cell' hb3 1).1
  have h2 := (block_cell' hb3 2).1
  have h3 := (block_cell' hb3 1).2
  clear hb3
  go_still_tail 13, (by kernel_rfl)
  go_wp2
  go_ret2
  have hmax : max (pk : Int) ((zs.length : Int) + ys.length) = ((max pk (zs ++ ys).length : Nat) : Int) := by rw [List.length_append]; omega
  rw [hmax]
  refine ⟨rfl, _, ⟨by show ((w3.setCell _ _).heap)[r]? = _; rw [block_setCell' Hb3.out]; rfl, ?_, H2.out.2.2⟩, ?_, fun k hk => ?_⟩
  · have h := ownsRow_setCell_other Hown.out (a := ⟨r, 1, none⟩) Hne.out (.int .i64 ((max pk (zs ++ ys).length : Nat) : Int))
    have h2 := ownsRow_base (B' := B) h (by rw [HSZ.out]; exact hB)
    have e1 : (zs ++ ys).length = zs.length + ys.length := List.length_append
    have e2 : iv (zs ++ ys) = iv zs ++ iv ys := by simp [iv]
    rw [e1] at h2 ⊢
    rw [e2]
    exact h2
  · have k1 : Keeps (fun k => k = r ∨ (Value.slice ao zs.length cap).ownBlock = some k) w wa := Keeps.ofNew HB0.out _
    exact ((k1.trans Hkk.out).setCell (p := ⟨r, 1, none⟩) (Or.inl rfl) _).drew
  · rcases Hfr2.out k hk with h | h
    · rcases Hfr1.out k h with h | h
      · cases h; exact .inr (Nat.le_of_eq HSZ.out.symm)
      · simp at h; have := HSZ.out; exact .inr (by omega)
    · have := HSZ.out
      have hsz := Hkk.out.size
      exact .inr (by have := Hw1.out; omega)
end Go.Proofs.Ytonnolhhgeekpaa
