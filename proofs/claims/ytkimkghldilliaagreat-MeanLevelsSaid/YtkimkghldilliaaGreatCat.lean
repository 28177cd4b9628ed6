/-
  slices.Grow, Concat of two rows of twigs; rows of the call's own.
-/
import Derived.Test.YtkimkghldilliaaGreatTrI
import Derived.LoopN
import Derived.Lib.AppendZeros
import Derived.WalkSpells
namespace Go.Proofs.YtkimkghldilliaaGreat
open Go.RowKit Go.Lib

/-- a row of twigs of the call's own. -/
def TwOwn (base : Nat) (w : World) (v : Value) (l : List Tw) : Prop := w.ownsRow base 50 5 v l.length (tvs l)
theorem TwOwn.later {B : Nat} {w w' : World} {v : Value} {l : List Tw} (h : TwOwn B w v l) (hb : Below w.heap.size w w') : TwOwn B w' v l := (Keeps.ofNew hb (fun _ => False)).row h (fun _ _ h => h)
theorem TwOwn.lift {B C : Nat} {w : World} {v : Value} {l : List Tw} (h : TwOwn B w v l) (hB : C ≤ B) : TwOwn C w v l := ownsRow_base h hB
def ToldT (w : World) (l : List Tw) (en : Ending) (w' : World) : Prop := ∃ v', en = .returned v' ∧ TwOwn w.heap.size w' v' l ∧ Below w.heap.size w w'
abbrev zTw : Value := .agg #[.int .i64 0, .int .i64 0, .int .i64 0, .int .i64 0, .int .i64 0]
theorem zTw_cells : zTw.cells = #[.int .i64 0, .int .i64 0, .int .i64 0, .int .i64 0, .int .i64 0] := rfl
theorem zeros_len (n : Nat) : (Builtin.zeroCells zTw.cells n).toList.length = n * 5 := by
  rw [zTw_cells]
  simp [Builtin.zeroCells]
/-- a part of a row. -/
theorem own_part {w : World} {B g n cap : Nat} {l : List Tw} (h : w.ownsRow B 50 5 (.slice (some ⟨g, 0, none⟩) n cap) n (tvs l)) (i j off c : Nat) (hij : i ≤ j) (hj : j ≤ n) (ho : i = j ∨ off = i * 5) (hc : j - i ≤ c ∧ c ≤ maxLen) :
    TwAt w (.slice (some ⟨g, off, none⟩) (j - i) c) ((l.take j).drop i) := by
  have hn := own_rowsC twc_len (by omega) h
  obtain ⟨-, hb, cur, hg, h1, h2, -⟩ := own_open h
  have hl : ((l.take j).drop i).length = j - i := by rw [List.length_drop, List.length_take]; omega
  refine ⟨some ⟨g, off, none⟩, g, off, c, by rw [List.length_map, hl], by rw [List.length_map, hl]; exact hc.1, hc.2, (fun h => by cases h), fun _ => ⟨rfl, lt_of_block hg⟩, fun e he => ?_, fun k hk q hq => ?_⟩
  · obtain ⟨x, -, rfl⟩ := List.mem_map.1 he
    rfl
  · rw [List.length_map] at hk
    rw [hl] at hk
    rcases ho with ho | rfl
    · omega
    · have hil : i + k < l.length := by omega
      have := (own_cellC twc_len h (i + k) hil q hq).1
      simp only [List.getElem_map, List.getElem_drop, List.getElem_take]
      rw [← this]
      congr 2
      rw [Nat.add_mul]
theorem TwAt.nil (w : World) : TwAt w (.slice none 0 0) [] := ⟨none, 0, 0, 0, rfl, Nat.le_refl _, Nat.zero_le _, fun _ => ⟨rfl, rfl⟩, (fun h => absurd h (by simp)), (fun e he => by simp at he), fun i hi => by simp at hi⟩
theorem TwOwn.tw {B : Nat} {w : World} {v : Value} {l : List Tw} (h : TwOwn B w v l) : TwAt w v l := by
  unfold TwOwn at h
  rcases h.2 with ⟨rfl, h0⟩ | ⟨g, cap, cur, rfl, -, -, h1, h2, -⟩
  · obtain rfl : l = [] := List.eq_nil_of_length_eq_zero h0
    exact TwAt.nil w
  · have := own_part h 0 l.length 0 cap (Nat.zero_le _) (Nat.le_refl _) (.inr rfl) ⟨by omega, h2⟩
    simpa using this
theorem tw_empty (w : World) (c : Nat) (hc : c ≤ maxLen) (g off : Nat) (hg : g < w.heap.size) : TwAt w (.slice (some ⟨g, off, none⟩) 0 c) [] := ⟨some ⟨g, off, none⟩, g, off, c, rfl, Nat.zero_le _, hc, (fun h => by cases h), fun h => absurd h (by simp), (fun e he => by simp at he), fun i hi => by simp at hi⟩
set_option maxRecDepth 100000 in
set_option maxHeartbeats 1000000 in
theorem grow0_any (w : World) : Calls Tryz.prog 171 #[.slice none 0 0, .int .i64 0] w fun e w' => e = .returned (.slice none 0 0) ∧ w = w' := by
  go_enter Tryz.func171, Tryz.ntmps171
  go_wp2
  go_ret
  exact ⟨rfl, rfl⟩
def GrowR (w : World) (e : Ending) (w' : World) : Prop := ∃ v', e = .returned v' ∧ w'.ownsRow w.heap.size 50 5 v' 0 [] ∧ Below w.heap.size w w'
set_option maxRecDepth 100000 in
set_option maxHeartbeats 2000000 in
theorem grow_any (n : Nat) (w : World) (h0 : 0 < n) (hl : n ≤ 2000000) : Calls Tryz.prog 171 #[.slice none 0 0, .int .i64 n] w fun e w' => GrowR w e w' := by
  obtain ⟨i0, hi0, hz0, hz1, hz2⟩ := info_parts Tryz.infoTwig
  have hrun := run_append_nil_zeros (P := Tryz.prog) w 33 3 33 50 i0 _ .i64 .i64 Tryz.underlying33 Tryz.underlying3 hi0 hz0 n h0 (by rw [hz1]; omega) (by omega) (by rw [hz2]; omega)
  have HR := Lib.hid hrun
  have hn0 : (0 : Int) < n := by omega
  have hsz : n ≤ grownCap w n 0 50 := grownCap_ge w n 0 _
  have hcm : grownCap w n 0 50 ≤ maxLen := grownCap_le_maxLen w n 0 _ (by unfold maxLen; omega)
  have HCm := Lib.hid hcm
  clear hrun hcm
  go_enter Tryz.func171, Tryz.ntmps171
  go_wp2_with (at_builtin; refine Lib.wpList_append_run _ rfl (.tmp 20) (.tmp 21) 33 3 rfl _ _ rfl rfl _ _ HR.out ?_)
  go_ret
  refine ⟨_, rfl, own_shut rfl (Nat.le_refl _) (heap_alloc_new w.drew _) (Nat.zero_le _) HCm.out ?_ rfl, ((Below.refl w.heap.size w).drew).alloc (Nat.le_refl _) _⟩
  have h1 := zeros_len n
  have h2 := zeros_len (grownCap w n 0 50 - n)
  rw [zTw_cells] at h1 h2
  rw [Array.length_toList] at h1 h2
  rw [Array.size_append, h1, h2]
  omega
set_option maxRecDepth 100000 in
set_option maxHeartbeats 4000000 in
theorem concat_any {R : Nat} {v1 v2 : Value} {l1 l2 : List Tw} (w : World) (hR : w.heap[R]? = some (.cells #[v1, v2] 33 (0, 0))) (h1 : TwAt w v1 l1) (h2 : TwAt w v2 l2) (hl1 : l1.length ≤ 1000000) (hl2 : l2.length ≤ 1000000) :
    Calls Tryz.prog 170 #[.slice (some ⟨R, 0, none⟩) 2 2] w fun en w' => ToldT w (l1 ++ l2) en w' := by
  have H1 := Lib.hid h1
  have H2 := Lib.hid h2
  have HR := Lib.hid hR
  obtain ⟨c0, c1⟩ := two_box hR
  obtain ⟨a1, p1, rfl⟩ := h1.val
  obtain ⟨a2, p2, rfl⟩ := h2.val
  obtain ⟨n1, hn1⟩ : ∃ n1, n1 = l1.length := ⟨_, rfl⟩
  obtain ⟨n2, hn2⟩ : ∃ n2, n2 = l2.length := ⟨_, rfl⟩
  have HN := Lib.hid (And.intro hn1 hn2)
  rw [← hn1] at hl1 c0 H1 HR
  rw [← hn2] at hl2 c1 H2 HR
  clear h1 h2 hR hn1 hn2
  have hs1 : ¬ ((n1 : Int) < 0) := by omega
  have hs2 : ¬ ((n1 : Int) + n2 < 0) := by omega
  obtain ⟨i0, hi0, hz0, hz1, hz2⟩ := info_parts Tryz.infoTwig
  have hG : Calls Tryz.prog 171 #[.slice none 0 0, .int .i64 ((n1 : Int) + n2)] w fun e w' => GrowR w e w' := by
    by_cases h0 : n1 + n2 = 0
    · have e1 : n1 = 0 := by omega
      have e2 : n2 = 0 := by omega
      subst e1
      subst e2
      exact (grow0_any w).mono fun e w' h => by
        obtain ⟨rfl, rfl⟩ := h
        exact ⟨_, rfl, World.ownsRow_nil _ _ _ _, Below.refl _ _⟩
    · have := grow_any (n1 + n2) w (by omega) (by omega)
      rwa [show ((n1 + n2 : Nat) : Int) = (n1 : Int) + n2 from by omega] at this
  have HG := Lib.hid hG
  clear hG
  go_enter Tryz.func170, Tryz.ntmps170
  go_wp2
  refine wp_loop_rounds 3 ?_
  rw [rounds_succ]
  go_wp2
  rw [rounds_succ]
  go_wp2
  rw [rounds_succ]
  go_wp2_with fail
  refine HG.out.mono ?_
  rintro e w1 ⟨v', rfl, ho, hb⟩
  obtain ⟨ga, gc, rfl⟩ := own_val ho
  have HO := Lib.hid ho
  have HB := Lib.hid hb
  clear c0 c1 ho hb
  have hR1 := (HB.out.block _ (lt_of_block HR.out)).trans HR.out
  obtain ⟨c0, c1⟩ := two_box hR1
  obtain ⟨-, -, -, hnil1, hnews1⟩ := rows_news twc_len (by omega) (H1.out.later HB.out)
  have Hnil1 := Lib.hid hnil1
  have Hnews1 := Lib.hid hnews1
  have hsz1 := HB.out.size
  clear hnil1 hnews1
  go_wp2
  refine wp_loop_rounds 3 ?_
  rw [rounds_succ]
  go_wp2_with (at_builtin; refine wpList_append_mine _ rfl (.tmp 31) (.tmp 32) 33 rfl w.heap.size 50 i0 _ 5 40 Tryz.underlying33 hi0 hz0 hz1 hz2 rfl (by decide) _ 0 [] rfl HO.out a1 n1 p1 (tvs l1) rfl (by rw [flat_len twc_len, HN.out.1]) Hnil1.out Hnews1.out (flat_one twc_one l1) (by unfold maxLen; omega) (by omega) (by omega) ?_; intro v2 w2 hown' hgrow hfr; obtain ⟨ga2, gc2, rfl⟩ := own_val hown'; have HO2 := Lib.hid hown'; have HG2 := Lib.hid hgrow; clear hown' hgrow hfr)
  simp only [Nat.zero_add, List.nil_append] at HO2
  have hb2 : Below w.heap.size w w2 := HB.out.grown HG2.out HB.out.size (fun r hr => (HO.out.lt r hr).1)
  have HB2 := Lib.hid hb2
  clear c0 c1 hb2 hsz1
  have hR2 := (HB2.out.block _ (lt_of_block HR.out)).trans HR.out
  obtain ⟨c0, c1⟩ := two_box hR2
  obtain ⟨-, -, -, hnil2, hnews2⟩ := rows_news twc_len (by omega) (H2.out.later HB2.out)
  have Hnil2 := Lib.hid hnil2
  have Hnews2 := Lib.hid hnews2
  have hsz2 := HB2.out.size
  clear hnil2 hnews2 hR1 hR2
  rw [rounds_succ]
  go_wp2_with (at_builtin; refine wpList_append_mine _ rfl (.tmp 31) (.tmp 32) 33 rfl w.heap.size 50 i0 _ 5 40 Tryz.underlying33 hi0 hz0 hz1 hz2 rfl (by decide) _ n1 (tvs l1) rfl HO2.out a2 n2 p2 (tvs l2) rfl (by rw [flat_len twc_len, HN.out.2]) Hnil2.out Hnews2.out (flat_one twc_one l2) (by unfold maxLen; omega) (by omega) (by omega) ?_; intro v3 w3 hown' hgrow hfr; obtain ⟨ga3, gc3, rfl⟩ := own_val hown'; have HO3 := Lib.hid hown'; have HG3 := Lib.hid hgrow; clear hown' hgrow hfr)
  rw [rounds_succ]
  go_wp2
  go_ret
  refine ⟨_, rfl, ?_, HB2.out.grown HG3.out HB2.out.size (fun r hr => (HO2.out.lt r hr).1)⟩
  unfold TwOwn
  rw [List.length_append, ← HN.out.1, ← HN.out.2, tvs, List.flatMap_append]
  exact HO3.out
end Go.Proofs.YtkimkghldilliaaGreat
