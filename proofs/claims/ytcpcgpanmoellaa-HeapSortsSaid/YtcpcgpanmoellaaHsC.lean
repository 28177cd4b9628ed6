/-
  slices.AppendSeq, slices.Collect at things.
-/
import Derived.Test.YtcpcgpanmoellaaHsB
import Derived.RangeFuncBox
namespace Go.Proofs.Ytcpcgpanmoellaa
open Go.RowKit Go.Shelf
attribute [local go_sem] Oper.semAt_some

theorem box3_own {β : Type} (B : Nat) (t : TypeId) (f : β → Array Value) : Own (fun s W => W.heap[B]? = some (.cells (f s) t (0, 0))) := fun s X Y row hs hg hrow =>
  (hg.block B (lt_of_block hs) (fun e => by obtain ⟨o, ho, hc⟩ := hrow B e.symm; rw [hs] at ho; cases ho; cases hc)).trans hs
set_option maxRecDepth 100000 in
set_option maxHeartbeats 4000000 in
theorem appendSeq_in (n : Nat) (hn : 3 ≤ n) (Bs base : Nat) (lv : Value) (L : List En) (hle : L.length ≤ 100000) (w : World) (hBs : w.cell? ⟨Bs, 0, none⟩ = some lv) (hr : w.ownsRow base 67 3 lv L.length (L.flatMap enc)) :
    CallsIn Fence.wide n Try.prog 53 #[.slice none 0 0, .func (.func 48) #[] #[.pointer (some ⟨Bs, 0, none⟩)]] w fun e W' =>
      ∃ v, e = .returned v ∧ W'.ownsRow w.heap.size 67 3 v L.length (L.flatMap enc) ∧ (v = .slice none 0 0 ↔ L = []) ∧ Below w.heap.size w W' := by
  have h1 : 1 ≤ n := by omega
  obtain ⟨i0, hi, hz0, hz1, hz2⟩ := info_parts Try.infoEntry
  have hgl : ∀ g, lv.ownBlock = some g → g < w.heap.size := fun g hg => by
    rcases hr.2 with ⟨rfl, _⟩ | ⟨g', cap, cur, rfl, _, hgb, _⟩
    · simp [Value.ownBlock] at hg
    · simp [Value.ownBlock] at hg
      subst hg
      exact lt_of_block hgb
  have hBl : Bs < w.heap.size := World.block_lt_of_cell? (a := ⟨Bs, 0, none⟩) _ hBs
  refine callsIn_of_wp_marks Try.func53 rfl trivial ?_ rfl
  simp only [Try.ntmps53, List.size_toArray, List.length_cons, List.length_nil, Nat.reduceAdd, Nat.reduceSub, Array.replicate_succ, Array.replicate_zero, List.push_toArray, List.append_toArray, List.nil_append, List.cons_append]
  gi_wp2
  have bO := Boxed.new w 60 (.slice none 0 0)
  have hB0 : Below w.heap.size w (w.alloc (.cells #[.slice none 0 0] 60)) := (Below.refl _ w).alloc (Nat.le_refl _) _
  have hr0 : (w.alloc (.cells #[.slice none 0 0] 60)).ownsRow base 67 3 lv L.length (L.flatMap enc) := hr.alloc _
  refine wpIn_rangeFunc_ownH rfl h1 (gf := 48) (lb := #[.pointer (some ⟨Bs, 0, none⟩)]) rfl trivial (enters_of Try.func48 (by kernel_rfl) rfl)
    (vals_stops (n - 1) (by omega) Bs w.heap.size base lv L hle _ (by simp; omega) (by simp) ((hB0.cell (p := ⟨Bs, 0, none⟩) hBl).trans hBs) hr0 hgl) belowK_t (belowK_b (by simp)) (Below.refl _ _) (fun _ => rfl)
    (fun pre W => (∃ v, Boxed W w.heap.size 60 v ∧ W.ownsRow w.heap.size 67 3 v pre.length (pre.flatMap enc) ∧ (v = .slice none 0 0 ↔ pre = [])) ∧ Below w.heap.size w W)
    (fun _ _ _ => False)
    (OwnFrom.and (Own.from (holdsRow_own w.heap.size w.heap.size 60 67 3 (fun pre : List En => pre.length) (fun pre => pre.flatMap enc) (fun pre v => v = .slice none 0 0 ↔ pre = [])) _) (ownFrom_below (Nat.le_refl _) (by simp)))
    (fun _ _ _ _ _ hs _ _ => hs)
    ⟨⟨_, bO, World.ownsRow_nil _ _ _ _, by simp⟩, hB0⟩
    (fun x a' W => ∃ Bx, W.heap[Bx]? = some (.cells #[.int .i64 x.key, .int .i64 x.name, .int .i64 x.turn] 67 (0, 0)) ∧ a' = { tmps := #[.slice none 0 0, .func (.func 48) #[] #[.pointer (some ⟨Bs, 0, none⟩)], .pointer (some ⟨w.heap.size, 0, none⟩), undef, .slice none 0 0, .pointer (some ⟨Bx, 0, none⟩), .func (.func 48) #[] #[.pointer (some ⟨Bs, 0, none⟩)], env x, undef, undef, undef, undef, undef], defers := [] })
    (fun x a' => Own.from (fun s X Y row hs hg hrow => by
      obtain ⟨Bx, h1, h2⟩ := hs
      exact ⟨Bx, box3_own Bx 67 (fun _ : Unit => #[.int .i64 x.key, .int .i64 x.name, .int .i64 x.turn]) () X Y row h1 hg hrow, h2⟩) _)
    ?assign ?body ?done ?stop
  case assign =>
    rintro l pre x W K ⟨⟨v, hv, hrow, hnil⟩, hB⟩ hK
    gi_wp2
    exact hK _ _ ((KeepsOthers.alloc _ _).from _) ((Below.refl _ W).alloc hB.size _) ⟨⟨v, hv.alloc _, hrow.alloc _, hnil⟩, hB.alloc hB.size _⟩ ⟨W.heap.size, heap_alloc_new W _, rfl⟩
  case body =>
    rintro l pre x a' W hl - ⟨⟨v, hv, hrow, hnil⟩, hB⟩ ⟨Bx, hx, rfl⟩ hlt
    have hc := hv.cell
    obtain ⟨y0, y1, y2, -⟩ := three_box hx
    gi_wp2_with (gi_at_builtin; refine wpListIn_append_own _ rfl _ _ 60 rfl w.heap.size 67 i0 _ 3 24 Try.underlying60 hi hz0 hz1 hz2 rfl (by decide) _ _ _ rfl (hrow.alloc _) ⟨W.heap.size, 0, none⟩ 1 1 [.int .i64 x.key, .int .i64 x.name, .int .i64 x.turn] rfl rfl (World.news_of_block (cs := #[.int .i64 x.key, .int .i64 x.name, .int .i64 x.turn]) (t := 67) (fr := (0, 0)) (heap_alloc_new W _)) (by simp [Value.oneCell']) (by unfold maxLen; omega) (by omega) (by have := hB.size; simp; omega) ?_; intro v' w1 hown' hgrow _; obtain ⟨g', cap', rfl⟩ := own_shape hown' (by omega); obtain ⟨hv1, hv2, hr2, hk2, hb2⟩ := hv.appended (by decide) hrow hB.size (Nat.le_refl _) hown' hgrow; have hc1 := hv1.cell; have hf1 := hv1.frozen)
    exact ⟨hk2.from _, hb2, ⟨_, hv2, by rw [List.length_append, List.flatMap_append]; simpa [enc] using hr2, by simp⟩, hB.trans hb2⟩
  case done =>
    rintro D ys W hD rfl ⟨⟨v, hv, hrow, hnil⟩, hB⟩ hK
    have hc := hv.cell
    gi_wp2
    refine ⟨by simp, .inl ⟨_, _, rfl, run_takeDeferred hK, ?_⟩⟩
    exact ⟨_, results_tmp rfl _ _ _, v, rfl, ownsRow_putObj hrow _ hK rfl, hnil, hB.trans (belowK_b (w := w) (Nat.le_refl _) W D _ _ (by simp at hD; omega) hK rfl rfl)⟩
  case stop =>
    rintro D c pre W _ _ h _
    exact h.elim
set_option maxHeartbeats 1000000 in
theorem collect_any (Bs base : Nat) (lv : Value) (L : List En) (hle : L.length ≤ 100000) (w : World) (hBs : w.cell? ⟨Bs, 0, none⟩ = some lv) (hr : w.ownsRow base 67 3 lv L.length (L.flatMap enc)) :
    Calls Try.prog 46 #[.func (.func 48) #[] #[.pointer (some ⟨Bs, 0, none⟩)]] w fun e W' =>
      ∃ v, e = .returned v ∧ W'.ownsRow w.heap.size 67 3 v L.length (L.flatMap enc) ∧ (v = .slice none 0 0 ↔ L = []) ∧ Below w.heap.size w W' := by
  have HA := Lib.hid (callsIn_wide.1 (appendSeq_in 3 (by omega) Bs base lv L hle w hBs hr))
  clear hBs hr
  go_enter Try.func46, Try.ntmps46
  go_wp2_with fail
  refine HA.out.mono ?_
  rintro e w1 ⟨v, rfl, hE⟩
  have HE := Lib.hid hE
  clear hE
  go_wp2
  go_ret
  exact ⟨v, rfl, HE.out⟩
theorem values_any (ao : Option Addr) (len cap : Nat) (w : World) :
    Calls Try.prog 33 #[.slice ao len cap] w fun e w' => e = .returned (.func (.func 48) #[] #[.pointer (some ⟨w.heap.size, 0, none⟩)]) ∧ w' = w.alloc (.cells #[.slice ao len cap] 60) := callsIn_wide.1 (vals_in 3 ao len cap w)
end Go.Proofs.Ytcpcgpanmoellaa
