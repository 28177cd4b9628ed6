/-
  tree: a store's row.
-/
import Derived.Test.YtadkjjpopmiceaaTall
import Derived.Test.YtadkjjpopmiceaaStr3
import Derived.RangeFuncBox
namespace Go.Proofs.Ytadkjjpopmiceaa
open Go.RowKit Go.Lib Go.Shelf
attribute [local go_sem] Oper.semAt_some

/-- a row of twigs of the call's own. -/
def TwOwn (base : Nat) (w : World) (v : Value) (l : List Tw) : Prop := w.ownsRow base 32 5 v l.length (tvs l)
theorem TwOwn.later {B : Nat} {w w' : World} {v : Value} {l : List Tw} (h : TwOwn B w v l) (hb : Below w.heap.size w w') : TwOwn B w' v l := (Keeps.ofNew hb (fun _ => False)).row h (fun _ _ h => h)
theorem TwOwn.lift {B C : Nat} {w : World} {v : Value} {l : List Tw} (h : TwOwn B w v l) (hB : C ≤ B) : TwOwn C w v l := ownsRow_base h hB
def ToldT (w : World) (l : List Tw) (en : Ending) (w' : World) : Prop := ∃ v', en = .returned v' ∧ TwOwn w.heap.size w' v' l ∧ Below w.heap.size w w'
theorem fold2 (t : Array Value) (p q : Tmp) (u v : Value) : (#[p, q].zip #[u, v]).foldl (fun (t : Array Value) (x : Tmp × Value) => t.setIfInBounds x.1 x.2) t = (t.setIfInBounds p u).setIfInBounds q v := by
  have h : (#[p, q] : Array Tmp).zip #[u, v] = #[(p, u), (q, v)] := by rw [List.zip_toArray]; rfl
  rw [h]
  simp
theorem kpT_append {b B n : Nat} {X : Nat → Prop} {W w1 : World} {v v' : Value} {xs : List Value} {o : Obj} (hrow : W.ownsRow b 32 5 v n xs) (hg : (W.alloc o).grownBy w1 v.ownBlock) (hB : X B) : KpT b X W (w1.setCell ⟨B, 0, none⟩ v') := by
  refine ⟨?_, fun k ob hk ht ho => ?_⟩
  · have := hg.size
    simp [World.setCell] at this ⊢
    omega
  · have hlt := (Array.getElem?_eq_some_iff.1 ho).1
    rw [Below.heap_setCell _ _ _ _ (fun e => hk (by rw [show k = B from e]; exact hB))]
    refine (hg.block k (by simp; omega) (fun e => ht ?_)).trans ((Below.heap_alloc _ _ _ hlt).trans ho)
    rcases hrow.2 with ⟨rfl, -⟩ | ⟨g, cap, cur, rfl, hb, hgb, -⟩
    · simp [Value.ownBlock] at e
    · simp [Value.ownBlock] at e
      subst e
      rw [hgb] at ho
      cases ho
      exact ⟨hb, _, _, rfl⟩
set_option maxRecDepth 100000 in
set_option maxHeartbeats 4000000 in
theorem rowS_any {B x : Nat} {v : Value} {l : List Tw} {most peak : Nat} (w : World) (h : TAr B w x v l most peak) (hl : l.length ≤ 1000000) :
    Calls Try.prog 49 #[.agg #[.pointer (some ⟨x, 0, none⟩)]] w fun en w' => ToldT w l en w' := by
  have HA := Lib.hid h
  obtain ⟨i0, hi0, hz0, hz1, hz2⟩ := info_parts Try.infoTwig
  clear h
  refine (callsIn_wide (n := 9)).1 ?_
  refine callsIn_of_wp_marks Try.func49 rfl trivial ?_ rfl
  simp only [Try.ntmps49, List.size_toArray, List.length_cons, List.length_nil, Nat.reduceAdd, Nat.reduceSub, Array.replicate_succ, Array.replicate_zero, List.push_toArray, List.append_toArray, List.nil_append, List.cons_append]
  refine wpIn_wide.2 ?_
  go_upto_region 1 with (fail)
  refine gen_world (S := fun u => Below w.heap.size w u ∧ u.heap[w.heap.size]? = some (.cells #[.pointer (some ⟨x, 0, none⟩)] 84 (0, 0)) ∧ u.heap[w.heap.size + 1]? = some (.cells #[.slice none 0 0] 76 (0, 0))) (two_new w _ _) (fun u hu => ?_)
  obtain ⟨hb0, hx, hy⟩ := hu
  have cS := (block_cell' hx 0).1
  obtain ⟨X, hX⟩ : ∃ X, X = w.heap.size := ⟨_, rfl⟩
  obtain ⟨Bl, hBl⟩ : ∃ Bl, Bl = w.heap.size + 1 := ⟨_, rfl⟩
  rw [← hX] at cS ⊢
  rw [show X + 1 = Bl from by omega]
  rw [← hBl] at hy
  have HY := Lib.hid hy
  have HB0 := Lib.hid hb0
  have HXe := Lib.hid (And.intro hX hBl)
  clear hb0 hx hy hX hBl
  go_wp2_with fail
  refine (callsIn_wide.1 (all_in 5 (some ⟨x, 0, none⟩) u)).mono ?_
  rintro e w9 ⟨rfl, rfl⟩
  clear cS
  go_wp2_with fail
  have hal := (Below.refl u.heap.size u).alloc (Nat.le_refl _) (.cells #[.pointer (some ⟨x, 0, none⟩)] 81)
  have hBa := heap_alloc_new u (.cells #[.pointer (some ⟨x, 0, none⟩)] 81)
  obtain ⟨Ba, hBaE⟩ : ∃ Ba, Ba = u.heap.size := ⟨_, rfl⟩
  have HB9 := Lib.hid (HB0.out.trans (hal.mono HB0.out.size))
  have HY9 := Lib.hid ((hal.block _ (lt_of_block HY.out)).trans HY.out)
  rw [← hBaE] at hBa ⊢
  have hYB : Bl < Ba := by rw [hBaE]; exact lt_of_block HY.out
  have hXl : w.heap.size ≤ Bl := by have := HXe.out; omega
  clear hal hBaE
  generalize u.alloc (.cells #[.pointer (some ⟨x, 0, none⟩)] 81) = w9 at hBa HB9 HY9 ⊢
  have HBa := Lib.hid hBa
  have hA9 := HA.out.later HB9.out
  have HA9 := Lib.hid hA9
  have hxl : x < w.heap.size := lt_of_block HA.out.1
  have hgl : ∀ k, v.ownBlock = some k → k < w.heap.size := fun k hk => (HA.out.2.1.lt k hk).2
  have HGl := Lib.hid hgl
  have hBal := lt_of_block hBa
  have hwl := HB9.out.size
  clear hBa hA9 hgl
  refine (wpIn_wide (n := 9)).1 ?_
  refine range_strong3 (α := Fin l.length) (by omega) (gf := 85) (lb := #[.pointer (some ⟨Ba, 0, none⟩)]) rfl (enters_of Try.func85 (by kernel_rfl) rfl)
    (encs := fun y => #[.int .i64 ((y : Fin l.length).val : Int), twv (l[y.val]'y.isLt)]) (Kp := KpT w.heap.size fun k => k = w9.heap.size + 1 ∨ k = Bl) (S := fun ys => ys.map Fin.val = List.range l.length) (Sp := fun pre => ∃ k, k ≤ l.length ∧ pre.map Fin.val = List.range k) (N := l.length)
    (fun l2 J2 Jx2 W3 hb hs3 hJ2 hJx2 hY2 h02 => all1_in w.heap.size 8 (by omega) l2 Ba x _ B v l most peak J2 Jx2 W3 (fun k hk => by omega) (fun e => by omega) (fun e => by omega) (fun k hk => ⟨fun e => by have := HGl.out k hk; omega, HGl.out k hk⟩) hJ2 hJx2 hY2 ((hb.block _ (lt_of_block HBa.out)).trans HBa.out) (HA9.out.later hb) h02)
    KpT.trans (fun W o o' ho hc => KpT.putObj W _ o' (Or.inl rfl) ho) (fun _ => rfl)
    (fun pre W' => (∃ v, Boxed W' Bl 76 v ∧ W'.ownsRow w.heap.size 32 5 v pre.length (tvs (pre.map (fun y : Fin l.length => l[y.val]'y.isLt))) ∧ True) ∧ Below w.heap.size w W')
    (fun _ _ _ => False)
    (OwnFrom.and (Own.from (holdsRow_own w.heap.size Bl 76 32 5 (fun pre : List (Fin l.length) => pre.length) (fun pre => tvs (pre.map (fun y : Fin l.length => l[y.val]'y.isLt))) (fun _ _ => True)) w9.heap.size) (ownFrom_below (Nat.le_refl _) hwl))
    (fun _ _ _ _ _ hs _ _ => hs.elim)
    ⟨⟨_, HY9.out, World.ownsRow_nil _ _ _ _, trivial⟩, HB9.out⟩
    (fun y a' W' => ∃ Bx, W'.heap[Bx]? = some (.cells (twc (l[y.val]'y.isLt)).toArray 32 (0, 0)) ∧ a' = { tmps := #[.agg #[.pointer (some ⟨x, 0, none⟩)], .pointer (some ⟨X, 0, none⟩), .pointer (some ⟨Bl, 0, none⟩), undef, .pointer (some ⟨Bx, 0, none⟩), .pointer (some ⟨X, 0, none⟩), .pointer (some ⟨x, 0, none⟩), .func (.func 85) #[] #[.pointer (some ⟨Ba, 0, none⟩)], .int .i64 (y.val : Int), twv (l[y.val]'y.isLt), undef, undef, undef, undef, undef], defers := [] })
    (fun y a' => Own.from (fun s A C row hs hg hrow => by
      obtain ⟨Bx, h1, h3⟩ := hs
      exact ⟨Bx, (hg.block Bx (lt_of_block h1) (fun e => by obtain ⟨o, ho, hc⟩ := hrow Bx e.symm; rw [h1] at ho; cases ho; cases hc)).trans h1, h3⟩) _)
    ?assign ?body ?done ?stop
  case assign =>
    rintro l2 pre y W' K ⟨⟨v, hv, hrow, -⟩, hB⟩ hK
    simp only [fold2, List.setIfInBounds_toArray, List.set_cons_zero, List.set_cons_succ] at hK ⊢
    obtain ⟨t, ht⟩ : ∃ t, t = l[y.val]'y.isLt := ⟨_, rfl⟩
    rw [← ht] at hK ⊢
    unfold twv at hK ⊢
    clear ht
    gi_wp2
    exact hK _ _ ((KeepsOthers.alloc _ _).from _) (KpT.ofBelow ((Below.refl _ _).alloc (Nat.le_refl _) _)) ⟨⟨v, hv.alloc _, hrow.alloc _, trivial⟩, hB.alloc hB.size _⟩ ⟨W'.heap.size, heap_alloc_new W' _, rfl⟩
  case body =>
    rintro l2 pre y a' W' hl2 ⟨⟨v, hv, hrow, -⟩, hB⟩ ⟨Bx, hx, rfl⟩ hlen
    obtain ⟨t, ht⟩ : ∃ t, t = l[y.val]'y.isLt := ⟨_, rfl⟩
    rw [← ht] at hx ⊢
    unfold twv
    obtain ⟨y0, y1, y2, y3, y4⟩ := five_box hx
    have hc := hv.cell
    have hBs := hB.size
    have HT := Lib.hid ht
    have hpl : pre.length ≤ 1000000 := by omega
    obtain ⟨j, hj⟩ : ∃ j, j = pre.length := ⟨_, rfl⟩
    rw [← hj] at hrow hpl hlen
    have HJ := Lib.hid hj
    obtain ⟨ao, cap, rfl⟩ := own_val hrow
    have HRow := Lib.hid hrow
    have HV := Lib.hid hv
    clear ht hj hx hv
    gi_wp2_with (gi_at_builtin; refine wpListIn_append_own _ rfl _ _ 76 rfl w.heap.size 32 i0 _ 5 40 Try.underlying76 hi0 hz0 hz1 hz2 rfl (by decide) _ _ _ rfl (hrow.alloc _) ⟨W'.heap.size, 0, none⟩ 1 1 [.int .i64 t.rule, .int .i64 t.lev, .int .i64 t.fr, .int .i64 t.to, .int .i64 t.kids] rfl rfl (World.news_of_block (cs := #[.int .i64 t.rule, .int .i64 t.lev, .int .i64 t.fr, .int .i64 t.to, .int .i64 t.kids]) (t := 32) (fr := (0, 0)) (heap_alloc_new W' _)) (by simp [Value.oneCell']) (by unfold maxLen; omega) (by omega) (by simp; omega) ?_; intro v' w1 hown' hgrow _; obtain ⟨g', cap', rfl⟩ := own_shape hown' (by omega); obtain ⟨hv1, hv2, hr2, hk2, hb2⟩ := HV.out.appended (by decide) hrow hBs hXl hown' hgrow; have hc1 := hv1.cell; have hf1 := hv1.frozen; have HKp := Lib.hid (kpT_append (X := fun k => k = w9.heap.size + 1 ∨ k = Bl) (B := Bl) (v' := .slice (some ⟨g', 0, none⟩) (j + 1) cap') hrow hgrow (.inr rfl)); have HV2 := Lib.hid hv2; have HR2 := Lib.hid hr2; have HK2 := Lib.hid hk2; have HB2 := Lib.hid hb2; clear hv1 hv2 hr2 hk2 hb2 hown' hgrow)
    exact ⟨HK2.out.from _, HKp.out, ⟨_, HV2.out, by
      rw [List.length_append, List.length_singleton, ← HJ.out, List.map_append, tvs, List.flatMap_append]
      have := HR2.out
      simp only [List.map_cons, List.map_nil, ← HT.out]
      simpa [twc] using this, trivial⟩, hB.trans HB2.out⟩
  case done =>
    rintro D ys W' hD hys ⟨⟨v, hv, hrow, -⟩, hB⟩ hKD
    have hyl : ys.length = l.length := by
      have := congrArg List.length hys
      simpa using this
    have hml : ys.map (fun y : Fin l.length => l[y.val]'y.isLt) = l := by
      have : ys.map (fun y : Fin l.length => l[y.val]'y.isLt) = (ys.map Fin.val).map (fun i => l.getD i ⟨0, 0, 0, 0, 0⟩) := by
        rw [List.map_map]
        apply List.map_congr_left
        intro y _
        simp
      rw [this, hys]
      apply List.ext_getElem
      · simp
      · intro i h1 h2
        simp [h2]
    rw [hyl, hml] at hrow
    obtain ⟨ao, cap, rfl⟩ := own_val hrow
    have hc := hv.cell
    have hf := hv.frozen
    have HRow := Lib.hid hrow
    have HKD := Lib.hid hKD
    have HV := Lib.hid hv
    have HB := Lib.hid hB
    clear hrow hKD hv hml hys hyl hB
    go_wp2_with fail
    have hK2 : (W'.setCell ⟨Bl, 0, none⟩ (.slice ao l.length cap)).heap[D]? = some (.deferred (some [])) := (KeepsOthers.setCell W' ⟨Bl, 0, none⟩ (.slice ao l.length cap)).same D _ HKD.out rfl
    have hset : Keeps (fun k => k = Bl) W' (W'.setCell ⟨Bl, 0, none⟩ (.slice ao l.length cap)) := (Keeps.refl (fun k => k = Bl) W').setCell (p := ⟨Bl, 0, none⟩) rfl _
    have hput : Keeps (fun k => k = D) (W'.setCell ⟨Bl, 0, none⟩ (.slice ao l.length cap)) ((W'.setCell ⟨Bl, 0, none⟩ (.slice ao l.length cap)).putObj D (.deferred none)) := (Keeps.refl (fun k => k = D) _).grown (grownBy_putObj' _ D (.deferred none)) (fun k e => by cases e; rfl)
    have hne := own_ne' (show W'.heap[Bl]? = _ from HV.out) (by decide) HRow.out
    have hr1 := hset.row HRow.out (fun k hk e => hne (by rw [← e]; exact hk))
    have hr2 := hput.row hr1 (fun k hk e => by
      obtain ⟨g', cap', cur, hv', hbg, hgb, -⟩ := hr1.2.resolve_left (fun h => by
        obtain ⟨h1, -⟩ := h
        rw [h1] at hk
        simp [Value.ownBlock] at hk)
      rw [hv'] at hk
      simp [Value.ownBlock] at hk
      rw [hk, e, hK2] at hgb
      simp at hgb)
    have hc4 : (W'.setCell ⟨Bl, 0, none⟩ (.slice ao l.length cap)).cell? ⟨Bl, 0, none⟩ = some (.slice ao l.length cap) := (HV.out.set _).cell
    have hc5 : ((W'.setCell ⟨Bl, 0, none⟩ (.slice ao l.length cap)).putObj D (.deferred none)).cell? ⟨Bl, 0, none⟩ = some (.slice ao l.length cap) := cell_kept hc4 (grownBy_putObj' _ D (.deferred none)) (fun r e => by cases e; exact ⟨_, hK2, rfl⟩)
    refine ⟨by simp, .inl ⟨_, _, rfl, run_takeDeferred hK2, ?_⟩⟩
    refine ⟨.slice ao l.length cap, by simp [results, Try.f49, go_sem, hc5], _, rfl, hr2, ?_⟩
    have hb1 := HB.out.setCell (p := ⟨Bl, 0, none⟩) hXl (.slice ao l.length cap)
    exact hb1.grown (grownBy_putObj' _ D (.deferred none)) hb1.size (fun k hk => by cases hk; omega)
  case stop => exact fun D c pre W' hD hpre h => h.elim
end Go.Proofs.Ytadkjjpopmiceaa
