/-
  Gaps.
-/
import Derived.Test.YtndminmefacmnaaSnM
import Derived.RangeFuncBox
namespace Go.Proofs.Ytndminmefacmnaa
open Go.RowKit Go.Lib Go.Shelf
attribute [local go_sem] Oper.semAt_some

theorem gapsS_sweep {fr tz : Int} {l S : List Sg} (h0 : 0 ≤ fr) (h1 : fr < tz) (hp : S.Perm ((l.filter rightS).filter neS)) (hs : S.Pairwise (fun a b => ¬ ltS b a)) : sweep tz (S ++ [⟨tz, tz⟩]) fr = gapsS ⟨fr, tz⟩ l := by
  unfold gapsS
  rw [if_pos (by simp [rightS]; omega)]
  have hm : ∀ s, s ∈ S ↔ s ∈ l ∧ rightS s = true ∧ empS s = false := fun s => by
    rw [hp.mem_iff, List.mem_filter, List.mem_filter]
    simp only [Bool.not_eq_true']
    exact and_assoc
  refine sweep_canon l tz S fr h1 h0 (fun s hss => ?_) (hs.imp fun {a b} h => ?_) (fun x _ _ => ?_)
  · obtain ⟨-, h2, h3⟩ := (hm s).1 hss
    simp only [rightS, decide_eq_true_eq] at h2
    simp only [empS, beq_eq_false_iff_ne] at h3
    omega
  · unfold ltS at h
    omega
  · rw [Bool.eq_iff_iff]
    unfold cov
    rw [List.any_eq_true, List.any_eq_true]
    constructor
    · rintro ⟨s, h2, h3⟩
      refine ⟨s, (hm s).2 ⟨h2, ?_, ?_⟩, h3⟩
      · have := has_iff.1 h3
        simp [rightS]
        omega
      · have := has_iff.1 h3
        simp only [empS, beq_eq_false_iff_ne]
        omega
    · rintro ⟨s, h2, h3⟩
      exact ⟨s, ((hm s).1 h2).1, h3⟩
theorem gapsF_any (fr tz : Int) (ao : Option Addr) (n cap : Nat) (w : World) :
    Calls Try.prog 39 #[.agg #[.int .i64 fr, .int .i64 tz], .slice ao n cap] w fun e w' => e = .returned (.func (.func 52) #[] #[.pointer (some ⟨w.heap.size, 0, none⟩), .pointer (some ⟨w.heap.size + 1, 0, none⟩)]) ∧
      w' = (w.alloc (.cells #[.int .i64 fr, .int .i64 tz] 23 (0, 0))).alloc (.cells #[.slice ao n cap] 51 (0, 0)) := by
  go_enter Try.func39, Try.ntmps39
  go_wp2
  go_ret
  exact ⟨rfl, rfl⟩
theorem gaps_none (fr tz : Int) (v : Value) (w : World) (htz : tz ≤ 9223372036854775807) (hz : lenS ⟨fr, tz⟩ = 0) :
    Calls Try.prog 10 #[.agg #[.int .i64 fr, .int .i64 tz], v] w fun e w' => e = .returned (.slice none 0 0) ∧ Below w.heap.size w w' := by
  have HL := Lib.hid (fun u => sLen_any fr tz u htz)
  rw [hz] at HL
  clear hz htz
  go_enter Try.func10, Try.ntmps10
  go_upto_region 1 with (fail)
  refine gen_world (S := fun u => Below w.heap.size w u ∧ u.heap[w.heap.size]? = some (.cells #[.int .i64 fr, .int .i64 tz] 23 (0, 0)) ∧ u.heap[w.heap.size + 1]? = some (.cells #[.slice none 0 0] 24 (0, 0))) (two_new w _ _) (fun u hu => ?_)
  obtain ⟨hb0, hx, hy⟩ := hu
  obtain ⟨x0, x1⟩ := two_box hx
  have HY := Lib.hid hy
  have HB := Lib.hid hb0
  obtain ⟨X, hX⟩ : ∃ X, X = w.heap.size := ⟨_, rfl⟩
  have HXl := Lib.hid hX
  rw [← hX] at x0 x1 HY ⊢
  clear hb0 hx hy hX
  go_wp2_with fail
  refine (HL.out _).mono ?_
  rintro e u2 ⟨rfl, hb⟩
  have hy2 := (hb.block _ (lt_of_block HY.out)).trans HY.out
  have HB2 := Lib.hid (HB.out.trans (hb.mono HB.out.size))
  have y0 := (block_cell' hy2 0).1
  have f0 := (block_cell' hy2 0).2
  have q0 := (block_cell' (block_setCell' (k := 0) (u := .slice none 0 0) hy2) 0).1
  have HB3 := Lib.hid (HB2.out.setCell (p := ⟨X + 1, 0, none⟩) (by have := HXl.out; simp only []; omega) (.slice none 0 0))
  clear x0 x1 hb hy2
  go_wp2
  exact bodyPost_ret (v := .slice none 0 0) (by simp [results, Try.f10, go_sem, q0]) rfl ⟨rfl, HB3.out⟩
/-- a row of spans that is newer than b. -/
theorem kpT_append {b B n : Nat} {X : Nat → Prop} {W w1 : World} {v v' : Value} {xs : List Value} {o : Obj} (hrow : W.ownsRow b 23 2 v n xs) (hg : (W.alloc o).grownBy w1 v.ownBlock) (hB : X B) : KpT b X W (w1.setCell ⟨B, 0, none⟩ v') := by
  refine ⟨?_, fun k ob hk ht ho => ?_⟩
  · have := hg.size
    simp [World.setCell] at this ⊢
    omega
  · have hlt := (Array.getElem?_eq_some_iff.1 ho).1
    rw [Below.heap_setCell _ _ _ _ (fun e => hk (by rw [show k = B from e]; exact hB))]
    refine (hg.block k (by simp; omega) (fun e => ht ?_)).trans ((Below.heap_alloc _ _ _ hlt).trans ho)
    rcases hrow.2 with ⟨rfl, -⟩ | ⟨g, cap, cur, rfl, hb, hgb, -⟩
    · simp [Value.ownBlock] at e
    · simp [Value.ownBlock] at e
      subst e
      rw [hgb] at ho
      cases ho
      exact ⟨hb, _, _, rfl⟩
theorem fold1 (t : Array Value) (p : Tmp) (u : Value) : (#[p].zip #[u]).foldl (fun (t : Array Value) (x : Tmp × Value) => t.setIfInBounds x.1 x.2) t = t.setIfInBounds p u := by
  have h : (#[p] : Array Tmp).zip #[u] = #[(p, u)] := by rw [List.zip_toArray]; rfl
  rw [h]
  simp
set_option maxRecDepth 100000 in
set_option maxHeartbeats 8000000 in
theorem gaps_go (fr tz : Int) (v : Value) (l : List Sg) (w : World) (h : SgsAt w v l) (hl : l.length ≤ 100000) (htz : tz ≤ 9223372036854775807) (h0 : 0 ≤ fr) (h1 : fr < tz) :
    Calls Try.prog 10 #[.agg #[.int .i64 fr, .int .i64 tz], v] w fun e w' => ∃ v', e = .returned v' ∧ SgOwn w.heap.size w' v' (gapsS ⟨fr, tz⟩ l) ∧ Below w.heap.size w w' := by
  have H := Lib.hid h
  have HLl := Lib.hid hl
  have HL := Lib.hid (fun u => sLen_any fr tz u htz)
  have hz : lenS ⟨fr, tz⟩ = tz - fr := if_pos (by simp [rightS]; omega)
  rw [hz] at HL
  have hz0 : ((tz - fr) == 0) = false := by simp; omega
  have hz0' : decide (tz - fr = 0) = false := by simp; omega
  have HF := Lib.hid (And.intro h0 h1)
  obtain ⟨i0, hi0, hzz0, hz1, hz2⟩ := info_parts Try.infoSpan
  clear h hl hz htz h0 h1
  refine (callsIn_wide (n := 9)).1 ?_
  refine callsIn_of_wp_marks Try.func10 rfl trivial ?_ rfl
  simp only [Try.ntmps10, List.size_toArray, List.length_cons, List.length_nil, Nat.reduceAdd, Nat.reduceSub, Array.replicate_succ, Array.replicate_zero, List.push_toArray, List.append_toArray, List.nil_append, List.cons_append]
  refine wpIn_wide.2 ?_
  go_upto_region 1 with (fail)
  refine gen_world (S := fun u => Below w.heap.size w u ∧ u.heap[w.heap.size]? = some (.cells #[.int .i64 fr, .int .i64 tz] 23 (0, 0)) ∧ u.heap[w.heap.size + 1]? = some (.cells #[.slice none 0 0] 24 (0, 0))) (two_new w _ _) (fun u hu => ?_)
  obtain ⟨hb0, hx, hy⟩ := hu
  obtain ⟨x0, x1⟩ := two_box hx
  have HX := Lib.hid hx
  have HY := Lib.hid hy
  have HB := Lib.hid hb0
  obtain ⟨X, hX⟩ : ∃ X, X = w.heap.size := ⟨_, rfl⟩
  obtain ⟨Bo, hBo⟩ : ∃ Bo, Bo = w.heap.size + 1 := ⟨_, rfl⟩
  have HXe := Lib.hid (And.intro hX hBo)
  rw [← hX] at x0 x1 HX ⊢
  rw [show X + 1 = Bo from by omega]
  rw [← hBo] at HY
  clear hb0 hx hy hX hBo
  go_wp2_with fail
  refine (HL.out _).mono ?_
  rintro e u2 ⟨rfl, hb⟩
  have HX2 := Lib.hid ((hb.block _ (lt_of_block HX.out)).trans HX.out)
  have HY2 := Lib.hid ((hb.block _ (lt_of_block HY.out)).trans HY.out)
  have HB2 := Lib.hid (HB.out.trans (hb.mono HB.out.size))
  clear x0 x1 hb HX HY HB HL
  go_wp2_with fail
  refine (right_any v l u2 (H.out.later HB2.out) (by have := HLl.out; omega)).mono ?_
  rintro e u3 ⟨v1, rfl, ho, hb⟩
  have HO3 := Lib.hid ho
  have HX3 := Lib.hid ((hb.block _ (lt_of_block HX2.out)).trans HX2.out)
  have HY3 := Lib.hid ((hb.block _ (lt_of_block HY2.out)).trans HY2.out)
  have HB3 := Lib.hid (HB2.out.trans (hb.mono HB2.out.size))
  have HLt := Lib.hid (show X < u2.heap.size ∧ Bo < u2.heap.size ∧ w.heap.size ≤ u2.heap.size ∧ u2.heap.size ≤ u3.heap.size from ⟨lt_of_block HX2.out, lt_of_block HY2.out, HB2.out.size, hb.size⟩)
  generalize u2.heap.size = B2 at HO3 HLt
  clear ho hb HX2 HY2 HB2
  go_wp2_with fail
  refine (del_any u3 rfl (show World.ownsRow _ _ _ _ _ _ _ from HO3.out) (by have := List.length_filter_le rightS l; have := HLl.out; omega) HLt.out.2.2.2).mono ?_
  rintro e u4 ⟨v2, rfl, ho, hk⟩
  have HO4 := Lib.hid ho
  have HX4 := Lib.hid (hk.obj HX3.out (fun e => by have := HLt.out; omega))
  have HY4 := Lib.hid (hk.obj HY3.out (fun e => by have := HLt.out; omega))
  have HB4 := Lib.hid (HB3.out.trans (hk.below HB3.out.size (fun k e => by have := HLt.out; omega)))
  have HSz4 := Lib.hid (show B2 ≤ u4.heap.size from Nat.le_trans HLt.out.2.2.2 hk.size)
  clear ho hk HO3 HX3 HY3 HB3
  go_wp2_with fail
  refine (sort_own u4 (by have := List.length_filter_le rightS l; have := List.length_filter_le neS (l.filter rightS); have := HLl.out; omega) (show World.ownsRow _ _ _ _ _ _ _ from HO4.out)).mono ?_
  rintro e u5 ⟨rfl, S, hp, hs, ho, hk⟩
  have HG := Lib.hid (gapsS_sweep HF.out.1 HF.out.2 hp hs)
  have hSl := hp.length_eq
  obtain ⟨m, hm⟩ : ∃ m, m = S.length := ⟨_, rfl⟩
  rw [← hSl, ← hm] at ho
  have HO5 := Lib.hid ho
  have HX5 := Lib.hid (hk.obj HX4.out (fun e => by have := HLt.out; omega))
  have HY5 := Lib.hid (hk.obj HY4.out (fun e => by have := HLt.out; omega))
  have HB5 := Lib.hid (HB4.out.trans (hk.below HB4.out.size (fun k e => by have := HLt.out; omega)))
  have HSz5 := Lib.hid (show B2 ≤ u5.heap.size from Nat.le_trans HSz4.out hk.size)
  have HMl := Lib.hid (show m ≤ 1000000 from by
    have := List.length_filter_le rightS l
    have := List.length_filter_le neS (l.filter rightS)
    have := HLl.out
    rw [hm, hSl]; omega)
  have HMe := Lib.hid hm
  clear ho hk hp hs hSl hm HO4 HX4 HY4 HB4 HSz4 HLl HF
  obtain ⟨x0, x1⟩ := two_box HX5.out
  obtain ⟨va, vc, rfl⟩ := own_val HO5.out
  go_wp2_with fail
  refine (gapsF_any fr tz va m vc u5).mono ?_
  rintro e w9 ⟨rfl, rfl⟩
  clear x0 x1
  go_wp2_with fail
  obtain ⟨hb9, hs9, hl9⟩ := two_new u5 (.cells #[.int .i64 fr, .int .i64 tz] 23 (0, 0)) (.cells #[.slice va m vc] 51 (0, 0))
  have HY9 := Lib.hid ((hb9.block _ (lt_of_block HY5.out)).trans HY5.out)
  have HB9 := Lib.hid (HB5.out.trans (hb9.mono HB5.out.size))
  have HO9 := Lib.hid ((Keeps.ofNew hb9 (fun _ => False)).row HO5.out (fun _ _ h => h))
  have HS9 := Lib.hid hs9
  have HL9 := Lib.hid hl9
  have hgl : ∀ k, (Value.slice va m vc).ownBlock = some k → B2 ≤ k ∧ k < u5.heap.size := fun k hk => HO5.out.lt k hk
  have HGl := Lib.hid hgl
  have HSz9 := Lib.hid (show u5.heap.size + 2 ≤ ((u5.alloc (.cells #[.int .i64 fr, .int .i64 tz] 23 (0, 0))).alloc (.cells #[.slice va m vc] 51 (0, 0))).heap.size from by simp)
  obtain ⟨Ba, hBa⟩ : ∃ Ba, Ba = u5.heap.size := ⟨_, rfl⟩
  have HBa := Lib.hid hBa
  rw [← hBa] at HS9 HL9 HGl HSz9 ⊢
  clear hb9 hs9 hl9 hgl hBa HO5 HX5 HY5 HB5
  generalize (u5.alloc (.cells #[.int .i64 fr, .int .i64 tz] 23 (0, 0))).alloc (.cells #[.slice va m vc] 51 (0, 0)) = w9 at HY9 HB9 HO9 HS9 HL9 HSz9 ⊢
  have hXl : w.heap.size ≤ Bo := by have := HXe.out; omega
  have hwl := HB9.out.size
  refine (wpIn_wide (n := 9)).1 ?_
  refine range_strong4 (α := Sg) (by omega) (gf := 52) (lb := #[.pointer (some ⟨Ba, 0, none⟩), .pointer (some ⟨Ba + 1, 0, none⟩)]) rfl (enters_of Try.func52 (by kernel_rfl) rfl)
    (encs := fun y => #[sgv y]) (Kp := KpT w9.heap.size fun k => k = w9.heap.size + 1 ∨ k = Bo) (S := fun ys => ys = gapsS ⟨fr, tz⟩ l) (Sp := fun _ => True) (N := m + 1) (X := fun k => (Value.slice va m vc).ownBlock = some k) (fun k hk => by have := HGl.out k hk; have := HSz9.out; omega)
    (fun l2 J2 Jx2 W3 hb hs3 hJ2 hJx2 hJX hY2 h02 => (gaps1_in w9.heap.size 8 (by omega) l2 Ba (Ba + 1) B2 m (fun k => k = w9.heap.size + 1 ∨ k = Bo) (.slice va m vc) S HMe.out HMl.out fr tz J2 Jx2 W3
      (fun e => by have := HLt.out; have := HSz5.out; have := HBa.out; have := HSz9.out; omega) (by have := HSz9.out; omega) (fun k e => by have := HLt.out; have := HSz5.out; have := HBa.out; have := HSz9.out; omega) (fun g hg e => by have := HGl.out g hg; have := HLt.out; have := HSz9.out; omega) (by have := HSz5.out; have := HBa.out; have := HSz9.out; have := hb.size; omega)
      hJ2 hJX hY2 ((hb.block _ (lt_of_block HS9.out)).trans HS9.out) ((hb.block _ (lt_of_block HL9.out)).trans HL9.out) ((Keeps.ofNew hb (fun _ => False)).row HO9.out (fun _ _ h => h)) h02).mono fun e W' hh => ⟨hh.1, hh.2.elim (fun ⟨ys, h1, h2⟩ => .inl ⟨ys, h1.trans HG.out, h2⟩) (fun ⟨pre, _, h2⟩ => .inr ⟨pre, trivial, h2⟩)⟩)
    KpT.trans (fun W o o' ho hc => KpT.putObj W _ o' (Or.inl rfl) ho) (fun _ => rfl)
    (fun pre W' => (∃ v, Boxed W' Bo 24 v ∧ W'.ownsRow w9.heap.size 23 2 v pre.length (pre.flatMap sgc) ∧ True) ∧ Below w.heap.size w W' ∧ w9.heap.size ≤ W'.heap.size)
    (fun _ _ _ => False)
    (OwnFrom.and (Own.from (holdsRow_own w9.heap.size Bo 24 23 2 (fun pre : List Sg => pre.length) (fun pre => pre.flatMap sgc) (fun _ _ => True)) w9.heap.size) (OwnFrom.and (ownFrom_below (Nat.le_refl _) hwl) (fun _ A C row hs hg _ => Nat.le_trans hs hg.size)))
    (fun pre A B hk hs => by
      obtain ⟨⟨v, hv, hr, -⟩, hb, hsz⟩ := hs
      refine ⟨⟨v, hk.obj hv (fun e => ?_), hk.row hr (fun g hg e => ?_), trivial⟩, hb.trans (hk.below hb.size (fun k e => ?_)), Nat.le_trans hsz hk.size⟩
      · have := HGl.out _ e; have := HLt.out; omega
      · have := HGl.out _ e; have := (hr.lt g hg).1; have := HSz9.out; omega
      · have := HGl.out _ e; have := HLt.out; omega)
    (fun _ _ _ _ _ hs _ _ => hs.elim)
    ⟨⟨_, HY9.out, World.ownsRow_nil _ _ _ _, trivial⟩, HB9.out, Nat.le_refl _⟩
    (fun y a' W' => ∃ Bx, W'.heap[Bx]? = some (.cells (sgc y).toArray 23 (0, 0)) ∧ a' = { tmps := #[.agg #[.int .i64 fr, .int .i64 tz], v, .pointer (some ⟨X, 0, none⟩), undef, .pointer (some ⟨Bo, 0, none⟩), .slice va m vc, .pointer (some ⟨Bx, 0, none⟩), .agg #[.int .i64 fr, .int .i64 tz], .int .i64 (tz - fr), .bool false, v, v1, .slice va m vc, .slice va m vc, .tuple #[], .agg #[.int .i64 fr, .int .i64 tz], .slice va m vc, .func (.func 52) #[] #[.pointer (some ⟨Ba, 0, none⟩), .pointer (some ⟨Ba + 1, 0, none⟩)], sgv y, undef, undef, undef, undef, undef], defers := [] })
    (fun y a' => Own.from (fun s A C row hs hg hrow => by
      obtain ⟨Bx, h1, h3⟩ := hs
      exact ⟨Bx, (hg.block Bx (lt_of_block h1) (fun e => by obtain ⟨o, ho, hc⟩ := hrow Bx e.symm; rw [h1] at ho; cases ho; cases hc)).trans h1, h3⟩) _)
    ?assign ?body ?done ?stop
  case assign =>
    rintro l2 pre y W' K ⟨⟨v, hv, hrow, -⟩, hB, hW9⟩ hK
    simp only [fold1, List.setIfInBounds_toArray, List.set_cons_zero, List.set_cons_succ] at hK ⊢
    gi_wp2
    exact hK _ _ ((KeepsOthers.alloc _ _).from _) (KpT.ofBelow ((Below.refl _ _).alloc (Nat.le_refl _) _)) ⟨⟨v, hv.alloc _, hrow.alloc _, trivial⟩, hB.alloc hB.size _, Nat.le_trans hW9 (by simp)⟩ ⟨W'.heap.size, heap_alloc_new W' _, rfl⟩
  case body =>
    rintro l2 pre y a' W' hl2 ⟨⟨v, hv, hrow, -⟩, hB, hw9⟩ ⟨Bx, hx, rfl⟩ hlen
    obtain ⟨yf, yt⟩ := y
    have hx : W'.heap[Bx]? = some (.cells #[.int .i64 yf, .int .i64 yt] 23 (0, 0)) := hx
    obtain ⟨y0, y1⟩ := two_box hx
    have hc := hv.cell
    have hBs := hB.size
    have hpl : pre.length ≤ 1000000 := by have := HMl.out; omega
    obtain ⟨j, hj⟩ : ∃ j, j = pre.length := ⟨_, rfl⟩
    rw [← hj] at hrow hpl hlen
    have HJ := Lib.hid hj
    obtain ⟨ao, cap, rfl⟩ := own_val hrow
    have HRow := Lib.hid hrow
    have HV := Lib.hid hv
    clear hj hx hv
    gi_wp2_with (gi_at_builtin; refine wpListIn_append_own _ rfl _ _ 24 rfl w9.heap.size 23 i0 _ 2 16 Try.underlying24 hi0 hzz0 hz1 hz2 rfl (by decide) _ _ _ rfl (hrow.alloc _) ⟨W'.heap.size, 0, none⟩ 1 1 [.int .i64 yf, .int .i64 yt] rfl rfl (World.news_of_block (cs := #[.int .i64 yf, .int .i64 yt]) (t := 23) (fr := (0, 0)) (heap_alloc_new W' _)) (by simp [Value.oneCell']) (by unfold maxLen; omega) (by omega) (by simp; omega) ?_; intro v' w1 hown' hgrow _; obtain ⟨g', cap', rfl⟩ := own_shape2 hown' (by omega); obtain ⟨hv1, hv2, -, hk2, hb2⟩ := HV.out.appended (by decide) (ownsRow_base hrow hwl) hBs hXl (ownsRow_base hown' hwl) hgrow; have hr2 := hown'.kept (grownBy_setCell' w1 Bo (.slice (some ⟨g', 0, none⟩) (j + 1) cap')) (.inr (hv1.not_row (by decide) hown').symm); have hc1 := hv1.cell; have hf1 := hv1.frozen; have HKp := Lib.hid (kpT_append (X := fun k => k = w9.heap.size + 1 ∨ k = Bo) (B := Bo) (v' := .slice (some ⟨g', 0, none⟩) (j + 1) cap') hrow hgrow (.inr rfl)); have HV2 := Lib.hid hv2; have HR2 := Lib.hid hr2; have HK2 := Lib.hid hk2; have HB2 := Lib.hid hb2; clear hv1 hv2 hr2 hk2 hb2 hown' hgrow)
    exact ⟨HK2.out.from _, HKp.out, ⟨_, HV2.out, by
      rw [List.length_append, List.length_singleton, ← HJ.out, List.flatMap_append]
      have := HR2.out
      simpa [sgc] using this, trivial⟩, hB.trans HB2.out, Nat.le_trans hw9 HB2.out.size⟩
  case done =>
    rintro D ys W' hD rfl ⟨⟨v, hv, hrow, -⟩, hB, -⟩ hKD
    obtain ⟨j, hj⟩ : ∃ j, j = (gapsS ⟨fr, tz⟩ l).length := ⟨_, rfl⟩
    rw [← hj] at hrow
    have HJ := Lib.hid hj
    obtain ⟨ao, cap, rfl⟩ := own_val hrow
    have hc := hv.cell
    have hf := hv.frozen
    have HRow := Lib.hid hrow
    have HKD := Lib.hid hKD
    have HV := Lib.hid hv
    have HB := Lib.hid hB
    clear hrow hKD hv hB hj
    go_wp2_with fail
    have hK2 : (W'.setCell ⟨Bo, 0, none⟩ (.slice ao j cap)).heap[D]? = some (.deferred (some [])) := (KeepsOthers.setCell W' ⟨Bo, 0, none⟩ (.slice ao j cap)).same D _ HKD.out rfl
    have hset : Keeps (fun k => k = Bo) W' (W'.setCell ⟨Bo, 0, none⟩ (.slice ao j cap)) := (Keeps.refl (fun k => k = Bo) W').setCell (p := ⟨Bo, 0, none⟩) rfl _
    have hput : Keeps (fun k => k = D) (W'.setCell ⟨Bo, 0, none⟩ (.slice ao j cap)) ((W'.setCell ⟨Bo, 0, none⟩ (.slice ao j cap)).putObj D (.deferred none)) := (Keeps.refl (fun k => k = D) _).grown (grownBy_putObj' _ D (.deferred none)) (fun k e => by cases e; rfl)
    have hne := own_ne' (show W'.heap[Bo]? = _ from HV.out) (by decide) HRow.out
    have hr1 := hset.row HRow.out (fun k hk e => hne (by rw [← e]; exact hk))
    have hr2 := hput.row hr1 (fun k hk e => by
      obtain ⟨g', cap', cur, hv', hbg, hgb, -⟩ := hr1.2.resolve_left (fun h => by
        obtain ⟨h1, -⟩ := h
        rw [h1] at hk
        simp [Value.ownBlock] at hk)
      rw [hv'] at hk
      simp [Value.ownBlock] at hk
      rw [hk, e, hK2] at hgb
      simp at hgb)
    have hc4 : (W'.setCell ⟨Bo, 0, none⟩ (.slice ao j cap)).cell? ⟨Bo, 0, none⟩ = some (.slice ao j cap) := (HV.out.set _).cell
    have hc5 : ((W'.setCell ⟨Bo, 0, none⟩ (.slice ao j cap)).putObj D (.deferred none)).cell? ⟨Bo, 0, none⟩ = some (.slice ao j cap) := cell_kept hc4 (grownBy_putObj' _ D (.deferred none)) (fun r e => by cases e; exact ⟨_, hK2, rfl⟩)
    refine ⟨by simp, .inl ⟨_, _, rfl, run_takeDeferred hK2, ?_⟩⟩
    have hb1 := HB.out.setCell (p := ⟨Bo, 0, none⟩) hXl (.slice ao j cap)
    refine ⟨.slice ao j cap, by simp [results, Try.f10, go_sem, hc5], _, rfl, ?_, hb1.grown (grownBy_putObj' _ D (.deferred none)) hb1.size (fun k hk => by cases hk; omega)⟩
    unfold SgOwn
    rw [← HJ.out]
    exact ownsRow_base hr2 hwl
  case stop =>
    rintro D c pre W' _ _ h _
    exact h.elim
/-- **Gaps.** -/
theorem gaps_any (fr tz : Int) (v : Value) (l : List Sg) (w : World) (h : SgsAt w v l) (hl : l.length ≤ 100000) (htz : tz ≤ 9223372036854775807) :
    Calls Try.prog 10 #[.agg #[.int .i64 fr, .int .i64 tz], v] w fun e w' => ∃ v', e = .returned v' ∧ SgOwn w.heap.size w' v' (gapsS ⟨fr, tz⟩ l) ∧ Below w.heap.size w w' := by
  by_cases hz : lenS ⟨fr, tz⟩ = 0
  · refine (gaps_none fr tz v w htz hz).mono ?_
    rintro e w' ⟨rfl, hb⟩
    have hn : gapsS ⟨fr, tz⟩ l = [] := by
      unfold gapsS
      split
      · rename_i hr
        refine canon_end ?_
        unfold lenS at hz
        rw [if_pos hr] at hz
        simp only at hz ⊢
        omega
      · rfl
    exact ⟨_, rfl, by rw [hn]; exact World.ownsRow_nil _ _ _ _, hb⟩
  · have h2 : 0 ≤ fr ∧ fr < tz := by
      by_cases hr : rightS ⟨fr, tz⟩ = true
      · unfold lenS at hz
        rw [if_pos hr] at hz
        simp only [rightS, decide_eq_true_eq] at hr
        simp only at hz
        omega
      · exact absurd (if_neg hr) hz
    exact gaps_go fr tz v l w h hl htz h2.1 h2.2
end Go.Proofs.Ytndminmefacmnaa
