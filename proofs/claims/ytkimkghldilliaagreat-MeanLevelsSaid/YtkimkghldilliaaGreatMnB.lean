/-
  mean: what comes of nodes, as it lies.
-/
import Derived.Test.YtkimkghldilliaaGreatMnA
import Derived.Test.YtkimkghldilliaaGreatCat
namespace Go.Proofs.YtkimkghldilliaaGreat
open Go.RowKit Go.Lib

def foIs : Fo → Bool
  | .miss _ => false
  | .hit _ => true
def foEn : Fo → Int
  | .miss _ => 0
  | .hit h => h.en
def foFar : Fo → Int
  | .miss far => far
  | .hit h => h.far
def foRt : Fo → Int
  | .miss _ => 0
  | .hit h => h.roots
def foC (r : Fo) (fv : Value) : Array Value := #[.bool (foIs r), .int .i64 (foEn r), .int .i64 (foFar r), .int .i64 (foRt r), fv]
def foV (r : Fo) (fv : Value) : Value := .agg (foC r fv)
def foF : Fo → List Tw
  | .miss _ => []
  | .hit h => h.forest
def FoAt (w : World) (v : Value) (r : Fo) : Prop := ∃ fv, v = foV r fv ∧ TwIn w fv (foF r)
theorem FoAt.later {w w' : World} {v : Value} {r : Fo} (h : FoAt w v r) (hb : Below w.heap.size w w') : FoAt w' v r := by
  obtain ⟨fv, h1, h2⟩ := h
  exact ⟨fv, h1, h2.later hb⟩
theorem FoAt.keepT {base : Nat} {T : List TypeId} {mp : Bool} {w w' : World} {v : Value} {r : Fo} (h : FoAt w v r) (hk : KeepT base T mp w w') (ht : 50 ∉ T) : FoAt w' v r := by
  obtain ⟨fv, h1, h2⟩ := h
  exact ⟨fv, h1, h2.keepT hk ht⟩
theorem TwOwn.tin {B : Nat} {w : World} {v : Value} {l : List Tw} (h : TwOwn B w v l) : TwIn w v l := by
  refine ⟨h.tw, fun g off n cap e hn => ?_⟩
  unfold TwOwn at h
  rcases h.2 with ⟨h0, _⟩ | ⟨g', cap', cur, hv, _, hg, _⟩
  · rw [e] at h0; simp only [Value.slice.injEq] at h0; omega
  · rw [e] at hv
    simp only [Value.slice.injEq, Option.some.injEq, Addr.mk.injEq] at hv
    obtain ⟨⟨rfl, _⟩, _⟩ := hv
    exact ⟨_, _, hg⟩
theorem TwIn.row {w : World} {v : Value} {l : List Tw} (h : TwIn w v l) (hs : ∀ t ∈ l, twS t) (hl : l.length ≤ lim) : TwRow w v l := ⟨h.1, fun t ht => by obtain ⟨h1, h2, h3, h4, h5, h6, h7, h8, h9⟩ := hs t ht; exact ⟨by omega, by omega⟩, hl⟩
theorem set5 {w : World} {b : Nat} {x0 x1 x2 x3 x4 : Value} {t : TypeId} (h : w.heap[b]? = some (.cells #[x0, x1, x2, x3, x4] t (0, 0))) (y0 y1 y2 y3 y4 : Value) :
    (((((w.setCell ⟨b, 0, none⟩ y0).setCell ⟨b, 1, none⟩ y1).setCell ⟨b, 2, none⟩ y2).setCell ⟨b, 3, none⟩ y3).setCell ⟨b, 4, none⟩ y4).heap[b]? = some (.cells #[y0, y1, y2, y3, y4] t (0, 0)) ∧ Keeps (· = b) w (((((w.setCell ⟨b, 0, none⟩ y0).setCell ⟨b, 1, none⟩ y1).setCell ⟨b, 2, none⟩ y2).setCell ⟨b, 3, none⟩ y3).setCell ⟨b, 4, none⟩ y4) :=
  ⟨block_setCell' (block_setCell' (block_setCell' (block_setCell' (block_setCell' h)))), (((((Keeps.refl (fun k => k = b) w).setCell (p := ⟨b, 0, none⟩) rfl _).setCell (p := ⟨b, 1, none⟩) rfl _).setCell (p := ⟨b, 2, none⟩) rfl _).setCell (p := ⟨b, 3, none⟩) rfl _).setCell (p := ⟨b, 4, none⟩) rfl _⟩
theorem Keeps.one_below {w w' : World} {b B : Nat} (h : Keeps (· = b) w w') (hB : B ≤ w.heap.size) (hb : B ≤ b) : Below B w w' := Keeps.below h hB (fun k e => by omega)
theorem one_keep {w w' : World} {b : Nat} (h : Keeps (· = b) w w') {cs : Array Value} {t : TypeId} {fr : Nat × Nat} (hb : w.heap[b]? = some (.cells cs t fr)) {B : Nat} (hB : B ≤ b) {T : List TypeId} (ht : t ∈ T) {mp : Bool} (hw : t ∉ [33]) : KeepT B T mp w w' := Keeps.mono h fun k _ e => by subst e; exact ⟨hB, by unfold Tyb; rw [hb]; exact ⟨ht, fun h => absurd h hw⟩⟩
theorem five_frz {w : World} {b : Nat} {x0 x1 x2 x3 x4 : Value} {t : TypeId} (h : w.heap[b]? = some (.cells #[x0, x1, x2, x3, x4] t (0, 0))) : w.frozen? ⟨b, 0, none⟩ = false ∧ w.frozen? ⟨b, 1, none⟩ = false ∧ w.frozen? ⟨b, 2, none⟩ = false ∧ w.frozen? ⟨b, 3, none⟩ = false ∧ w.frozen? ⟨b, 4, none⟩ = false := ⟨(block_cell' h 0).2, (block_cell' h 1).2, (block_cell' h 2).2, (block_cell' h 3).2, (block_cell' h 4).2⟩
abbrev fo5 (b : Bool) (e fr rt : Int) (fv : Value) : Value := .agg #[.bool b, .int .i64 e, .int .i64 fr, .int .i64 rt, fv]
set_option maxRecDepth 100000 in
set_option maxHeartbeats 1000000 in
theorem miss_any (far : Int) (w : World) : Calls Tryz.prog 57 #[.int .i64 far] w fun e w' => e = .returned (.agg #[.bool false, .int .i64 0, .int .i64 far, .int .i64 0, .slice none 0 0]) ∧ Below w.heap.size w w' := by
  go_enter Tryz.func57, Tryz.ntmps57
  go_wp2
  obtain ⟨hb, hz⟩ := one_new w (.cells #[.bool false, .int .i64 0, .int .i64 far, .int .i64 0, .slice none 0 0] 73)
  obtain ⟨q0, q1, q2, q3, q4⟩ := five_box hz
  exact bodyPost_ret (v := .agg #[.bool false, .int .i64 0, .int .i64 far, .int .i64 0, .slice none 0 0]) (by simp [results, Tryz.f57, go_sem, q0, q1, q2, q3, q4]) rfl ⟨rfl, hb⟩
set_option maxRecDepth 100000 in
set_option maxHeartbeats 1000000 in
theorem upTo_any (en : Int) (w : World) : Calls Tryz.prog 156 #[.int .i64 en] w fun e w' => e = .returned (.agg #[.bool true, .int .i64 en, .int .i64 (-1), .int .i64 0, .slice none 0 0]) ∧ Below w.heap.size w w' := by
  go_enter Tryz.func156, Tryz.ntmps156
  go_wp2
  obtain ⟨hb, hz⟩ := one_new w (.cells #[.bool true, .int .i64 en, .int .i64 (-1), .int .i64 0, .slice none 0 0] 73)
  obtain ⟨q0, q1, q2, q3, q4⟩ := five_box hz
  exact bodyPost_ret (v := .agg #[.bool true, .int .i64 en, .int .i64 (-1), .int .i64 0, .slice none 0 0]) (by simp [results, Tryz.f156, go_sem, q0, q1, q2, q3, q4]) rfl ⟨rfl, hb⟩
set_option maxRecDepth 100000 in
set_option maxHeartbeats 1000000 in
theorem tried_any (b : Bool) (en far rt f2 : Int) (fa : Option Addr) (fn fc : Nat) (w : World) : Calls Tryz.prog 58 #[.agg #[.bool b, .int .i64 en, .int .i64 far, .int .i64 rt, .slice fa fn fc], .int .i64 f2] w fun e w' => e = .returned (.agg #[.bool b, .int .i64 en, .int .i64 (max far f2), .int .i64 rt, .slice fa fn fc]) ∧ Below w.heap.size w w' := by
  go_enter Tryz.func58, Tryz.ntmps58
  go_upto_region 1 with (fail)
  refine gen_world (S := fun u => Below w.heap.size w u ∧ u.heap[w.heap.size]? = some (.cells #[.bool b, .int .i64 en, .int .i64 far, .int .i64 rt, .slice fa fn fc] 73 (0, 0)) ∧ u.heap[w.heap.size + 1]? = some (.cells #[.bool false, .int .i64 0, .int .i64 0, .int .i64 0, .slice none 0 0] 73 (0, 0))) (two_new w _ _) (fun u hu => ?_)
  obtain ⟨hb, h1, h2⟩ := hu
  obtain ⟨c0, c1, c2, c3, c4⟩ := five_box h1
  have f2' := (block_cell' h1 2).2
  have g0 := (block_cell' h2 0).2
  have g1 := (block_cell' h2 1).2
  have g2 := (block_cell' h2 2).2
  have g3 := (block_cell' h2 3).2
  have g4 := (block_cell' h2 4).2
  obtain ⟨d0, d1, d2, d3, d4⟩ := five_box h2
  have HB := Lib.hid hb
  have H1 := Lib.hid h1
  have H2 := Lib.hid h2
  clear hb h1 h2
  go_wp2
  have e2 : u.heap.size ≥ w.heap.size + 2 := lt_of_block H2.out
  have hk1 := (Keeps.refl (fun k => k = w.heap.size) u).setCell (p := ⟨w.heap.size, 2, none⟩) rfl (.int .i64 (max far f2))
  obtain ⟨k5, hk5⟩ := set5 (hk1.obj H2.out (by simp)) (.bool b) (.int .i64 en) (.int .i64 (max far f2)) (.int .i64 rt) (.slice fa fn fc)
  obtain ⟨q0, q1, q2, q3, q4⟩ := five_box k5
  exact bodyPost_ret (v := .agg #[.bool b, .int .i64 en, .int .i64 (max far f2), .int .i64 rt, .slice fa fn fc]) (by simp [results, Tryz.f58, go_sem, q0, q1, q2, q3, q4]) rfl ⟨rfl, (HB.out.trans (hk1.one_below HB.out.size (Nat.le_refl _))).trans (hk5.one_below (Nat.le_trans HB.out.size hk1.size) (Nat.le_succ _))⟩
set_option maxRecDepth 100000 in
set_option maxHeartbeats 4000000 in
theorem called_any (en far rt rule lev place : Int) (fv : Value) (l : List Tw) (w : World) (hf : TwIn w fv l) (hl : l.length + 1 ≤ lim) :
    Calls Tryz.prog 59 #[.agg #[.bool true, .int .i64 en, .int .i64 far, .int .i64 rt, fv], .int .i64 rule, .int .i64 lev, .int .i64 place] w fun e w' => (∃ fv', e = .returned (.agg #[.bool true, .int .i64 en, .int .i64 far, .int .i64 1, fv']) ∧ TwIn w' fv' (⟨rule, lev, place, en, rt⟩ :: l)) ∧ Below w.heap.size w w' := by
  have HF := Lib.hid hf
  obtain ⟨fa, fc, rfl⟩ := hf.1.val
  obtain ⟨n, hn⟩ : ∃ n, n = l.length := ⟨_, rfl⟩
  have HN := Lib.hid hn
  rw [← hn] at hl HF ⊢
  clear hf hn
  unfold lim at hl
  obtain ⟨i0, hi0, hz0, hz1, hz2⟩ := info_parts Tryz.infoTwig
  go_enter Tryz.func59, Tryz.ntmps59
  go_upto_region 1 with (fail)
  refine gen_world (S := fun u => Below w.heap.size w u ∧ u.heap[w.heap.size]? = some (.cells #[.bool true, .int .i64 en, .int .i64 far, .int .i64 rt, .slice fa n fc] 73 (0, 0)) ∧ u.heap[w.heap.size + 1]? = some (.cells #[.bool false, .int .i64 0, .int .i64 0, .int .i64 0, .slice none 0 0] 73 (0, 0))) (two_new w _ _) (fun u hu => ?_)
  obtain ⟨hb, h1, h2⟩ := hu
  obtain ⟨X, hX⟩ : ∃ X, X = w.heap.size := ⟨_, rfl⟩
  rw [← hX] at h1 h2 ⊢
  obtain ⟨c0, c1, c2, c3, c4⟩ := five_box h1
  have HB := Lib.hid hb
  have H1 := Lib.hid h1
  have H2 := Lib.hid h2
  have HX := Lib.hid hX
  clear hb h1 h2 hX
  go_upto_region 2 with (fail)
  have hn1 := one_new u (.cells #[.int .i64 rule, .int .i64 lev, .int .i64 place, .int .i64 en, .int .i64 rt] 50 (0, 0))
  refine gen_world (S := fun y => Below w.heap.size w y ∧ y.heap[X]? = some (.cells #[.bool true, .int .i64 en, .int .i64 far, .int .i64 rt, .slice fa n fc] 73 (0, 0)) ∧ y.heap[X + 1]? = some (.cells #[.bool false, .int .i64 0, .int .i64 0, .int .i64 0, .slice none 0 0] 73 (0, 0)) ∧ y.heap[u.heap.size]? = some (.cells #[.int .i64 rule, .int .i64 lev, .int .i64 place, .int .i64 en, .int .i64 rt] 50 (0, 0))) ⟨HB.out.trans (hn1.1.mono HB.out.size), (hn1.1.block _ (lt_of_block H1.out)).trans H1.out, (hn1.1.block _ (lt_of_block H2.out)).trans H2.out, hn1.2⟩ (fun y hy => ?_)
  obtain ⟨hby, h1y, h2y, h3y⟩ := hy
  have HBy := Lib.hid hby
  have H1y := Lib.hid h1y
  have H2y := Lib.hid h2y
  obtain ⟨Z, hZ⟩ : ∃ Z, Z = u.heap.size := ⟨_, rfl⟩
  rw [← hZ] at h3y ⊢
  have H3y := Lib.hid h3y
  clear c0 c1 c2 c3 c4 hn1 hby h1y h2y h3y hZ HB H1 H2
  obtain ⟨c0, c1, c2, c3, c4⟩ := five_box H1y.out
  obtain ⟨f0, f1, f2, f3, f4⟩ := five_frz H1y.out
  obtain ⟨d0, d1, d2, d3, d4⟩ := five_box H2y.out
  obtain ⟨g0, g1, g2, g3, g4⟩ := five_frz H2y.out
  obtain ⟨z0, z1, z2, z3, z4⟩ := five_box H3y.out
  have hal : Below y.heap.size y (y.alloc (.cells #[.int .i64 rule, .int .i64 lev, .int .i64 place, .int .i64 en, .int .i64 rt] 50 (0, 0))) := (Below.refl _ _).alloc (Nat.le_refl _) _
  have e4 := cell_later hal c4
  obtain ⟨-, hlc, hcm, hnil, hnews⟩ := rows_news twc_len (by omega) (HF.out.1.later (HBy.out.trans (hal.mono HBy.out.size)))
  have Hnil := Lib.hid hnil
  have HNews := Lib.hid hnews
  have HAl := Lib.hid hal
  have HOwn := Lib.hid (show (y.alloc (.cells #[.int .i64 rule, .int .i64 lev, .int .i64 place, .int .i64 en, .int .i64 rt] 50 (0, 0))).ownsRow y.heap.size 50 5 (.slice (some ⟨y.heap.size, 0, none⟩) 1 1) 1 (tvs [⟨rule, lev, place, en, rt⟩]) from own_shut rfl (Nat.le_refl _) (heap_alloc_new y _) (Nat.le_refl _) (by unfold maxLen; omega) rfl rfl)
  clear hnil hnews hal
  cases fa with
  | none =>
    obtain ⟨h0, h00⟩ : n = 0 ∧ fc = 0 := Hnil.out rfl
    have H0 := Lib.hid (And.intro h0 h00)
    subst h0
    subst h00
    have HB1 := HAl
    have H11 := Lib.hid ((HAl.out.block _ (lt_of_block H1y.out)).trans H1y.out)
    have H12 := Lib.hid ((HAl.out.block _ (lt_of_block H2y.out)).trans H2y.out)
    have HL := Lib.hid (show l = [] from List.eq_nil_of_length_eq_zero HN.out.symm)
    clear c0 c1 c2 c3 c4 d0 d1 d2 d3 d4 e4 f0 f1 f2 f3 f4 g0 g1 g2 g3 g4
    obtain ⟨c0, c1, c2, c3, c4⟩ := five_box H11.out
    obtain ⟨f0, f1, f2, f3, f4⟩ := five_frz H11.out
    obtain ⟨d0, d1, d2, d3, d4⟩ := five_box H12.out
    obtain ⟨g0, g1, g2, g3, g4⟩ := five_frz H12.out
    go_wp2
    obtain ⟨w1, hw1⟩ : ∃ w1, w1 = y.alloc (.cells #[.int .i64 rule, .int .i64 lev, .int .i64 place, .int .i64 en, .int .i64 rt] 50 (0, 0)) := ⟨_, rfl⟩
    have HO := HOwn
    rw [← hw1] at HO HB1 H11 H12 ⊢
    have hk1 := ((Keeps.refl (fun k => k = X) w1).setCell (p := ⟨X, 4, none⟩) rfl (.slice (some ⟨y.heap.size, 0, none⟩) 1 1)).setCell (p := ⟨X, 3, none⟩) rfl (.int .i64 1)
    obtain ⟨k5, hk5⟩ := set5 (hk1.obj H12.out (by simp)) (.bool true) (.int .i64 en) (.int .i64 far) (.int .i64 1) (.slice (some ⟨y.heap.size, 0, none⟩) 1 1)
    obtain ⟨q0, q1, q2, q3, q4⟩ := five_box k5
    have hb0 : Below w.heap.size w w1 := HBy.out.trans (HB1.out.mono HBy.out.size)
    have hxw : w.heap.size ≤ X := Nat.le_of_eq HX.out.symm
    have hkt : KeepT 0 [73] false w1 _ := KeepT.trans (one_keep hk1 H11.out (Nat.zero_le _) (List.mem_singleton.2 rfl) (by simp)) (one_keep hk5 (hk1.obj H12.out (by simp)) (Nat.zero_le _) (List.mem_singleton.2 rfl) (by simp))
    have hto : TwOwn y.heap.size w1 (.slice (some ⟨y.heap.size, 0, none⟩) 1 1) (⟨rule, lev, place, en, rt⟩ :: l) := by
      unfold TwOwn
      rw [HL.out]
      exact HO.out
    exact bodyPost_ret (v := .agg #[.bool true, .int .i64 en, .int .i64 far, .int .i64 1, .slice (some ⟨y.heap.size, 0, none⟩) 1 1]) (by simp [results, Tryz.f59, go_sem, q0, q1, q2, q3, q4]) rfl ⟨⟨_, rfl, hto.tin.keepT hkt (by simp)⟩, (hb0.trans (hk1.one_below hb0.size hxw)).trans (hk5.one_below (Nat.le_trans hb0.size hk1.size) (Nat.le_succ_of_le hxw))⟩
  | some ad =>
    go_wp2_with (at_builtin; refine wpList_append_mine _ rfl (.tmp 20) (.tmp 22) 33 rfl y.heap.size 50 i0 _ 5 40 Tryz.underlying33 hi0 hz0 hz1 hz2 rfl (by decide) _ 1 (tvs [⟨rule, lev, place, en, rt⟩]) rfl HOwn.out (some ad) n fc (tvs l) rfl (by rw [flat_len twc_len, HN.out]) (fun h => by cases h) HNews.out (flat_one twc_one l) (by unfold maxLen; omega) (by omega) (by simp) ?_; intro v2 w1 hown1 hg1 hfr1; have hb1 := HAl.out.grown hg1 (by simp) (fun k hk => by cases hk; exact Nat.le_refl _); obtain ⟨av, cv, rfl⟩ := own_val hown1; have HO := Lib.hid hown1; have HB1 := Lib.hid hb1; have H11 := Lib.hid ((hb1.block _ (lt_of_block H1y.out)).trans H1y.out); have H12 := Lib.hid ((hb1.block _ (lt_of_block H2y.out)).trans H2y.out); clear hown1 hg1 hfr1 hb1 c0 c1 c2 c3 c4 d0 d1 d2 d3 d4 z0 z1 z2 z3 z4 e4 f0 f1 f2 f3 f4 g0 g1 g2 g3 g4; obtain ⟨c0, c1, c2, c3, c4⟩ := five_box H11.out; obtain ⟨f0, f1, f2, f3, f4⟩ := five_frz H11.out; obtain ⟨d0, d1, d2, d3, d4⟩ := five_box H12.out; obtain ⟨g0, g1, g2, g3, g4⟩ := five_frz H12.out)
    have hk1 := ((Keeps.refl (fun k => k = X) w1).setCell (p := ⟨X, 4, none⟩) rfl (.slice av (1 + n) cv)).setCell (p := ⟨X, 3, none⟩) rfl (.int .i64 1)
    obtain ⟨k5, hk5⟩ := set5 (hk1.obj H12.out (by simp)) (.bool true) (.int .i64 en) (.int .i64 far) (.int .i64 1) (.slice av (1 + n) cv)
    obtain ⟨q0, q1, q2, q3, q4⟩ := five_box k5
    have hb0 : Below w.heap.size w w1 := HBy.out.trans (HB1.out.mono HBy.out.size)
    have hxw : w.heap.size ≤ X := Nat.le_of_eq HX.out.symm
    have hkt : KeepT 0 [73] false w1 _ := KeepT.trans (one_keep hk1 H11.out (Nat.zero_le _) (List.mem_singleton.2 rfl) (by simp)) (one_keep hk5 (hk1.obj H12.out (by simp)) (Nat.zero_le _) (List.mem_singleton.2 rfl) (by simp))
    have hto : TwOwn y.heap.size w1 (.slice av (1 + n) cv) (⟨rule, lev, place, en, rt⟩ :: l) := by
      unfold TwOwn
      rw [show (Tw.mk rule lev place en rt :: l).length = 1 + n by rw [List.length_cons, HN.out]; omega]
      exact HO.out
    exact bodyPost_ret (v := .agg #[.bool true, .int .i64 en, .int .i64 far, .int .i64 1, .slice av (1 + n) cv]) (by simp [results, Tryz.f59, go_sem, q0, q1, q2, q3, q4]) rfl ⟨⟨_, rfl, hto.tin.keepT hkt (by simp)⟩, (hb0.trans (hk1.one_below hb0.size hxw)).trans (hk5.one_below (Nat.le_trans hb0.size hk1.size) (Nat.le_succ_of_le hxw))⟩

set_option maxRecDepth 100000 in
set_option maxHeartbeats 4000000 in
theorem then_any (b2 : Bool) (e1 r1 q1 e2 r2 q2 : Int) (v1 v2 : Value) (l1 l2 : List Tw) (w : World) (h1 : TwIn w v1 l1) (h2 : TwIn w v2 l2) (hl : l1.length + l2.length ≤ lim) (hq : 0 ≤ q1 ∧ q1 ≤ 1000000 ∧ 0 ≤ q2 ∧ q2 ≤ 1000000) :
    Calls Tryz.prog 160 #[.agg #[.bool true, .int .i64 e1, .int .i64 r1, .int .i64 q1, v1], .agg #[.bool b2, .int .i64 e2, .int .i64 r2, .int .i64 q2, v2]] w fun e w' => (∃ fv', e = .returned (.agg #[.bool true, .int .i64 e2, .int .i64 (max r1 r2), .int .i64 (q1 + q2), fv']) ∧ TwIn w' fv' (l1 ++ l2)) ∧ Below w.heap.size w w' := by
  have H1 := Lib.hid h1
  have H2 := Lib.hid h2
  obtain ⟨a1, k1, rfl⟩ := h1.1.val
  obtain ⟨a2, k2, rfl⟩ := h2.1.val
  unfold lim at hl
  have HC := Lib.hid (show ∀ (z : World) (R : Nat), Below w.heap.size w z → z.heap[R]? = some (.cells #[.slice a1 l1.length k1, .slice a2 l2.length k2] 33 (0, 0)) → Calls Tryz.prog 170 #[.slice (some ⟨R, 0, none⟩) 2 2] z fun en w' => ToldT z (l1 ++ l2) en w' from fun z R hb hR => concat_any z hR (H1.out.later hb).1 (H2.out.later hb).1 (by omega) (by omega))
  obtain ⟨n1, hn1⟩ : ∃ n1, n1 = l1.length := ⟨_, rfl⟩
  obtain ⟨n2, hn2⟩ : ∃ n2, n2 = l2.length := ⟨_, rfl⟩
  rw [← hn1, ← hn2] at HC
  rw [← hn1] at H1 ⊢
  rw [← hn2] at H2 ⊢
  have hw1 : IntKind.i64.wrap (q1 + q2) = q1 + q2 := IntWalk.i64_in _ (by omega)
  clear h1 h2 hn1 hn2 hl hq
  go_enter Tryz.func160, Tryz.ntmps160
  go_upto_region 1 with (fail)
  refine gen_world (S := fun u => Below w.heap.size w u ∧ u.heap[w.heap.size]? = some (.cells #[.bool true, .int .i64 e1, .int .i64 r1, .int .i64 q1, .slice a1 n1 k1] 73 (0, 0)) ∧ u.heap[w.heap.size + 1]? = some (.cells #[.bool b2, .int .i64 e2, .int .i64 r2, .int .i64 q2, .slice a2 n2 k2] 73 (0, 0)) ∧ u.heap[w.heap.size + 2]? = some (.cells #[.bool false, .int .i64 0, .int .i64 0, .int .i64 0, .slice none 0 0] 73 (0, 0))) ⟨(two_new w _ _).1.alloc (two_new w _ _).1.size _, (heap_alloc_old _ _ (lt_of_block (two_new w _ _).2.1)).trans (two_new w _ _).2.1, (heap_alloc_old _ _ (lt_of_block (two_new w _ _).2.2)).trans (two_new w _ _).2.2, by have := heap_alloc_new ((w.alloc (.cells #[.bool true, .int .i64 e1, .int .i64 r1, .int .i64 q1, .slice a1 n1 k1] 73)).alloc (.cells #[.bool b2, .int .i64 e2, .int .i64 r2, .int .i64 q2, .slice a2 n2 k2] 73)) (.cells #[.bool false, .int .i64 0, .int .i64 0, .int .i64 0, .slice none 0 0] 73); simpa using this⟩ (fun u hu => ?_)
  obtain ⟨X, hX⟩ : ∃ X, X = w.heap.size := ⟨_, rfl⟩
  obtain ⟨hb, h1, h2, h3⟩ := hu
  rw [← hX] at h1 h2 h3 ⊢
  have HX := Lib.hid hX
  have HB := Lib.hid hb
  have H3 := Lib.hid (show u.heap[X + 1 + 1]? = some (.cells #[.bool false, .int .i64 0, .int .i64 0, .int .i64 0, .slice none 0 0] 73 (0, 0)) from h3)
  have hsz : X + 1 + 1 < u.heap.size := lt_of_block h3
  have HU := Lib.hid (And.intro hb (And.intro h1 h2))
  have hS0 : Below w.heap.size w u.drew ∧ u.drew.heap[X]? = some (.cells #[.bool true, .int .i64 e1, .int .i64 r1, .int .i64 q1, .slice a1 n1 k1] 73 (0, 0)) ∧ u.drew.heap[X + 1]? = some (.cells #[.bool b2, .int .i64 e2, .int .i64 r2, .int .i64 q2, .slice a2 n2 k2] 73 (0, 0)) := ⟨hb.drew, h1, h2⟩
  clear hb h1 h2 h3 hX
  refine wp_region_held_drew (S := fun z => Below w.heap.size w z ∧ z.heap[X]? = some (.cells #[.bool true, .int .i64 e1, .int .i64 r1, .int .i64 q1, .slice a1 n1 k1] 73 (0, 0)) ∧ z.heap[X + 1]? = some (.cells #[.bool b2, .int .i64 e2, .int .i64 r2, .int .i64 q2, .slice a2 n2 k2] 73 (0, 0))) (by kernel_rfl) hS0 (fun hS => ?_)
  refine wpAnyH_take (i := 0) (oi := ⟨_, _, _, _, _, _⟩) (v := ?v1) rfl (by kernel_rfl) (by kernel_rfl) (by kernel_rfl) (fun _ _ _ h => h) ?y1 hS ?_
  case y1 => first | (refine Or.inr ⟨by rfl, ?_⟩; with_reducible rfl) | (refine Or.inl ⟨by rfl, ?_⟩; intro wS hSw; obtain ⟨c0, c1, c2, c3, c4⟩ := five_box hSw.2.1; obtain ⟨d0, d1, d2, d3, d4⟩ := five_box hSw.2.2; go_simp; try with_reducible rfl)
  simp only [Act.put, List.setIfInBounds_toArray, List.set_cons_zero, List.set_cons_succ]
  refine wpAnyH_take (i := 1) (oi := ⟨_, _, _, _, _, _⟩) (v := ?v2) rfl (by kernel_rfl) (by kernel_rfl) (by kernel_rfl) (fun _ _ _ h => h) ?y2 hS ?_
  case y2 => first | (refine Or.inr ⟨by rfl, ?_⟩; with_reducible rfl) | (refine Or.inl ⟨by rfl, ?_⟩; intro wS hSw; obtain ⟨c0, c1, c2, c3, c4⟩ := five_box hSw.2.1; obtain ⟨d0, d1, d2, d3, d4⟩ := five_box hSw.2.2; go_simp; try with_reducible rfl)
  simp only [Act.put, List.setIfInBounds_toArray, List.set_cons_zero, List.set_cons_succ]
  refine wpAnyH_take (i := 2) (oi := ⟨_, _, _, _, _, _⟩) (v := ?v3) rfl (by kernel_rfl) (by kernel_rfl) (by kernel_rfl) (fun _ _ _ h => h) ?y3 hS ?_
  case y3 => first | (refine Or.inr ⟨by rfl, ?_⟩; with_reducible rfl) | (refine Or.inl ⟨by rfl, ?_⟩; intro wS hSw; obtain ⟨c0, c1, c2, c3, c4⟩ := five_box hSw.2.1; obtain ⟨d0, d1, d2, d3, d4⟩ := five_box hSw.2.2; go_simp; try with_reducible rfl)
  simp only [Act.put, List.setIfInBounds_toArray, List.set_cons_zero, List.set_cons_succ]
  refine wpAnyH_take (i := 3) (oi := ⟨_, _, _, _, _, _⟩) (v := ?v4) rfl (by kernel_rfl) (by kernel_rfl) (by kernel_rfl) (fun _ _ _ h => h) ?y4 hS ?_
  case y4 => first | (refine Or.inr ⟨by rfl, ?_⟩; with_reducible rfl) | (refine Or.inl ⟨by rfl, ?_⟩; intro wS hSw; obtain ⟨c0, c1, c2, c3, c4⟩ := five_box hSw.2.1; obtain ⟨d0, d1, d2, d3, d4⟩ := five_box hSw.2.2; go_simp; try with_reducible rfl)
  simp only [Act.put, List.setIfInBounds_toArray, List.set_cons_zero, List.set_cons_succ]
  refine wpAnyH_take (i := 4) (oi := ⟨_, _, _, _, _, _⟩) (v := ?v5) rfl (by kernel_rfl) (by kernel_rfl) (by kernel_rfl) (fun _ _ _ h => h) ?y5 hS ?_
  case y5 => first | (refine Or.inr ⟨by rfl, ?_⟩; with_reducible rfl) | (refine Or.inl ⟨by rfl, ?_⟩; intro wS hSw; obtain ⟨c0, c1, c2, c3, c4⟩ := five_box hSw.2.1; obtain ⟨d0, d1, d2, d3, d4⟩ := five_box hSw.2.2; go_simp; try with_reducible rfl)
  simp only [Act.put, List.setIfInBounds_toArray, List.set_cons_zero, List.set_cons_succ]
  refine wpAnyH_take (i := 5) (oi := ⟨_, _, _, _, _, _⟩) (v := ?v6) rfl (by kernel_rfl) (by kernel_rfl) (by kernel_rfl) (fun _ _ _ h => h) ?y6 hS ?_
  case y6 => first | (refine Or.inr ⟨by rfl, ?_⟩; with_reducible rfl) | (refine Or.inl ⟨by rfl, ?_⟩; intro wS hSw; obtain ⟨c0, c1, c2, c3, c4⟩ := five_box hSw.2.1; obtain ⟨d0, d1, d2, d3, d4⟩ := five_box hSw.2.2; go_simp; try with_reducible rfl)
  simp only [Act.put, List.setIfInBounds_toArray, List.set_cons_zero, List.set_cons_succ]
  refine wpAnyH_take (i := 6) (oi := ⟨_, _, _, _, _, _⟩) (v := ?v7) rfl (by kernel_rfl) (by kernel_rfl) (by kernel_rfl) (fun _ _ _ h => h) ?y7 hS ?_
  case y7 => first | (refine Or.inr ⟨by rfl, ?_⟩; with_reducible rfl) | (refine Or.inl ⟨by rfl, ?_⟩; intro wS hSw; obtain ⟨c0, c1, c2, c3, c4⟩ := five_box hSw.2.1; obtain ⟨d0, d1, d2, d3, d4⟩ := five_box hSw.2.2; go_simp; try with_reducible rfl)
  simp only [Act.put, List.setIfInBounds_toArray, List.set_cons_zero, List.set_cons_succ]
  refine wpAnyH_take (i := 7) (oi := ⟨_, _, _, _, _, _⟩) (v := ?v8) rfl (by kernel_rfl) (by kernel_rfl) (by kernel_rfl) (fun _ _ _ h => h) ?y8 hS ?_
  case y8 => first | (refine Or.inr ⟨by rfl, ?_⟩; with_reducible rfl) | (refine Or.inl ⟨by rfl, ?_⟩; intro wS hSw; obtain ⟨c0, c1, c2, c3, c4⟩ := five_box hSw.2.1; obtain ⟨d0, d1, d2, d3, d4⟩ := five_box hSw.2.2; go_simp; try with_reducible rfl)
  simp only [Act.put, List.setIfInBounds_toArray, List.set_cons_zero, List.set_cons_succ]
  refine wpAnyH_take (i := 8) (oi := ⟨_, _, _, _, _, _⟩) (v := ?v9) rfl (by kernel_rfl) (by kernel_rfl) (by kernel_rfl) (fun _ _ _ h => h) ?y9 hS ?_
  case y9 => first | (refine Or.inr ⟨by rfl, ?_⟩; with_reducible rfl) | (refine Or.inl ⟨by rfl, ?_⟩; intro wS hSw; obtain ⟨c0, c1, c2, c3, c4⟩ := five_box hSw.2.1; obtain ⟨d0, d1, d2, d3, d4⟩ := five_box hSw.2.2; go_simp; try with_reducible rfl)
  simp only [Act.put, List.setIfInBounds_toArray, List.set_cons_zero, List.set_cons_succ]
  refine wpAnyH_take (i := 9) (oi := ⟨_, _, _, _, _, _⟩) (v := ?v10) rfl (by kernel_rfl) (by kernel_rfl) (by kernel_rfl) (fun _ _ _ h => h) ?y10 hS ?_
  case y10 => first | (refine Or.inr ⟨by rfl, ?_⟩; with_reducible rfl) | (refine Or.inl ⟨by rfl, ?_⟩; intro wS hSw; obtain ⟨c0, c1, c2, c3, c4⟩ := five_box hSw.2.1; obtain ⟨d0, d1, d2, d3, d4⟩ := five_box hSw.2.2; go_simp; try with_reducible rfl)
  simp only [Act.put, List.setIfInBounds_toArray, List.set_cons_zero, List.set_cons_succ]
  refine wpAnyH_take (i := 10) (oi := ⟨_, _, _, _, _, _⟩) (v := ?v11) rfl (by kernel_rfl) (by kernel_rfl) (by kernel_rfl) (fun _ _ _ h => h) ?y11 hS ?_
  case y11 => first | (refine Or.inr ⟨by rfl, ?_⟩; with_reducible rfl) | (refine Or.inl ⟨by rfl, ?_⟩; intro wS hSw; obtain ⟨c0, c1, c2, c3, c4⟩ := five_box hSw.2.1; obtain ⟨d0, d1, d2, d3, d4⟩ := five_box hSw.2.2; go_simp; try with_reducible rfl)
  simp only [Act.put, List.setIfInBounds_toArray, List.set_cons_zero, List.set_cons_succ]
  refine wpAnyH_take (i := 11) (oi := ⟨_, _, _, _, _, _⟩) (v := ?v12) rfl (by kernel_rfl) (by kernel_rfl) (by kernel_rfl) (fun _ _ _ h => h) ?y12 hS ?_
  case y12 => first | (refine Or.inr ⟨by rfl, ?_⟩; with_reducible rfl) | (refine Or.inl ⟨by rfl, ?_⟩; intro wS hSw; obtain ⟨c0, c1, c2, c3, c4⟩ := five_box hSw.2.1; obtain ⟨d0, d1, d2, d3, d4⟩ := five_box hSw.2.2; go_simp; try with_reducible rfl)
  simp only [Act.put, List.setIfInBounds_toArray, List.set_cons_zero, List.set_cons_succ]
  refine wpAnyH_take (i := 12) (oi := ⟨_, _, _, _, _, _⟩) (v := ?v13) rfl (by kernel_rfl) (by kernel_rfl) (by kernel_rfl) (fun _ _ _ h => h) ?y13 hS ?_
  case y13 => first | (refine Or.inr ⟨by rfl, ?_⟩; with_reducible rfl) | (refine Or.inl ⟨by rfl, ?_⟩; intro wS hSw; obtain ⟨c0, c1, c2, c3, c4⟩ := five_box hSw.2.1; obtain ⟨d0, d1, d2, d3, d4⟩ := five_box hSw.2.2; go_simp; try with_reducible rfl)
  simp only [Act.put, List.setIfInBounds_toArray, List.set_cons_zero, List.set_cons_succ]
  refine wpAnyH_take (i := 13) (oi := ⟨_, _, _, _, _, _⟩) (v := ?v14) rfl (by kernel_rfl) (by kernel_rfl) (by kernel_rfl) (fun _ _ _ h => h) ?y14 hS ?_
  case y14 => first | (refine Or.inr ⟨by rfl, ?_⟩; with_reducible rfl) | (refine Or.inl ⟨by rfl, ?_⟩; intro wS hSw; obtain ⟨c0, c1, c2, c3, c4⟩ := five_box hSw.2.1; obtain ⟨d0, d1, d2, d3, d4⟩ := five_box hSw.2.2; go_simp; try with_reducible rfl)
  simp only [Act.put, List.setIfInBounds_toArray, List.set_cons_zero, List.set_cons_succ]
  refine wpAnyH_take (i := 14) (oi := ⟨_, _, _, _, _, _⟩) (v := ?v15) rfl (by kernel_rfl) (by kernel_rfl) (by kernel_rfl) (fun _ _ _ h => h) ?y15 hS ?_
  case y15 => first | (refine Or.inr ⟨by rfl, ?_⟩; with_reducible rfl) | (refine Or.inl ⟨by rfl, ?_⟩; intro wS hSw; obtain ⟨c0, c1, c2, c3, c4⟩ := five_box hSw.2.1; obtain ⟨d0, d1, d2, d3, d4⟩ := five_box hSw.2.2; go_simp; try with_reducible rfl)
  simp only [Act.put, List.setIfInBounds_toArray, List.set_cons_zero, List.set_cons_succ]
  refine wpAnyH_take (i := 15) (oi := ⟨_, _, _, _, _, _⟩) (v := ?v16) rfl (by kernel_rfl) (by kernel_rfl) (by kernel_rfl) (fun _ _ _ h => h) ?y16 hS ?_
  case y16 => first | (refine Or.inr ⟨by rfl, ?_⟩; with_reducible rfl) | (refine Or.inl ⟨by rfl, ?_⟩; intro wS hSw; obtain ⟨c0, c1, c2, c3, c4⟩ := five_box hSw.2.1; obtain ⟨d0, d1, d2, d3, d4⟩ := five_box hSw.2.2; go_simp; try with_reducible rfl)
  simp only [Act.put, List.setIfInBounds_toArray, List.set_cons_zero, List.set_cons_succ]
  refine wpAnyH_ready (rs := [16]) (by kernel_rfl) (by simp) ?_
  refine AllReadyH.cons (o := ⟨_, _, _, _, _, _⟩) rfl (fun K hK => ?_) AllReadyH.nil
  go_simp
  have hn := one_new u (.cells #[.slice a1 n1 k1, .slice a2 n2 k2] 33 (0, 0))
  have hbn : Below w.heap.size w (u.alloc (.cells #[.slice a1 n1 k1, .slice a2 n2 k2] 33 (0, 0))) := HU.out.1.trans (hn.1.mono HU.out.1.size)
  refine hK.out _ _ ⟨hbn.drew, (hn.1.block _ (lt_of_block HU.out.2.1)).trans HU.out.2.1, (hn.1.block _ (lt_of_block HU.out.2.2)).trans HU.out.2.2⟩ (fun hS2 => ?_)
  clear hK K hS
  try simp only [Act.put, List.setIfInBounds_toArray, List.set_cons_zero, List.set_cons_succ]
  have HCall := Lib.hid (HC.out (u.alloc (.cells #[.slice a1 n1 k1, .slice a2 n2 k2] 33 (0, 0))).drew u.heap.size hbn.drew hn.2)
  have HN3 := Lib.hid ((hn.1.block _ (lt_of_block H3.out)).trans H3.out)
  have HNb := Lib.hid hbn
  clear hn hbn
  refine wpAnyH_ready (rs := [17]) (by kernel_rfl) (by simp) ?_
  refine AllReadyH.cons (o := ⟨_, _, _, _, _, _⟩) rfl (fun K hK => ?_) AllReadyH.nil
  go_simp
  refine HCall.out.mono ?_
  rintro e z ⟨fv, rfl, hto, hbz⟩
  obtain ⟨av, cv, rfl⟩ := own_val (show z.ownsRow _ _ 5 fv (l1 ++ l2).length _ from hto)
  obtain ⟨n3, hn3⟩ : ∃ n3, n3 = (l1 ++ l2).length := ⟨_, rfl⟩
  rw [← hn3] at hto ⊢
  clear hn3
  go_wp2_with fail
  have h3z := (hbz.block _ (lt_of_block HN3.out)).trans HN3.out
  have hSz : Below w.heap.size w z ∧ z.heap[X]? = some (.cells #[.bool true, .int .i64 e1, .int .i64 r1, .int .i64 q1, .slice a1 n1 k1] 73 (0, 0)) ∧ z.heap[X + 1]? = some (.cells #[.bool b2, .int .i64 e2, .int .i64 r2, .int .i64 q2, .slice a2 n2 k2] 73 (0, 0)) := ⟨hS2.1.trans (hbz.mono hS2.1.size), (hbz.block _ (lt_of_block hS2.2.1)).trans hS2.2.1, (hbz.block _ (lt_of_block hS2.2.2)).trans hS2.2.2⟩
  refine hK.out _ _ hSz (fun hS3 => ?_)
  clear hK K hS2 HCall hS3
  try simp only [Act.put, List.setIfInBounds_toArray, List.set_cons_zero, List.set_cons_succ]
  have H3z := Lib.hid h3z
  have HTo := Lib.hid hto
  have HSz := Lib.hid hSz
  clear h3z hto hbz
  have hS := hSz
  clear hSz
  refine wpAnyH_take (i := 18) (oi := ⟨_, _, _, _, _, _⟩) (v := ?v17) rfl (by kernel_rfl) (by kernel_rfl) (by kernel_rfl) (fun _ _ _ h => h) ?y17 hS ?_
  case y17 => first | (refine Or.inr ⟨by rfl, ?_⟩; with_reducible rfl) | (refine Or.inl ⟨by rfl, ?_⟩; intro wS hSw; obtain ⟨c0, c1, c2, c3, c4⟩ := five_box hSw.2.1; obtain ⟨d0, d1, d2, d3, d4⟩ := five_box hSw.2.2; go_simp; try with_reducible rfl)
  simp only [Act.put, List.setIfInBounds_toArray, List.set_cons_zero, List.set_cons_succ]
  refine wpAnyH_ready (rs := [19]) (by kernel_rfl) (by simp) ?_
  refine AllReadyH.cons (o := ⟨_, _, _, _, _, _⟩) rfl (fun K hK => ?_) AllReadyH.nil
  obtain ⟨d0, d1, d2, d3, d4⟩ := five_box H3z.out
  obtain ⟨g0, g1, g2, g3, g4⟩ := five_frz H3z.out
  go_simp
  obtain ⟨k5, hk5⟩ := set5 H3z.out (.bool true) (.int .i64 e2) (.int .i64 (max r1 r2)) (.int .i64 (q1 + q2)) (.slice av n3 cv)
  have hxw : w.heap.size ≤ X := Nat.le_of_eq HX.out.symm
  have hbf := HSz.out.1.trans (hk5.one_below HSz.out.1.size (Nat.le_succ_of_le (Nat.le_succ_of_le hxw)))
  refine hK.out _ _ ⟨hbf, hk5.obj HSz.out.2.1 (show ¬ X = X + 1 + 1 by omega), hk5.obj HSz.out.2.2 (show ¬ X + 1 = X + 1 + 1 by omega)⟩ (fun hS4 => ?_)
  clear hK K hS hS4
  try simp only [Act.put, List.setIfInBounds_toArray, List.set_cons_zero, List.set_cons_succ]
  refine wpAnyH_done (by kernel_rfl) ?_ _
  go_wp2
  obtain ⟨q0, q1', q2', q3, q4⟩ := five_box k5
  exact bodyPost_ret (v := .agg #[.bool true, .int .i64 e2, .int .i64 (max r1 r2), .int .i64 (q1 + q2), .slice av n3 cv]) (by simp [results, Tryz.f160, go_sem, q0, q1', q2', q3, q4]) rfl ⟨⟨_, rfl, HTo.out.tin.keepT (one_keep (mp := false) hk5 H3z.out (Nat.zero_le _) (List.mem_singleton.2 rfl) (by simp)) (by simp)⟩, hbf⟩
end Go.Proofs.YtkimkghldilliaaGreat
