/-
  gram: whether a grammar is right.
-/
import Derived.Test.YtkimkghldilliaaGreatGrI
namespace Go.Proofs.YtkimkghldilliaaGreat
open Go.RowKit Go.Lib Go.Maps

/-- a grammar as it lies, its numbers as they come in. -/
structure GrOk (w : World) (rv nv : Value) (R : List Ru) (N : List Nd) : Prop extends GrAt w rv nv R N where
  wf : ∀ x ∈ N, NdW x
theorem GrOk.later {w w' : World} {rv nv : Value} {R : List Ru} {N : List Nd} (h : GrOk w rv nv R N) (hb : Below w.heap.size w w') : GrOk w' rv nv R N := ⟨h.toGrAt.later hb, h.wf⟩
theorem right_bad1 {R : List Ru} {N : List Nd} (h : ¬ (0 < R.length ∧ R.length ≤ 32 ∧ N.length ≤ 2048)) : grRight R N = false := by
  unfold grRight
  by_cases h1 : 0 < R.length
  · by_cases h2 : R.length ≤ 32
    · have h3 : ¬ N.length ≤ 2048 := fun h3 => h ⟨h1, h2, h3⟩
      simp [h3]
    · simp [h2]
  · simp [h1]
theorem right_bad2 {R : List Ru} {N : List Nd} (h : N.all (nodeOk R.length) = false) : grRight R N = false := by
  unfold grRight
  rw [h]; simp
theorem right_bad3 {R : List Ru} {N : List Nd} (h : treeAt N.length 0 N = none) : grRight R N = false := by
  unfold grRight
  rw [h]; simp
theorem right_eq {R : List Ru} {N : List Nd} {T : List (Nat × Nat)} (h1 : 0 < R.length) (h2 : R.length ≤ 32) (h3 : N.length ≤ 2048) (h4 : N.all (nodeOk R.length) = true) (h : treeAt N.length 0 N = some T) : grRight R N = (bodiesAt R T 0 0 R == some N.length) := by
  unfold grRight
  rw [h, h4]; simp [h1, h2, h3]
theorem irow_ne {w : World} {b c : Nat} {l : List Int} {cs : Array Value} (h : IRow w b l) (hc : w.heap[c]? = some (.cells cs 122 (0, 0))) : b ≠ c := by
  intro e
  subst e
  unfold IRow at h
  rw [h] at hc
  simp at hc
/-- within the loop over the rules. -/
structure WhL (w : World) (X n : Nat) (rv nv : Value) (bs bh : Nat) (T : List (Nat × Nat)) (wr : World) : Prop where
  bel : Below w.heap.size w wr
  g : wr.heap[X]? = some (.cells #[rv, nv] 25 (0, 0))
  t : wr.heap[X + 1]? = some (.cells #[.slice (some ⟨bs, 0, none⟩) n n, .slice (some ⟨bh, 0, none⟩) n n] 122 (0, 0))
  s : IRow wr bs (szs T)
  h : IRow wr bh (hts T)
  xs : bs ≠ X + 1
  xh : bh ≠ X + 1
theorem WhL.later {w : World} {X n : Nat} {rv nv : Value} {bs bh : Nat} {T : List (Nat × Nat)} {wr z : World} (h : WhL w X n rv nv bs bh T wr) (hb : Below wr.heap.size wr z) : WhL w X n rv nv bs bh T z :=
  ⟨h.bel.trans (hb.mono h.bel.size), (hb.block _ (lt_of_block h.g)).trans h.g, (hb.block _ (lt_of_block h.t)).trans h.t, h.s.later hb, h.h.later hb, h.xs, h.xh⟩
theorem WhL.self {w : World} {X n : Nat} {rv nv : Value} {bs bh : Nat} {T : List (Nat × Nat)} {wr : World} (h : WhL w X n rv nv bs bh T wr) (hx : w.heap.size ≤ X) :
    WhL w X n rv nv bs bh T ((wr.setCell ⟨X + 1, 0, none⟩ (.slice (some ⟨bs, 0, none⟩) n n)).setCell ⟨X + 1, 1, none⟩ (.slice (some ⟨bh, 0, none⟩) n n)) :=
  ⟨(h.bel.setCell (p := ⟨X + 1, 0, none⟩) (Nat.le_succ_of_le hx) _).setCell (p := ⟨X + 1, 1, none⟩) (Nat.le_succ_of_le hx) _, (Below.heap_setCell _ _ _ _ (by simp)).trans ((Below.heap_setCell _ _ _ _ (by simp)).trans h.g), block_setCell' (block_setCell' h.t), (h.s.other _ _ h.xs).other _ _ h.xs, (h.h.other _ _ h.xh).other _ _ h.xh, h.xs, h.xh⟩

set_option maxRecDepth 100000 in
set_option maxHeartbeats 4000000 in
theorem whole_any (rv nv : Value) (R : List Ru) (N : List Nd) (w : World) (h : GrOk w rv nv R N) :
    Calls Tryz.prog 51 #[.agg #[rv, nv]] w fun e w' => (∃ sv hv, e = .returned (.tuple #[.agg #[sv, hv], .bool (grRight R N)]) ∧ ((∃ b n c, sv = .slice b n c) ∧ (∃ b n c, hv = .slice b n c)) ∧ (grRight R N = true → OfRes w' N sv hv)) ∧ Below w.heap.size w w' := by
  have H := Lib.hid h
  obtain ⟨ra, rc, hrv⟩ := h.rules.val
  obtain ⟨na, nc, hnv⟩ := h.nodes.val
  rw [List.length_map] at hrv hnv
  subst hrv
  subst hnv
  have hR := (show RusAt w _ R from h.rules).cells.2.2.1
  have hR1 := (show RusAt w _ R from h.rules).cells.2.1
  have hN := (show NdsAt w _ N from h.nodes).cells.2.2.1
  have hN1 := (show NdsAt w _ N from h.nodes).cells.2.1
  unfold maxLen at hR hN
  obtain ⟨n, hn⟩ : ∃ n, n = N.length := ⟨_, rfl⟩
  obtain ⟨r, hr⟩ : ∃ r, r = R.length := ⟨_, rfl⟩
  have HNl := Lib.hid hn
  have HRl := Lib.hid hr
  rw [← hn] at hN1 H ⊢
  rw [← hr] at hR1 H ⊢
  obtain ⟨q, hq⟩ : ∃ q, q = grRight R N := ⟨_, rfl⟩
  have HQ := Lib.hid hq
  rw [← hq]
  clear h hn hr hq
  go_enter Tryz.func51, Tryz.ntmps51
  go_upto_region 1 with (fail)
  refine gen_world (S := fun u => Below w.heap.size w u ∧ u.heap[w.heap.size]? = some (.cells #[.slice ra r rc, .slice na n nc] 25 (0, 0)) ∧ u.heap[w.heap.size + 1]? = some (.cells #[.slice none 0 0, .slice none 0 0] 122 (0, 0))) (two_new w _ _) (fun u hu => ?_)
  obtain ⟨hb, h1, h2⟩ := hu
  have HB := Lib.hid hb
  have H1 := Lib.hid h1
  have H2 := Lib.hid h2
  obtain ⟨X, hX⟩ : ∃ X, X = w.heap.size := ⟨_, rfl⟩
  rw [← hX] at H1 H2 ⊢
  have HX := Lib.hid hX
  obtain ⟨v0, v1, -, -⟩ := box_cells H1.out
  obtain ⟨t0, t1, e0, e1⟩ := box_cells H2.out
  clear hb h1 h2 hX
  have HBad := Lib.hid (show ∀ z : World, q = false → Below w.heap.size w z → z.heap[X + 1]? = some (.cells #[.slice none 0 0, .slice none 0 0] 122 (0, 0)) → Below w.heap.size w ((z.setCell ⟨X + 1, 0, none⟩ (.slice none 0 0)).setCell ⟨X + 1, 1, none⟩ (.slice none 0 0)) ∧ ((z.setCell ⟨X + 1, 0, none⟩ (.slice none 0 0)).setCell ⟨X + 1, 1, none⟩ (.slice none 0 0)).heap[X + 1]? = some (.cells #[.slice none 0 0, .slice none 0 0] 122 (0, 0)) from fun z _ hb ht => ⟨(hb.setCell (p := ⟨X + 1, 0, none⟩) (by have := HX.out; show w.heap.size ≤ X + 1; omega) _).setCell (p := ⟨X + 1, 1, none⟩) (by have := HX.out; show w.heap.size ≤ X + 1; omega) _, block_setCell' (block_setCell' ht)⟩)
  by_cases hsz : 0 < r ∧ r ≤ 32 ∧ n ≤ 2048
  case neg =>
    have hq0 : q = false := by rw [HQ.out]; exact right_bad1 (by rw [← HNl.out, ← HRl.out]; exact hsz)
    have hc : (r : Int) = 0 ∨ (¬ (r : Int) = 0 ∧ (32 : Int) < r) ∨ (¬ (r : Int) = 0 ∧ ¬ (32 : Int) < r ∧ (2048 : Int) < n) := by omega
    have HQ0 := Lib.hid hq0
    clear hsz hq0
    rcases hc with c1 | ⟨c1, c2⟩ | ⟨c1, c2, c3⟩
    all_goals
      go_wp2
      obtain ⟨g1, g2⟩ := HBad.out u HQ0.out HB.out H2.out
      obtain ⟨q0, q1, -, -⟩ := box_cells g2
      exact bodyPost_ret (v := .tuple #[.agg #[.slice none 0 0, .slice none 0 0], .bool false]) (by simp [results, Tryz.f51, go_sem, q0, q1]) rfl ⟨⟨_, _, by rw [HQ0.out], ⟨⟨_, _, _, rfl⟩, ⟨_, _, _, rfl⟩⟩, fun h => by rw [HQ0.out] at h; cases h⟩, g1⟩
  case pos =>
    obtain ⟨s1, s2, s3⟩ := hsz
    have c1 : ¬ (r : Int) = 0 := by omega
    have c2 : ¬ (32 : Int) < r := by omega
    have c3 : ¬ (2048 : Int) < n := by omega
    have HC := Lib.hid (containsN_any _ N X ra r rc _ u (show NdsAt u _ N from RowsAt.later H.out.nodes HB.out) H.out.wf H1.out)
    have HS := Lib.hid (And.intro s1 (And.intro s2 s3))
    clear s1 s2
    by_cases hall : N.all (nodeOk r) = false
    case pos =>
      have hq0 : q = false := by rw [HQ.out]; exact right_bad2 (by rw [← HRl.out]; exact hall)
      have HQ0 := Lib.hid hq0
      rw [hall] at HC
      clear hall hq0
      go_wp2_with fail
      refine HC.out.mono ?_
      rintro e w1 ⟨rfl, hb1⟩
      have h12 := (hb1.block _ (lt_of_block H2.out)).trans H2.out
      have HB1 := Lib.hid (HB.out.trans (hb1.mono HB.out.size))
      have H12 := Lib.hid h12
      clear v0 v1 t0 t1 e0 e1 hb1 h12
      obtain ⟨t0, t1, e0, e1⟩ := box_cells H12.out
      go_wp2
      obtain ⟨g1, g2⟩ := HBad.out w1 HQ0.out HB1.out H12.out
      obtain ⟨q0, q1, -, -⟩ := box_cells g2
      exact bodyPost_ret (v := .tuple #[.agg #[.slice none 0 0, .slice none 0 0], .bool false]) (by simp [results, Tryz.f51, go_sem, q0, q1]) rfl ⟨⟨_, _, by rw [HQ0.out], ⟨⟨_, _, _, rfl⟩, ⟨_, _, _, rfl⟩⟩, fun h => by rw [HQ0.out] at h; cases h⟩, g1⟩
    case neg =>
      have hall : N.all (nodeOk r) = true := by simpa using hall
      rw [hall] at HC
      have HAll := Lib.hid hall
      clear hall
      go_wp2_with fail
      refine HC.out.mono ?_
      rintro e w1 ⟨rfl, hb1⟩
      have h11 := (hb1.block _ (lt_of_block H1.out)).trans H1.out
      have h12 := (hb1.block _ (lt_of_block H2.out)).trans H2.out
      have HB1 := Lib.hid (HB.out.trans (hb1.mono HB.out.size))
      have H11 := Lib.hid h11
      have H12 := Lib.hid h12
      clear v0 v1 t0 t1 e0 e1 hb1 h11 h12 HC HB H1 H2
      obtain ⟨v0, v1, -, -⟩ := box_cells H11.out
      obtain ⟨t0, t1, e0, e1⟩ := box_cells H12.out
      have HO := Lib.hid (of_any _ N w1 (show NdsAt w1 _ N from RowsAt.later H.out.nodes HB1.out) (fun x hx => (H.out.kids x hx).later HB1.out) (by rw [← HNl.out]; exact s3))
      obtain ⟨tr, htr⟩ : ∃ tr, tr = treeAt N.length 0 N := ⟨_, rfl⟩
      have HTr := Lib.hid htr
      unfold OfRes at HO
      rw [← htr, ← HNl.out] at HO
      clear htr s3
      go_wp2_with fail
      refine HO.out.mono ?_
      cases tr with
      | none =>
        simp only [Option.isSome_none]
        rintro e w2 ⟨⟨sv, hv, rfl, ⟨a1, n1, k1, rfl⟩, ⟨a2, n2, k2, rfl⟩⟩, hb2⟩
        have HQ0 := Lib.hid (show q = false by rw [HQ.out]; exact right_bad3 HTr.out.symm)
        have h21 := (hb2.block _ (lt_of_block H11.out)).trans H11.out
        have h22 := (hb2.block _ (lt_of_block H12.out)).trans H12.out
        have HB2 := Lib.hid (HB1.out.trans (hb2.mono HB1.out.size))
        have H22 := Lib.hid h22
        have H21 := Lib.hid h21
        clear v0 v1 t0 t1 e0 e1 hb2 h21 h22
        obtain ⟨v0, v1, -, -⟩ := box_cells H21.out
        obtain ⟨t0, t1, e0, e1⟩ := box_cells H22.out
        go_upto_region 6 with (fail)
        have hx1 : w.heap.size ≤ X + 1 := by have := HX.out; omega
        refine gen_world (S := fun z => Below w.heap.size w z ∧ z.heap[X]? = some (.cells #[.slice ra r rc, .slice na n nc] 25 (0, 0)) ∧ z.heap[X + 1]? = some (.cells #[.slice a1 n1 k1, .slice a2 n2 k2] 122 (0, 0))) ⟨(HB2.out.setCell (p := ⟨X + 1, 0, none⟩) hx1 _).setCell (p := ⟨X + 1, 1, none⟩) hx1 _, (Below.heap_setCell _ _ _ _ (by simp)).trans ((Below.heap_setCell _ _ _ _ (by simp)).trans H21.out), block_setCell' (block_setCell' H22.out)⟩ (fun z hz => ?_)
        obtain ⟨hbz, hgz, htz⟩ := hz
        have HBz := Lib.hid hbz
        have HGz := Lib.hid hgz
        have HTz := Lib.hid htz
        clear v0 v1 t0 t1 e0 e1 hbz hgz htz HB2 H22 H21 HO hx1
        obtain ⟨v0, v1, -, -⟩ := box_cells HGz.out
        go_upto_region 8 with (fail)
        go_loopw [3, 4, 38] (fun b a i wr => b = .bool false ∧ a = .int .i64 0 ∧ i = .int .i64 0 ∧ Hid (Below z.heap.size z wr)) (fun _ _ i _ => 1)
        case atStart => exact ⟨rfl, rfl, rfl, Lib.hid (Below.refl _ _)⟩
        case round =>
          obtain ⟨rfl, rfl, rfl, Hb⟩ := hrel
          have hr0 : (0 : Int) < r := by have := HS.out.1; omega
          obtain ⟨b2, off, he, -, w0, w1'⟩ := (show RusAt wr _ R from RowsAt.later H.out.rules (HBz.out.trans (Hb.out.mono HBz.out.size))).cells.2.2.2 0 (by rw [← HRl.out]; exact HS.out.1)
          subst he
          obtain ⟨y, hy⟩ : ∃ y, y = R[0]'(by rw [← HRl.out]; exact HS.out.1) := ⟨_, rfl⟩
          rw [← hy] at w0 w1'
          clear hy
          obtain ⟨s, bd⟩ := y
          simp only [Nat.zero_mul, Nat.add_zero] at w0 w1'
          obtain ⟨t0, t1, e0, e1⟩ := box_cells ((Hb.out.block _ (lt_of_block HTz.out)).trans HTz.out)
          go_upto_region 10 with (fail)
          have hn := one_new wr (.cells #[.string s, .int .i64 bd] 116 (0, 0))
          refine gen_world (S := fun y => Below w.heap.size w y ∧ y.heap[X + 1]? = some (.cells #[.slice a1 n1 k1, .slice a2 n2 k2] 122 (0, 0))) ⟨(HBz.out.trans (Hb.out.mono HBz.out.size)).trans (hn.1.mono (HBz.out.trans (Hb.out.mono HBz.out.size)).size), (hn.1.block _ (lt_of_block ((Hb.out.block _ (lt_of_block HTz.out)).trans HTz.out))).trans ((Hb.out.block _ (lt_of_block HTz.out)).trans HTz.out)⟩ (fun y hy => ?_)
          obtain ⟨hby, hty⟩ := hy
          have HBy := Lib.hid hby
          have HTy := Lib.hid hty
          clear v0 v1 w0 w1' t0 t1 e0 e1 hn hby hty
          obtain ⟨t0, t1, e0, e1⟩ := box_cells HTy.out
          go_wp2
          have hx1 : w.heap.size ≤ X + 1 := by have := HX.out; omega
          have g2 := block_setCell' (k := 1) (u := .slice a2 n2 k2) (block_setCell' (k := 0) (u := .slice a1 n1 k1) HTy.out)
          obtain ⟨q0, q1, -, -⟩ := box_cells (u := .slice a1 n1 k1) (v := .slice a2 n2 k2) g2
          exact bodyPost_ret (v := .tuple #[.agg #[.slice a1 n1 k1, .slice a2 n2 k2], .bool false]) (by simp [results, Tryz.f51, go_sem, q0, q1]) rfl ⟨⟨_, _, by rw [HQ0.out], ⟨⟨_, _, _, rfl⟩, ⟨_, _, _, rfl⟩⟩, fun h => by rw [HQ0.out] at h; cases h⟩, (HBy.out.setCell (p := ⟨X + 1, 0, none⟩) hx1 _).setCell (p := ⟨X + 1, 1, none⟩) hx1 _⟩
      | some T =>
        simp only [Option.isSome_some]
        rintro e w2 ⟨⟨sv, hv, rfl, bs, bh, rfl, rfl, hs, hh⟩, hb2⟩
        have HQ1 := Lib.hid (show q = (bodiesAt R T 0 0 R == some n) by rw [HQ.out, right_eq (by rw [← HRl.out]; exact HS.out.1) (by rw [← HRl.out]; exact HS.out.2.1) (by rw [← HNl.out]; exact HS.out.2.2) (by rw [← HRl.out]; exact HAll.out) HTr.out.symm, HNl.out])
        have hTl : T.length = n := by rw [HNl.out]; exact treeAt_len _ N 0 T HTr.out.symm
        have HTle := Lib.hid (show ∀ i (hi : i < T.length), 0 + i + T[i].1 ≤ n ∧ T[i].2 ≤ T[i].1 from by have := treeAt_le N.length N 0 T (by omega) HTr.out.symm; rw [← HNl.out] at this; exact this)
        have h21 := (hb2.block _ (lt_of_block H11.out)).trans H11.out
        have h22 := (hb2.block _ (lt_of_block H12.out)).trans H12.out
        have hne1 := irow_ne hs h22
        have hne2 := irow_ne hh h22
        have HB2 := Lib.hid (HB1.out.trans (hb2.mono HB1.out.size))
        have H22 := Lib.hid h22
        have H21 := Lib.hid h21
        have HRow := Lib.hid (And.intro hs (And.intro hh (And.intro hne1 hne2)))
        clear v0 v1 t0 t1 e0 e1 hb2 h21 h22 hs hh hne1 hne2
        obtain ⟨v0, v1, -, -⟩ := box_cells H21.out
        obtain ⟨t0, t1, e0, e1⟩ := box_cells H22.out
        go_upto_region 6 with (fail)
        have hx1 : w.heap.size ≤ X + 1 := by have := HX.out; omega
        refine gen_world (S := fun z => WhL w X n (.slice ra r rc) (.slice na n nc) bs bh T z) ⟨(HB2.out.setCell (p := ⟨X + 1, 0, none⟩) hx1 _).setCell (p := ⟨X + 1, 1, none⟩) hx1 _, (Below.heap_setCell _ _ _ _ (by simp)).trans ((Below.heap_setCell _ _ _ _ (by simp)).trans H21.out), block_setCell' (block_setCell' H22.out), (HRow.out.1.other _ _ HRow.out.2.2.1).other _ _ HRow.out.2.2.1, (HRow.out.2.1.other _ _ HRow.out.2.2.2).other _ _ HRow.out.2.2.2, HRow.out.2.2.1, HRow.out.2.2.2⟩ (fun z hz => ?_)
        have HZ := Lib.hid hz
        clear v0 v1 t0 t1 e0 e1 hz HB2 H22 H21 HO hx1 HRow
        obtain ⟨v0, v1, -, -⟩ := box_cells HZ.out.g
        go_upto_region 8 with (fail)
        go_loopw [3, 4, 38] (fun b a i wr => ∃ k nx : Nat, k ≤ r ∧ nx ≤ n ∧ b = .bool true ∧ a = .int .i64 nx ∧ i = .int .i64 k ∧ Hid (bodiesAt R T k nx (R.drop k) = bodiesAt R T 0 0 R) ∧ Hid (WhL w X n (.slice ra r rc) (.slice na n nc) bs bh T wr)) (fun _ _ i _ => r - (intOf i).toNat)
        case atStart => exact ⟨0, 0, Nat.zero_le _, Nat.zero_le _, rfl, rfl, rfl, Lib.hid (by simp), HZ⟩
        case round =>
          obtain ⟨k, nx, hk, hnx, rfl, rfl, rfl, HI, HW⟩ := hrel
          by_cases hlt : k < r
          · have hlt2 : (k : Int) < r := by omega
            have hkR : k < R.length := by rw [← HRl.out]; exact hlt
            obtain ⟨b2, off, he, -, w0, w1'⟩ := (show RusAt wr _ R from RowsAt.later H.out.rules HW.out.bel).cells.2.2.2 k hkR
            subst he
            have HStep := Lib.hid HI.out
            rw [List.drop_eq_getElem_cons hkR] at HStep
            obtain ⟨y, hy⟩ : ∃ y, y = R[k] := ⟨_, rfl⟩
            rw [← hy] at w0 w1' HStep
            clear hy
            obtain ⟨s, bd⟩ := y
            simp only at w0 w1'
            go_upto_region 10 with (fail)
            have hn := one_new wr (.cells #[.string s, .int .i64 bd] 116 (0, 0))
            refine gen_world (S := fun y => WhL w X n (.slice (some ⟨b2, off, none⟩) r rc) (.slice na n nc) bs bh T y ∧ y.heap[wr.heap.size]? = some (.cells #[.string s, .int .i64 bd] 116 (0, 0))) ⟨HW.out.later hn.1, hn.2⟩ (fun y hy => ?_)
            obtain ⟨hwy, hry⟩ := hy
            have HWy := Lib.hid hwy
            obtain ⟨Z, hZ⟩ : ∃ Z, Z = wr.heap.size := ⟨_, rfl⟩
            rw [← hZ] at hry ⊢
            have HRy := Lib.hid hry
            have HNm := Lib.hid (fun wq => name_any s wq)
            obtain ⟨qn, hqn⟩ : ∃ qn, qn = nameOk s := ⟨_, rfl⟩
            rw [← hqn] at HNm
            have HQn := Lib.hid hqn
            have HRu := Lib.hid (fun wq (h : WhL w X n (.slice (some ⟨b2, off, none⟩) r rc) (.slice na n nc) bs bh T wq) => ruleN_any (.slice (some ⟨b2, off, none⟩) r rc) (.slice na n nc) R s wq (show RusAt wq _ R from RowsAt.later H.out.rules h.bel) ⟨_, _, _, rfl⟩)
            obtain ⟨zr, hzr⟩ : ∃ zr, zr = ruleOf R s := ⟨_, rfl⟩
            rw [← hzr] at HRu
            have HZr := Lib.hid hzr
            clear v0 v1 w0 w1' hn hwy hry hZ hqn hzr
            obtain ⟨v0, v1, -, -⟩ := box_cells HWy.out.g
            obtain ⟨r0, r1, -, -⟩ := box_cells HRy.out
            obtain ⟨t0, t1, e0, e1⟩ := box_cells HWy.out.t
            cases qn
            · go_wp2_with fail
              refine (HNm.out _).mono ?_
              rintro e w3 ⟨rfl, hb3⟩
              have HW3 := Lib.hid (HWy.out.later hb3)
              have HR3 := Lib.hid ((hb3.block _ (lt_of_block HRy.out)).trans HRy.out)
              clear v0 v1 r0 r1 t0 t1 e0 e1 hb3
              obtain ⟨v0, v1, -, -⟩ := box_cells HW3.out.g
              obtain ⟨r0, r1, -, -⟩ := box_cells HR3.out
              obtain ⟨t0, t1, e0, e1⟩ := box_cells HW3.out.t
              go_wp2
              have hz := HW3.out.self (Nat.le_of_eq HX.out.symm)
              obtain ⟨q0, q1, -, -⟩ := box_cells hz.t
              have hq0 : q = false := by rw [HQ1.out, ← HStep.out, bodiesAt, if_neg (fun h => by have := h.1; rw [← HQn.out] at this; cases this)]; rfl
              exact bodyPost_ret (v := .tuple #[.agg #[.slice (some ⟨bs, 0, none⟩) n n, .slice (some ⟨bh, 0, none⟩) n n], .bool false]) (by simp [results, Tryz.f51, go_sem, q0, q1]) rfl ⟨⟨_, _, by rw [hq0], ⟨⟨_, _, _, rfl⟩, ⟨_, _, _, rfl⟩⟩, fun h => by rw [hq0] at h; cases h⟩, hz.bel⟩
            · go_wp2_with fail
              refine (HNm.out _).mono ?_
              rintro e w3 ⟨rfl, hb3⟩
              have HW3 := Lib.hid (HWy.out.later hb3)
              have HR3 := Lib.hid ((hb3.block _ (lt_of_block HRy.out)).trans HRy.out)
              clear v0 v1 r0 r1 t0 t1 e0 e1 hb3
              obtain ⟨v0, v1, -, -⟩ := box_cells HW3.out.g
              obtain ⟨r0, r1, -, -⟩ := box_cells HR3.out
              obtain ⟨t0, t1, e0, e1⟩ := box_cells HW3.out.t
              go_wp2_with fail
              refine (HRu.out _ HW3.out).mono ?_
              rintro e w4 ⟨rfl, hb4⟩
              have HW4 := Lib.hid (HW3.out.later hb4)
              have HR4 := Lib.hid ((hb4.block _ (lt_of_block HR3.out)).trans HR3.out)
              clear v0 v1 r0 r1 t0 t1 e0 e1 hb4
              obtain ⟨v0, v1, -, -⟩ := box_cells HW4.out.g
              obtain ⟨r0, r1, -, -⟩ := box_cells HR4.out
              obtain ⟨t0, t1, e0, e1⟩ := box_cells HW4.out.t
              by_cases hzk : zr = (k : Int)
              case neg =>
                go_wp2
                have hz := HW4.out.self (Nat.le_of_eq HX.out.symm)
                obtain ⟨q0, q1, -, -⟩ := box_cells hz.t
                have hq0 : q = false := by rw [HQ1.out, ← HStep.out, bodiesAt, if_neg (fun h => hzk (by rw [HZr.out]; exact h.2.1))]; rfl
                exact bodyPost_ret (v := .tuple #[.agg #[.slice (some ⟨bs, 0, none⟩) n n, .slice (some ⟨bh, 0, none⟩) n n], .bool false]) (by simp [results, Tryz.f51, go_sem, q0, q1]) rfl ⟨⟨_, _, by rw [hq0], ⟨⟨_, _, _, rfl⟩, ⟨_, _, _, rfl⟩⟩, fun h => by rw [hq0] at h; cases h⟩, hz.bel⟩
              case pos =>
                have HZk := Lib.hid hzk
                have hzk2 : (zr == (k : Int)) = true := by simpa using hzk
                by_cases hbn : bd = (nx : Int)
                case neg =>
                  go_wp2
                  have hz := HW4.out.self (Nat.le_of_eq HX.out.symm)
                  obtain ⟨q0, q1, -, -⟩ := box_cells hz.t
                  have hq0 : q = false := by rw [HQ1.out, ← HStep.out, bodiesAt, if_neg (fun h => hbn h.2.2.1)]; rfl
                  exact bodyPost_ret (v := .tuple #[.agg #[.slice (some ⟨bs, 0, none⟩) n n, .slice (some ⟨bh, 0, none⟩) n n], .bool false]) (by simp [results, Tryz.f51, go_sem, q0, q1]) rfl ⟨⟨_, _, by rw [hq0], ⟨⟨_, _, _, rfl⟩, ⟨_, _, _, rfl⟩⟩, fun h => by rw [hq0] at h; cases h⟩, hz.bel⟩
                case pos =>
                  subst hbn
                  by_cases hnn : nx < n
                  case neg =>
                    have d1 : (n : Int) ≤ (nx : Int) := by omega
                    have d2 : n ≤ nx := by omega
                    go_wp2
                    have hz := HW4.out.self (Nat.le_of_eq HX.out.symm)
                    obtain ⟨q0, q1, -, -⟩ := box_cells hz.t
                    have hq0 : q = false := by rw [HQ1.out, ← HStep.out, bodiesAt, if_neg (fun h => by have := h.2.2.2.1; omega)]; rfl
                    exact bodyPost_ret (v := .tuple #[.agg #[.slice (some ⟨bs, 0, none⟩) n n, .slice (some ⟨bh, 0, none⟩) n n], .bool false]) (by simp [results, Tryz.f51, go_sem, q0, q1]) rfl ⟨⟨_, _, by rw [hq0], ⟨⟨_, _, _, rfl⟩, ⟨_, _, _, rfl⟩⟩, fun h => by rw [hq0] at h; cases h⟩, hz.bel⟩
                  case pos =>
                    have d1 : ¬ (n : Int) ≤ (nx : Int) := by omega
                    have d2 : ¬ n ≤ nx := by omega
                    have hlS : (szs T).length = n := by simpa [szs] using hTl
                    have hlH : (hts T).length = n := by simpa [hts] using hTl
                    obtain ⟨a1, -⟩ := HW4.out.s.cell nx (by omega)
                    obtain ⟨a2, -⟩ := HW4.out.h.cell nx (by omega)
                    rw [szs_get T nx (by omega)] at a1
                    rw [hts_get T nx (by omega)] at a2
                    have HLe := Lib.hid (HTle.out nx (by omega))
                    have HStep2 := Lib.hid HStep.out
                    have HGet := Lib.hid (show T.getD nx (0, 0) = T[nx]'(by omega) by simp [hTl, hnn])
                    obtain ⟨p, hp⟩ : ∃ p, p = T[nx]'(by omega) := ⟨_, rfl⟩
                    rw [← hp] at a1 a2 HLe HGet
                    obtain ⟨p1, p2⟩ := p
                    simp only at a1 a2 HLe
                    clear hp hlS hlH
                    by_cases hh : p2 ≤ 16
                    case neg =>
                      have d3 : (16 : Int) < (p2 : Int) := by omega
                      have d4 : 16 < p2 := by omega
                      go_wp2
                      have hz := HW4.out.self (Nat.le_of_eq HX.out.symm)
                      obtain ⟨q0, q1, -, -⟩ := box_cells hz.t
                      have hq0 : q = false := by rw [HQ1.out, ← HStep.out, bodiesAt, if_neg (fun h => hh (by have := h.2.2.2.2; rw [HGet.out] at this; exact this))]; rfl
                      exact bodyPost_ret (v := .tuple #[.agg #[.slice (some ⟨bs, 0, none⟩) n n, .slice (some ⟨bh, 0, none⟩) n n], .bool false]) (by simp [results, Tryz.f51, go_sem, q0, q1]) rfl ⟨⟨_, _, by rw [hq0], ⟨⟨_, _, _, rfl⟩, ⟨_, _, _, rfl⟩⟩, fun h => by rw [hq0] at h; cases h⟩, hz.bel⟩
                    case pos =>
                      have d3 : ¬ (16 : Int) < (p2 : Int) := by omega
                      have d4 : ¬ 16 < p2 := by omega
                      have hle := HLe.out
                      have hw1 : IntKind.i64.wrap ((nx : Int) + (p1 : Int)) = ((nx + p1 : Nat) : Int) := by rw [IntWalk.i64_in _ (by omega)]; omega
                      have HNx := Lib.hid (show nx + p1 ≤ n ∧ bodiesAt R T (k + 1) (nx + p1) (R.drop (k + 1)) = bodiesAt R T 0 0 R from ⟨by have := hle.1; omega, by rw [← HStep.out, bodiesAt, if_pos ⟨HQn.out.symm, by rw [← HZr.out]; exact HZk.out, rfl, by omega, by rw [HGet.out]; exact hh⟩, HGet.out]⟩)
                      clear hle
                      go_wp2
                      go_roundw
                      case rel => exact ⟨k + 1, nx + p1, by omega, HNx.out.1, rfl, by first | rfl | rw [Int.natCast_add], by go_num, Lib.hid HNx.out.2, Lib.hid (by first | exact HW4.out | exact HW4.out.later ((Below.refl _ _).drew))⟩
                      case measure => simp [intOf]; omega
          · have hlt2 : ¬ (k : Int) < r := by omega
            obtain rfl : k = r := by omega
            have HEnd := Lib.hid (show q = (nx == n) by rw [HQ1.out, ← HI.out, List.drop_of_length_le (by rw [HRl.out]; exact Nat.le_refl _)]; rfl)
            obtain ⟨v0', v1', -, -⟩ := box_cells HW.out.g
            obtain ⟨t0, t1, e0, e1⟩ := box_cells HW.out.t
            have hz := HW.out.self (Nat.le_of_eq HX.out.symm)
            have HZf := Lib.hid hz
            clear hz
            go_upto_region 14 with (fail)
            go_region
            all_goals go_wp2
            all_goals
              obtain ⟨q0, q1, -, -⟩ := box_cells HZf.out.t
              refine bodyPost_ret (v := .tuple #[.agg #[.slice (some ⟨bs, 0, none⟩) n n, .slice (some ⟨bh, 0, none⟩) n n], .bool ((nx : Int) == (n : Int))]) (by simp [results, Tryz.f51, go_sem, q0, q1]) rfl ⟨⟨_, _, by rw [HEnd.out, show ((nx : Int) == (n : Int)) = (nx == n) by rw [Bool.eq_iff_iff]; simp; omega], ⟨⟨_, _, _, rfl⟩, ⟨_, _, _, rfl⟩⟩, fun _ => ?_⟩, by first | exact HZf.out.bel | exact HZf.out.bel.drew⟩
              unfold OfRes
              rw [← HTr.out, ← HNl.out]
              exact ⟨bs, bh, rfl, rfl, HZf.out.s, HZf.out.h⟩
set_option maxRecDepth 100000 in
set_option maxHeartbeats 2000000 in
theorem gRight_any (rv nv : Value) (R : List Ru) (N : List Nd) (w : World) (h : GrOk w rv nv R N) :
    Calls Tryz.prog 23 #[.agg #[rv, nv]] w fun e w' => e = .returned (.bool (grRight R N)) ∧ Below w.heap.size w w' := by
  have HP := Lib.hid (fun wq (hb : Below w.heap.size w wq) => whole_any rv nv R N wq (h.later hb))
  obtain ⟨ra, rc, hrv⟩ := h.rules.val
  obtain ⟨na, nc, hnv⟩ := h.nodes.val
  subst hrv
  subst hnv
  obtain ⟨q, hq⟩ : ∃ q, q = grRight R N := ⟨_, rfl⟩
  rw [← hq] at HP ⊢
  rw [List.length_map, List.length_map] at HP ⊢
  obtain ⟨n, hn⟩ : ∃ n, n = N.length := ⟨_, rfl⟩
  obtain ⟨r, hr⟩ : ∃ r, r = R.length := ⟨_, rfl⟩
  rw [← hn, ← hr] at HP ⊢
  clear hq h hn hr
  go_enter Tryz.func23, Tryz.ntmps23
  go_upto_region 1 with (fail)
  refine gen_world (S := fun u => Below w.heap.size w u ∧ u.heap[w.heap.size]? = some (.cells #[.slice ra r rc, .slice na n nc] 25 (0, 0))) (one_new w _) (fun u hu => ?_)
  obtain ⟨hb, h1⟩ := hu
  have HB := Lib.hid hb
  obtain ⟨v0, v1, -, -⟩ := box_cells h1
  clear h1
  go_wp2_with fail
  refine (HP.out u hb).mono ?_
  rintro e w1 ⟨⟨sv, hv, rfl, ⟨⟨a1, n1, k1, rfl⟩, ⟨a2, n2, k2, rfl⟩⟩, -⟩, hb1⟩
  have HB1 := Lib.hid hb1
  clear hb hb1 v0 v1
  go_wp2
  go_ret
  exact ⟨rfl, (HB.out.trans (HB1.out.mono HB.out.size)).alloc (HB.out.trans (HB1.out.mono HB.out.size)).size _⟩
end Go.Proofs.YtkimkghldilliaaGreat
