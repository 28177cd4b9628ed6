/-
  gram: how many nodes each node has, how high it is.
-/
import Derived.Test.YtkimkghldilliaaGreatGrH
namespace Go.Proofs.YtkimkghldilliaaGreat
open Go.RowKit Go.Lib Go.Maps

theorem cut_in {T G : Prop} (h : T → G) (t : T) : G := h t
theorem kidsAt_le {n len : Nat} {T : List (Nat × Nat)} (hT : ∀ i (hi : i < T.length), n + 1 + i + T[i].1 ≤ len ∧ T[i].2 ≤ T[i].1) (hl : n + 1 + T.length = len) : ∀ (ks : List Int) (next high a b : Nat), n + 1 ≤ next → next ≤ len → high ≤ next - (n + 1) → kidsAt n len T next high ks = some (a, b) → next ≤ a ∧ a ≤ len ∧ b ≤ a - (n + 1)
  | [], next, high, a, b, h0, h1, h2, h => by
    simp only [kidsAt, Option.some.injEq, Prod.mk.injEq] at h
    obtain ⟨rfl, rfl⟩ := h
    exact ⟨Nat.le_refl _, h1, h2⟩
  | k :: ks, next, high, a, b, h0, h1, h2, h => by
    unfold kidsAt at h
    split at h
    · rename_i hk
      have hi : next - (n + 1) < T.length := by omega
      obtain ⟨h3, h4⟩ := hT _ hi
      rw [show T.getD (next - (n + 1)) (0, 0) = T[next - (n + 1)] by simp [hi]] at h
      have := kidsAt_le hT hl ks _ _ a b (by omega) (by omega) (by omega) h
      exact ⟨by omega, this.2⟩
    · cases h
theorem treeAt_le (len : Nat) : ∀ (N : List Nd) (n : Nat) (T : List (Nat × Nat)), n + N.length = len → treeAt len n N = some T → ∀ i (hi : i < T.length), n + i + T[i].1 ≤ len ∧ T[i].2 ≤ T[i].1
  | [], n, T, hl, h => by simp [treeAt] at h; subst h; intro i hi; simp at hi
  | x :: r, n, T, hl, h => by
    simp only [List.length_cons] at hl
    unfold treeAt at h
    cases h1 : treeAt len (n + 1) r with
    | none => rw [h1] at h; simp at h
    | some T1 =>
      rw [h1] at h
      simp only at h
      cases h2 : kidsAt n len T1 (n + 1) 0 x.kids with
      | none => rw [h2] at h; simp at h
      | some p =>
        rw [h2] at h
        simp only [Option.some.injEq] at h
        subst h
        have ih := treeAt_le len r (n + 1) T1 (by omega) h1
        have hT1 := treeAt_len len r (n + 1) T1 h1
        obtain ⟨g1, g2, g3⟩ := kidsAt_le (n := n) (len := len) (fun i hi => ih i hi) (by omega) x.kids (n + 1) 0 p.1 p.2 (Nat.le_refl _) (by omega) (by omega) h2
        intro i hi
        cases i with
        | zero => simp only [List.getElem_cons_zero]; omega
        | succ i =>
          simp only [List.getElem_cons_succ]
          simp only [List.length_cons] at hi
          have := ih i (by omega)
          omega
/-- a row of numbers in a block of its own. -/
def IRow (w : World) (b : Nat) (l : List Int) : Prop := w.heap[b]? = some (.cells (l.map (Value.int .i64)).toArray 3 (0, 0))
theorem IRow.cell {w : World} {b : Nat} {l : List Int} (h : IRow w b l) (k : Nat) (hk : k < l.length) : w.cell? ⟨b, k, none⟩ = some (.int .i64 l[k]) ∧ w.frozen? ⟨b, k, none⟩ = false := by
  obtain ⟨h1, h2⟩ := block_cell' h k
  exact ⟨by rw [h1]; simp [hk], h2⟩
theorem IRow.later {w w' : World} {b : Nat} {l : List Int} (h : IRow w b l) (hb : Below w.heap.size w w') : IRow w' b l := (hb.block _ (lt_of_block h)).trans h
theorem IRow.set {w : World} {b : Nat} {l : List Int} (h : IRow w b l) (k : Nat) (u : Int) : IRow (w.setCell ⟨b, k, none⟩ (.int .i64 u)) b (l.set k u) := by
  have := block_setCell' (k := k) (u := .int .i64 u) h
  unfold IRow
  rw [this]
  simp [List.map_set]
theorem IRow.other {w : World} {b c : Nat} {l : List Int} (h : IRow w b l) (k : Nat) (u : Value) (hne : b ≠ c) : IRow (w.setCell ⟨c, k, none⟩ u) b l := (Below.heap_setCell _ _ _ _ hne).trans h
def rowZ (m : Nat) (T : List Int) : List Int := List.replicate m 0 ++ T
theorem rowZ_len (m : Nat) (T : List Int) : (rowZ m T).length = m + T.length := by simp [rowZ]
theorem rowZ_get (m : Nat) (T : List Int) (k : Nat) (hm : m ≤ k) (hk : k < (rowZ m T).length) : (rowZ m T)[k] = T[k - m]'(by rw [rowZ_len] at hk; omega) := by
  have : (rowZ m T)[k]? = T[k - m]? := by unfold rowZ; rw [List.getElem?_append_right (by simpa using hm)]; simp
  rw [List.getElem?_eq_getElem hk, List.getElem?_eq_getElem (by rw [rowZ_len] at hk; omega)] at this
  exact Option.some.inj this
theorem rowZ_set (m : Nat) (T : List Int) (x : Int) : (rowZ (m + 1) T).set m x = rowZ m (x :: T) := by
  unfold rowZ
  rw [List.replicate_succ', List.append_assoc, List.set_append]
  simp
def szs (T : List (Nat × Nat)) : List Int := T.map fun p => (p.1 : Int)
def hts (T : List (Nat × Nat)) : List Int := T.map fun p => (p.2 : Int)
/-- what of tells. -/
def OfRes (w : World) (N : List Nd) (sv hv : Value) : Prop :=
  match treeAt N.length 0 N with
  | none => (∃ b n c, sv = .slice b n c) ∧ (∃ b n c, hv = .slice b n c)
  | some T => ∃ bs bh, sv = .slice (some ⟨bs, 0, none⟩) N.length N.length ∧ hv = .slice (some ⟨bh, 0, none⟩) N.length N.length ∧ IRow w bs (szs T) ∧ IRow w bh (hts T)

theorem make_ints (m : Nat) (hm : m ≤ 2048) (w : World) : (Instr.makeSlice 52 (.int .i64 (m : Int)) (.int .i64 (m : Int))).run Tryz.prog w = .ok (.slice (some ⟨w.heap.size, 0, none⟩) m m) (w.alloc (.cells ((rowZ m []).map (Value.int .i64)).toArray 3)) := by
  obtain ⟨i0, hi, hz0, hz1, hz2⟩ := info_parts Tryz.infoInt
  rw [run_makeSlice w 52 3 i0 (.int .i64 0) Tryz.underlying52 hi hz0 .i64 .i64 (m : Int) (m : Int) (by omega) (Int.le_refl _) (by rw [hz1]; omega) (by rw [hz2]; omega) (by omega)]
  rw [hz1]
  have : madeCells #[Value.int .i64 0] m = ((rowZ m []).map (Value.int .i64)).toArray := by
    apply Array.ext'
    simp [madeCells, rowZ, Nat.mod_one]
    rw [List.map_const']
    simp
  simp only [Value.cells, Int.toNat_natCast, Nat.mul_one]
  rw [this]
theorem wpAnyH_listed {P : Program} {md : Region.Mode} {ops : Array Oper} {Q : Exit → Act → World → Prop} {S : World → Prop} {fuel : Nat} {listed L : Array Bool} {a : Act} {w : World} (h : listed = L)
    (k : wpAnyH P md ops Q S fuel L a w) : wpAnyH P md ops Q S fuel listed a w := h ▸ k
theorem treeAt_none (len : Nat) (N : List Nd) : ∀ m, m ≤ N.length → treeAt len m (N.drop m) = none → treeAt len 0 N = none
  | 0, _, h => by simpa using h
  | m + 1, hm, h => by
    refine treeAt_none len N m (by omega) ?_
    rw [List.drop_eq_getElem_cons (by omega), treeAt, h]
theorem treeAt_step (len : Nat) (N : List Nd) (m : Nat) (hm : m < N.length) (T : List (Nat × Nat)) (h : treeAt len (m + 1) (N.drop (m + 1)) = some T) :
    treeAt len m (N.drop m) = match kidsAt m len T (m + 1) 0 N[m].kids with
      | none => none
      | some (next, high) => some ((next - m, high + 1) :: T) := by
  rw [List.drop_eq_getElem_cons hm]
  unfold treeAt
  simp only [h]
  cases kidsAt m len T (m + 1) 0 N[m].kids <;> rfl
/-- behind the nodes from m on. -/
structure OfL (w : World) (X n bs bh : Nat) (N : List Nd) (m : Nat) (T : List (Nat × Nat)) (wr : World) : Prop where
  bel : Below w.heap.size w wr
  box : wr.heap[X]? = some (.cells #[.slice (some ⟨bs, 0, none⟩) n n, .slice (some ⟨bh, 0, none⟩) n n] 122 (0, 0))
  tree : treeAt n m (N.drop m) = some T
  s : IRow wr bs (rowZ m (szs T))
  h : IRow wr bh (rowZ m (hts T))
theorem OfL.drew {w : World} {X n bs bh : Nat} {N : List Nd} {m : Nat} {T : List (Nat × Nat)} {wr : World} (h : OfL w X n bs bh N m T wr) : OfL w X n bs bh N m T wr.drew := ⟨h.bel.drew, h.box, h.tree, h.s, h.h⟩
theorem OfL.self {w : World} {X n bs bh : Nat} {N : List Nd} {m : Nat} {T : List (Nat × Nat)} {wr : World} (h : OfL w X n bs bh N m T wr) (hx : w.heap.size ≤ X) (hs : X < bs) (hh : X < bh) :
    OfL w X n bs bh N m T ((wr.setCell ⟨X, 0, none⟩ (.slice (some ⟨bs, 0, none⟩) n n)).setCell ⟨X, 1, none⟩ (.slice (some ⟨bh, 0, none⟩) n n)) :=
  ⟨(h.bel.setCell (p := ⟨X, 0, none⟩) hx _).setCell (p := ⟨X, 1, none⟩) hx _, block_setCell' (block_setCell' h.box), h.tree, (h.s.other _ _ (Ne.symm (Nat.ne_of_lt hs))).other _ _ (Ne.symm (Nat.ne_of_lt hs)), (h.h.other _ _ (Ne.symm (Nat.ne_of_lt hh))).other _ _ (Ne.symm (Nat.ne_of_lt hh))⟩
theorem szs_get (T : List (Nat × Nat)) (k : Nat) (hk : k < T.length) : (szs T)[k]'(by simpa [szs] using hk) = (T[k].1 : Int) := by simp [szs]
theorem hts_get (T : List (Nat × Nat)) (k : Nat) (hk : k < T.length) : (hts T)[k]'(by simpa [hts] using hk) = (T[k].2 : Int) := by simp [hts]
theorem OfL.at {w : World} {X n bs bh : Nat} {N : List Nd} {m : Nat} {T : List (Nat × Nat)} {wr : World} (h : OfL w X n bs bh N m T wr) (hT : m + T.length = n) (q : Nat) (h1 : m ≤ q) (h2 : q < n) :
    wr.cell? ⟨bs, q, none⟩ = some (.int .i64 ((T.getD (q - m) (0, 0)).1 : Int)) ∧ wr.cell? ⟨bh, q, none⟩ = some (.int .i64 ((T.getD (q - m) (0, 0)).2 : Int)) := by
  have hq : q - m < T.length := by omega
  have e : T.getD (q - m) (0, 0) = T[q - m] := by simp [hq]
  have l1 : (szs T).length = T.length := by simp [szs]
  have l2 : (hts T).length = T.length := by simp [hts]
  have g1 := (h.s.cell q (by rw [rowZ_len]; omega)).1
  have g2 := (h.h.cell q (by rw [rowZ_len]; omega)).1
  rw [rowZ_get _ _ _ h1, szs_get T _ hq] at g1
  rw [rowZ_get _ _ _ h1, hts_get T _ hq] at g2
  rw [e]
  exact ⟨g1, g2⟩
theorem bad_res {N : List Nd} (n bs bh : Nat) (h : treeAt N.length 0 N = none) (z : World) : OfRes z N (.slice (some ⟨bs, 0, none⟩) n n) (.slice (some ⟨bh, 0, none⟩) n n) ∧ (treeAt N.length 0 N).isSome = false := by
  refine ⟨?_, by rw [h]; rfl⟩
  unfold OfRes
  rw [h]
  exact ⟨⟨_, _, _, rfl⟩, ⟨_, _, _, rfl⟩⟩
/-- two rows of naught, made. -/
structure FOf (w : World) (X n : Nat) (z : World) (bs bh : Nat) : Prop where
  bel : Below w.heap.size w z
  box : z.heap[X]? = some (.cells #[.slice none 0 0, .slice none 0 0] 122 (0, 0))
  s : IRow z bs (rowZ n [])
  h : IRow z bh (rowZ n [])
  ne : bs ≠ bh
  xs : X < bs
  xh : X < bh
theorem two_made {w u : World} {X n : Nat} (hb : Below w.heap.size w u) (hx : u.heap[X]? = some (.cells #[.slice none 0 0, .slice none 0 0] 122 (0, 0))) :
    FOf w X n ((u.alloc (.cells ((rowZ n []).map (Value.int .i64)).toArray 3)).alloc (.cells ((rowZ n []).map (Value.int .i64)).toArray 3)).drew u.heap.size (u.heap.size + 1) ∧ FOf w X n ((u.alloc (.cells ((rowZ n []).map (Value.int .i64)).toArray 3)).alloc (.cells ((rowZ n []).map (Value.int .i64)).toArray 3)).drew (u.heap.size + 1) u.heap.size := by
  obtain ⟨h1, h2, h3⟩ := two_new u (.cells ((rowZ n []).map (Value.int .i64)).toArray 3) (.cells ((rowZ n []).map (Value.int .i64)).toArray 3)
  have hl := lt_of_block hx
  have hbx := (h1.block _ hl).trans hx
  have hbe := (hb.trans (h1.mono hb.size)).drew
  exact ⟨⟨hbe, hbx, h2, h3, by omega, hl, by omega⟩, ⟨hbe, hbx, h3, h2, by omega, by omega, hl⟩⟩
set_option maxRecDepth 100000 in
set_option maxHeartbeats 4000000 in
theorem of_any (v : Value) (N : List Nd) (w : World) (h : NdsAt w v N) (hk : ∀ x ∈ N, CellsAt w x.kv (iv x.kids)) (hL : N.length ≤ 2048) :
    Calls Tryz.prog 93 #[v] w fun e w' => (∃ sv hv, e = .returned (.tuple #[.agg #[sv, hv], .bool (treeAt N.length 0 N).isSome]) ∧ OfRes w' N sv hv) ∧ Below w.heap.size w w' := by
  have H := Lib.hid h
  have HK := Lib.hid hk
  obtain ⟨ao, cap, rfl⟩ := h.val
  rw [List.length_map] at H ⊢
  have hm := H.out.cells.2.2.1
  have hlc := H.out.cells.2.1
  unfold maxLen at hm
  obtain ⟨n, hn⟩ : ∃ n, n = N.length := ⟨_, rfl⟩
  have HN := Lib.hid hn
  rw [← hn] at hlc H hL ⊢
  clear h hk hn
  have hn2 : (n : Int) ≤ 2048 := by omega
  go_enter Tryz.func93, Tryz.ntmps93
  go_upto_region 1 with (fail)
  refine gen_world (S := fun u => Below w.heap.size w u ∧ u.heap[w.heap.size]? = some (.cells #[.slice none 0 0, .slice none 0 0] 122 (0, 0))) (one_new w _) (fun u hu => ?_)
  obtain ⟨hb, h1⟩ := hu
  have HB := Lib.hid hb
  have H1 := Lib.hid h1
  obtain ⟨X, hX⟩ : ∃ X, X = w.heap.size := ⟨_, rfl⟩
  rw [← hX] at H1 ⊢
  have HX := Lib.hid hX
  obtain ⟨v0, v1, f0, f1⟩ := box_cells H1.out
  clear hb h1 hX
  have hmk := fun w => make_ints n hL w
  refine wp_region_held_drew (S := fun z => Below w.heap.size w z) (by kernel_rfl) HB.out.drew (fun hS => ?_)
  refine wpAnyH_take (i := 0) (oi := ⟨_, _, _, _, _, _⟩) (v := ?v1) rfl (by kernel_rfl) (by kernel_rfl) (by kernel_rfl) (fun _ _ _ h => h) ?y1 hS ?_
  case y1 => first | (refine Or.inr ⟨by rfl, ?_⟩; with_reducible rfl) | (refine Or.inl ⟨by rfl, ?_⟩; intro wS hSw; go_simp; try with_reducible rfl)
  simp only [Act.put, List.setIfInBounds_toArray, List.set_cons_zero, List.set_cons_succ]
  refine wpAnyH_take (i := 1) (oi := ⟨_, _, _, _, _, _⟩) (v := ?v2) rfl (by kernel_rfl) (by kernel_rfl) (by kernel_rfl) (fun _ _ _ h => h) ?y2 hS ?_
  case y2 => first | (refine Or.inr ⟨by rfl, ?_⟩; with_reducible rfl) | (refine Or.inl ⟨by rfl, ?_⟩; intro wS hSw; go_simp; try with_reducible rfl)
  simp only [Act.put, List.setIfInBounds_toArray, List.set_cons_zero, List.set_cons_succ]
  refine wpAnyH_take (i := 3) (oi := ⟨_, _, _, _, _, _⟩) (v := ?v3) rfl (by kernel_rfl) (by kernel_rfl) (by kernel_rfl) (fun _ _ _ h => h) ?y3 hS ?_
  case y3 => first | (refine Or.inr ⟨by rfl, ?_⟩; with_reducible rfl) | (refine Or.inl ⟨by rfl, ?_⟩; intro wS hSw; go_simp; try with_reducible rfl)
  simp only [Act.put, List.setIfInBounds_toArray, List.set_cons_zero, List.set_cons_succ]
  refine wpAnyH_take (i := 4) (oi := ⟨_, _, _, _, _, _⟩) (v := ?v4) rfl (by kernel_rfl) (by kernel_rfl) (by kernel_rfl) (fun _ _ _ h => h) ?y4 hS ?_
  case y4 => first | (refine Or.inr ⟨by rfl, ?_⟩; with_reducible rfl) | (refine Or.inl ⟨by rfl, ?_⟩; intro wS hSw; go_simp; try with_reducible rfl)
  simp only [Act.put, List.setIfInBounds_toArray, List.set_cons_zero, List.set_cons_succ]
  have HM := Lib.hid (two_made (n := n) HB.out H1.out)
  apply cut_in
  · intro key
    refine wpAnyH_ready (rs := [2, 5]) (by kernel_rfl) (by simp) ?_
    refine AllReadyH.cons (o := ⟨_, _, _, _, _, _⟩) rfl (fun K hK => ?_) (AllReadyH.cons (o := ⟨_, _, _, _, _, _⟩) rfl (fun K hK => ?_) AllReadyH.nil)
    · go_simp
      refine hK.out _ _ (hS.alloc hS.size _) (fun hS2 => ?_)
      clear hK K
      try simp only [Act.put, List.setIfInBounds_toArray, List.set_cons_zero, List.set_cons_succ]
      refine wpAnyH_ready (rs := [5]) (by kernel_rfl) (by simp) ?_
      refine AllReadyH.cons (o := ⟨_, _, _, _, _, _⟩) rfl (fun K hK => ?_) AllReadyH.nil
      go_simp
      refine hK.out _ _ (hS2.alloc hS2.size _) (fun hS3 => ?_)
      clear hK K hS2 hS3
      try simp only [Act.put, List.setIfInBounds_toArray, List.set_cons_zero, List.set_cons_succ]
      have hF := HM.out.1
      refine wpAnyH_listed (L := #[true, true, true, true, true, true, false, false]) (by kernel_rfl) ?_
      generalize ((u.alloc (.cells ((rowZ n []).map (Value.int .i64)).toArray 3)).alloc (.cells ((rowZ n []).map (Value.int .i64)).toArray 3)).drew = z at hF ⊢
      generalize u.heap.size + 1 = bh at hF ⊢
      generalize u.heap.size = bs at hF ⊢
      revert hF
      revert z
      revert bs
      revert bh
      exact key
    · go_simp
      refine hK.out _ _ (hS.alloc hS.size _) (fun hS2 => ?_)
      clear hK K
      try simp only [Act.put, List.setIfInBounds_toArray, List.set_cons_zero, List.set_cons_succ]
      refine wpAnyH_ready (rs := [2]) (by kernel_rfl) (by simp) ?_
      refine AllReadyH.cons (o := ⟨_, _, _, _, _, _⟩) rfl (fun K hK => ?_) AllReadyH.nil
      go_simp
      refine hK.out _ _ (hS2.alloc hS2.size _) (fun hS3 => ?_)
      clear hK K hS2 hS3
      try simp only [Act.put, List.setIfInBounds_toArray, List.set_cons_zero, List.set_cons_succ]
      have hF := HM.out.2
      refine wpAnyH_listed (L := #[true, true, true, true, true, true, false, false]) (by kernel_rfl) ?_
      generalize ((u.alloc (.cells ((rowZ n []).map (Value.int .i64)).toArray 3)).alloc (.cells ((rowZ n []).map (Value.int .i64)).toArray 3)).drew = z at hF ⊢
      generalize u.heap.size + 1 = bs at hF ⊢
      generalize u.heap.size = bh at hF ⊢
      revert hF
      revert z
      revert bs
      revert bh
      exact key
  · intro bh bs z hF
    have HF := Lib.hid hF
    have hS := hF.bel
    obtain ⟨v0, v1, f0, f1⟩ := box_cells hF.box
    clear hF HM HB H1
    refine wpAnyH_take (i := 6) (oi := ⟨_, _, _, _, _, _⟩) (v := ?v5) rfl (by kernel_rfl) (by kernel_rfl) (by kernel_rfl) (fun _ _ _ h => h) ?y5 hS ?_
    case y5 => first | (refine Or.inr ⟨by rfl, ?_⟩; with_reducible rfl) | (refine Or.inl ⟨by rfl, ?_⟩; intro wS hSw; go_simp; try with_reducible rfl)
    simp only [Act.put, List.setIfInBounds_toArray, List.set_cons_zero, List.set_cons_succ]
    refine wpAnyH_ready (rs := [7]) (by kernel_rfl) (by simp) ?_
    refine AllReadyH.cons (o := ⟨_, _, _, _, _, _⟩) rfl (fun K hK => ?_) AllReadyH.nil
    go_simp
    refine hK.out _ _ ((hS.setCell (p := ⟨X, 0, none⟩) (Nat.le_of_eq HX.out.symm) _).setCell (p := ⟨X, 1, none⟩) (Nat.le_of_eq HX.out.symm) _) (fun hS2 => ?_)
    clear hK K hS hS2
    try simp only [Act.put, List.setIfInBounds_toArray, List.set_cons_zero, List.set_cons_succ]
    refine wpAnyH_done (by kernel_rfl) ?_ _
    refine gen_any (S := fun y => Below w.heap.size w y ∧ y.heap[X]? = some (.cells #[.slice (some ⟨bs, 0, none⟩) n n, .slice (some ⟨bh, 0, none⟩) n n] 122 (0, 0)) ∧ IRow y bs (rowZ n []) ∧ IRow y bh (rowZ n []) ∧ bs ≠ bh ∧ X < bs ∧ X < bh) ⟨(HF.out.bel.setCell (p := ⟨X, 0, none⟩) (Nat.le_of_eq HX.out.symm) _).setCell (p := ⟨X, 1, none⟩) (Nat.le_of_eq HX.out.symm) _, block_setCell' (block_setCell' HF.out.box), (HF.out.s.other _ _ (Ne.symm (Nat.ne_of_lt HF.out.xs))).other _ _ (Ne.symm (Nat.ne_of_lt HF.out.xs)), (HF.out.h.other _ _ (Ne.symm (Nat.ne_of_lt HF.out.xh))).other _ _ (Ne.symm (Nat.ne_of_lt HF.out.xh)), HF.out.ne, HF.out.xs, HF.out.xh⟩ (fun y hy => ?_)
    obtain ⟨hby, hxy, hsy, hhy, hne, hxs, hxh⟩ := hy
    have HBy := Lib.hid hby
    have HXy := Lib.hid hxy
    have HSy := Lib.hid hsy
    have HHy := Lib.hid hhy
    have HNe := Lib.hid (And.intro hne (And.intro hxs hxh))
    clear v0 v1 f0 f1 HF hby hxy hsy hhy hne hxs hxh
    have hwn : IntKind.i64.wrap ((n : Int) - 1) = (n : Int) - 1 := IntWalk.i64_in _ (by omega)
    go_upto_region 3 with (fail)
    go_loopw [4] (fun i wr => ∃ (m : Nat) (T : List (Nat × Nat)), m ≤ n ∧ i = .int .i64 ((m : Int) - 1) ∧ Hid (OfL w X n bs bh N m T wr)) (fun i _ => (intOf i + 1).toNat)
    case atStart => exact ⟨n, [], Nat.le_refl _, rfl, Lib.hid ⟨HBy.out, HXy.out, by rw [HN.out, List.drop_length]; rfl, by simpa [szs] using HSy.out, by simpa [hts] using HHy.out⟩⟩
    case round =>
      obtain ⟨m, T, hmn, rfl, HO⟩ := hrel
      obtain ⟨v0, v1, f0, f1⟩ := box_cells HO.out.box
      by_cases hm0 : m = 0
      · subst hm0
        simp only [Int.ofNat_zero, Int.zero_sub]
        go_wp2
        have hz := HO.out.self (Nat.le_of_eq HX.out.symm) HNe.out.2.1 HNe.out.2.2
        obtain ⟨q0, q1, -, -⟩ := box_cells hz.box
        exact bodyPost_ret (v := .tuple #[.agg #[.slice (some ⟨bs, 0, none⟩) n n, .slice (some ⟨bh, 0, none⟩) n n], .bool true]) (by simp [results, Tryz.f93, go_sem, q0, q1]) rfl ⟨⟨_, _, by rw [show treeAt n 0 N = some T from by simpa using hz.tree]; rfl, by
          unfold OfRes
          rw [← HN.out, show treeAt n 0 N = some T from by simpa using hz.tree]
          exact ⟨bs, bh, by rw [HN.out], by rw [HN.out], by simpa [rowZ] using hz.s, by simpa [rowZ] using hz.h⟩⟩, hz.bel⟩
      · obtain ⟨k, rfl⟩ : ∃ k, m = k + 1 := ⟨m - 1, by omega⟩
        rw [show ((k + 1 : Nat) : Int) - 1 = (k : Int) by omega]
        have hkN : k < N.length := by rw [← HN.out]; omega
        have hkn : (k : Int) < n := by omega
        have hk0 : (0 : Int) ≤ (k : Int) := by omega
        obtain ⟨b, off, rfl, hbl, hc0⟩ := H.out.cells.2.2.2 k hkN
        have hcN := (show NdsAt wr _ N from RowsAt.later H.out HO.out.bel).cells.2.2.2 k hkN
        obtain ⟨b', off', he', -, -, -, -, -, -, -, -, -, w8⟩ := hcN
        simp only [Option.some.injEq, Addr.mk.injEq, and_true] at he'
        obtain ⟨rfl, rfl⟩ := he'
        have hks := HK.out N[k] (List.getElem_mem _)
        have HStep := Lib.hid (treeAt_step n N k hkN T HO.out.tree)
        obtain ⟨ks, hkse⟩ : ∃ ks, ks = N[k].kids := ⟨_, rfl⟩
        rw [← hkse] at hks HStep
        obtain ⟨kv, hkv⟩ : ∃ kv, kv = N[k].kv := ⟨_, rfl⟩
        rw [← hkv] at hks w8
        clear hkse hkv hc0
        obtain ⟨kao, kb, koff, kcap, rfl, hkl, hkm, hknil, hkao, -, hkc⟩ := hks
        simp only [List.length_map] at hkl hkao hkc w8
        unfold maxLen at hkm
        obtain ⟨kn, hkn2⟩ : ∃ kn, kn = ks.length := ⟨_, rfl⟩
        have HKn := Lib.hid hkn2
        rw [← hkn2] at hkl w8
        have HKc := Lib.hid hkc
        have HKao := Lib.hid hkao
        clear hkc hkao hknil hkn2
        have hwk : IntKind.i64.wrap ((k : Int) + 1) = ((k + 1 : Nat) : Int) := by rw [IntWalk.i64_in _ (by omega)]; omega
        go_upto_region 7 with (fail)
        go_loopw [5, 6, 31] (fun a c i wr => ∃ nx hi j : Nat, j ≤ kn ∧ nx ≤ n ∧ hi ≤ n ∧ i = .int .i64 j ∧ a = .int .i64 nx ∧ c = .int .i64 hi ∧ Hid (k + 1 ≤ nx ∧ hi ≤ nx - (k + 1) ∧ kidsAt k n T nx hi (ks.drop j) = kidsAt k n T (k + 1) 0 ks) ∧ Hid (OfL w X n bs bh N (k + 1) T wr)) (fun _ _ i _ => kn - (intOf i).toNat)
        case atStart => exact ⟨k + 1, 0, 0, Nat.zero_le _, hmn, Nat.zero_le _, rfl, rfl, rfl, Lib.hid ⟨Nat.le_refl _, by omega, by simp⟩, HO⟩
        case round =>
          obtain ⟨nx, hi, j, hj, hnx, hhi, rfl, rfl, rfl, HI, HO⟩ := hrel
          have HBad := Lib.hid (show kidsAt k n T nx hi (ks.drop j) = none → treeAt N.length 0 N = none from fun hn => treeAt_none _ N k (by omega) (by rw [← HN.out, HStep.out, ← HI.out.2.2, hn]))
          have hTl : k + 1 + T.length = n := by have := treeAt_len n (N.drop (k + 1)) (k + 1) T HO.out.tree; rw [List.length_drop, ← HN.out] at this; omega
          have HTle := Lib.hid (treeAt_le n (N.drop (k + 1)) (k + 1) T (by rw [List.length_drop, ← HN.out]; omega) HO.out.tree)
          obtain ⟨v0, v1, f0, f1⟩ := box_cells HO.out.box
          by_cases hjl : j < kn
          · have hj2 : (j : Int) < kn := by omega
            have hjk : j < ks.length := by rw [← HKn.out]; exact hjl
            obtain rfl := HKao.out (by omega)
            have w9 := cell_later HO.out.bel (HKc.out j (by simpa using hjk))
            simp only [List.getElem_map] at w9
            have HDr := Lib.hid (List.drop_eq_getElem_cons hjk)
            obtain ⟨x, hx⟩ : ∃ x, x = ks[j] := ⟨_, rfl⟩
            rw [← hx] at w9 HDr
            clear hx
            by_cases hxe : x = (nx : Int)
            · subst hxe
              by_cases hxn : nx < n
              · have d1 : decide ((n : Int) ≤ (nx : Int)) = false := by simp; omega
                obtain ⟨a1, a2⟩ := HO.out.at hTl nx HI.out.1 hxn
                have hstp := HI.out.2.2
                rw [HDr.out, kidsAt, if_pos ⟨rfl, hxn⟩] at hstp
                have hle := HTle.out (nx - (k + 1)) (by have := HI.out.1; omega)
                rw [show T[nx - (k + 1)]'(by have := HI.out.1; omega) = T.getD (nx - (k + 1)) (0, 0) by have := HI.out.1; rw [List.getD_eq_getElem?_getD, List.getElem?_eq_getElem (by omega)]; rfl] at hle
                obtain ⟨p, hp⟩ : ∃ p, p = T.getD (nx - (k + 1)) (0, 0) := ⟨_, rfl⟩
                rw [← hp] at a1 a2 hstp hle
                obtain ⟨p1, p2⟩ := p
                simp only at a1 a2 hstp hle
                have hI1 := HI.out.1
                have hI2 := HI.out.2.1
                have hw1 : IntKind.i64.wrap ((nx : Int) + (p1 : Int)) = ((nx + p1 : Nat) : Int) := by rw [IntWalk.i64_in _ (by omega)]; omega
                have hmx : max (hi : Int) (p2 : Int) = ((max hi p2 : Nat) : Int) := by omega
                have HR := Lib.hid (show nx + p1 ≤ n ∧ max hi p2 ≤ n ∧ k + 1 ≤ nx + p1 ∧ max hi p2 ≤ nx + p1 - (k + 1) ∧ kidsAt k n T (nx + p1) (max hi p2) (ks.drop (j + 1)) = kidsAt k n T (k + 1) 0 ks from ⟨by omega, by omega, by omega, by omega, hstp⟩)
                clear hp hstp hle HDr
                go_upto_region 11 with (fail)
                go_region
                all_goals go_wp2
                all_goals go_roundw
                case rel => exact ⟨nx + p1, max hi p2, j + 1, by omega, HR.out.1, HR.out.2.1, by go_num, by rw [Int.natCast_add], rfl, Lib.hid HR.out.2.2, Lib.hid (by first | exact HO.out | exact HO.out.drew)⟩
                case measure => simp [intOf]; omega
              · have d1 : decide ((n : Int) ≤ (nx : Int)) = true := by simp; omega
                have d2 : decide (n ≤ nx) = true := by simp; omega
                have d3 : n ≤ nx := by omega
                have d4 : ¬ nx < n := by omega
                have HN0 := Lib.hid (fun z => bad_res n bs bh (HBad.out (by rw [HDr.out, kidsAt, if_neg (by omega)])) z)
                clear HDr
                go_wp2
                have hz := HO.out.self (Nat.le_of_eq HX.out.symm) HNe.out.2.1 HNe.out.2.2
                obtain ⟨q0, q1, -, -⟩ := box_cells hz.box
                exact bodyPost_ret (v := .tuple #[.agg #[.slice (some ⟨bs, 0, none⟩) n n, .slice (some ⟨bh, 0, none⟩) n n], .bool false]) (by simp [results, Tryz.f93, go_sem, q0, q1]) rfl ⟨⟨_, _, by rw [HN.out, (HN0.out w).2], (HN0.out _).1⟩, hz.bel⟩
            · have d0 : (x == (nx : Int)) = false := by simpa using hxe
              have HN0 := Lib.hid (fun z => bad_res n bs bh (HBad.out (by rw [HDr.out, kidsAt, if_neg (fun h => hxe h.1)])) z)
              clear HDr
              go_wp2
              have hz := HO.out.self (Nat.le_of_eq HX.out.symm) HNe.out.2.1 HNe.out.2.2
              obtain ⟨q0, q1, -, -⟩ := box_cells hz.box
              exact bodyPost_ret (v := .tuple #[.agg #[.slice (some ⟨bs, 0, none⟩) n n, .slice (some ⟨bh, 0, none⟩) n n], .bool false]) (by simp [results, Tryz.f93, go_sem, q0, q1]) rfl ⟨⟨_, _, by rw [HN.out, (HN0.out w).2], (HN0.out _).1⟩, hz.bel⟩
          · obtain rfl : j = kn := by omega
            have hj2 : ¬ (j : Int) < (j : Int) := by omega
            have hI1 := HI.out.1
            have hI2 := HI.out.2.1
            have hw1 : IntKind.i64.wrap ((nx : Int) - (k : Int)) = ((nx - k : Nat) : Int) := by rw [IntWalk.i64_in _ (by omega)]; omega
            have hw2 : IntKind.i64.wrap ((hi : Int) + 1) = ((hi + 1 : Nat) : Int) := by rw [IntWalk.i64_in _ (by omega)]; omega
            have hlS : (rowZ (k + 1) (szs T)).length = n := by rw [rowZ_len]; simpa [szs] using hTl
            have hlH : (rowZ (k + 1) (hts T)).length = n := by rw [rowZ_len]; simpa [hts] using hTl
            obtain ⟨a1, b1⟩ := HO.out.s.cell k (by rw [hlS]; omega)
            obtain ⟨a2, b2⟩ := HO.out.h.cell k (by rw [hlH]; omega)
            have HNew := Lib.hid (show ∀ z, z = (wr.setCell ⟨bs, k, none⟩ (.int .i64 ((nx - k : Nat) : Int))).setCell ⟨bh, k, none⟩ (.int .i64 ((hi + 1 : Nat) : Int)) ∨ z = (wr.setCell ⟨bh, k, none⟩ (.int .i64 ((hi + 1 : Nat) : Int))).setCell ⟨bs, k, none⟩ (.int .i64 ((nx - k : Nat) : Int)) → OfL w X n bs bh N k ((nx - k, hi + 1) :: T) z from fun z hz => by
              have hT : treeAt n k (N.drop k) = some ((nx - k, hi + 1) :: T) := by
                rw [HStep.out, ← HI.out.2.2, List.drop_of_length_le (by rw [HKn.out]; exact Nat.le_refl _)]
                rfl
              have e1 : rowZ k (szs ((nx - k, hi + 1) :: T)) = (rowZ (k + 1) (szs T)).set k ((nx - k : Nat) : Int) := by rw [rowZ_set]; rfl
              have e2 : rowZ k (hts ((nx - k, hi + 1) :: T)) = (rowZ (k + 1) (hts T)).set k ((hi + 1 : Nat) : Int) := by rw [rowZ_set]; rfl
              have hx : w.heap.size ≤ X := Nat.le_of_eq HX.out.symm
              have hbs : w.heap.size ≤ bs := by have := HNe.out.2.1; omega
              have hbh : w.heap.size ≤ bh := by have := HNe.out.2.2; omega
              have n1 : bs ≠ X := by have := HNe.out.2.1; omega
              have n2 : bh ≠ X := by have := HNe.out.2.2; omega
              rcases hz with rfl | rfl
              · exact ⟨(HO.out.bel.setCell (p := ⟨bs, k, none⟩) hbs _).setCell (p := ⟨bh, k, none⟩) hbh _, (Below.heap_setCell _ _ _ _ n2.symm).trans ((Below.heap_setCell _ _ _ _ n1.symm).trans HO.out.box), hT, by rw [e1]; exact (HO.out.s.set k _).other _ _ HNe.out.1, by rw [e2]; exact (HO.out.h.other _ _ HNe.out.1.symm).set k _⟩
              · exact ⟨(HO.out.bel.setCell (p := ⟨bh, k, none⟩) hbh _).setCell (p := ⟨bs, k, none⟩) hbs _, (Below.heap_setCell _ _ _ _ n1.symm).trans ((Below.heap_setCell _ _ _ _ n2.symm).trans HO.out.box), hT, by rw [e1]; exact (HO.out.s.other _ _ HNe.out.1).set k _, by rw [e2]; exact (HO.out.h.set k _).other _ _ HNe.out.1.symm⟩)
            have hne1 := HNe.out.1
            have hne2 := HNe.out.1.symm
            have hne3 : bs ≠ X := by have := HNe.out.2.1; omega
            have hne4 : bh ≠ X := by have := HNe.out.2.2; omega
            have hne5 := hne3.symm
            have hne6 := hne4.symm
            go_upto_region 13 with (fail)
            go_region
            all_goals go_wp2
            all_goals go_roundw
            all_goals first | (exact ⟨k, (nx - k, hi + 1) :: T, by omega, by go_num, Lib.hid (by first | exact HNew.out _ (.inl rfl) | exact HNew.out _ (.inr rfl) | exact (HNew.out _ (.inl rfl)).drew | exact (HNew.out _ (.inr rfl)).drew)⟩) | (simp [intOf]; done) | (simp [intOf]; omega)
end Go.Proofs.YtkimkghldilliaaGreat
