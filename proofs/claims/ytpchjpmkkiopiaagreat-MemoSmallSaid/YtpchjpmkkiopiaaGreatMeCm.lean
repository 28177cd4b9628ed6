import Derived.Test.YtpchjpmkkiopiaaGreatMeAm
import Derived.StillTailTactics
import Derived.Deep.RegionHeld3
namespace Go.Proofs.YtpchjpmkkiopiaaGreat
open Go.RowKit Go.Lib

theorem gen_anyH {P : Program} {md : Region.Mode} {ops : Array Oper} {Q : Exit → Act → World → Prop} {S : World → Prop} {fuel : Nat} {listed : Array Bool} {a : Act} {w : World} (S2 : World → Prop) (h : S2 w)
    (k : ∀ w', S2 w' → wpAnyH P md ops Q S fuel listed a w') : wpAnyH P md ops Q S fuel listed a w := k w h
theorem cut_hid {T G : Prop} (h : Hid T → G) (t : T) : G := h (Lib.hid t)
theorem wpAnyH_listed {P : Program} {md : Region.Mode} {ops : Array Oper} {Q : Exit → Act → World → Prop} {S : World → Prop} {fuel : Nat} {listed L : Array Bool} {a : Act} {w : World} (h : listed = L)
    (k : wpAnyH P md ops Q S fuel L a w) : wpAnyH P md ops Q S fuel listed a w := h ▸ k
theorem seven_box {w : World} {b : Nat} {x0 x1 x2 x3 x4 x5 x6 : Value} {t : TypeId} (h : w.heap[b]? = some (.cells #[x0, x1, x2, x3, x4, x5, x6] t (0, 0))) :
    (w.cell? ⟨b, 0, none⟩ = some x0 ∧ w.cell? ⟨b, 1, none⟩ = some x1 ∧ w.cell? ⟨b, 2, none⟩ = some x2 ∧ w.cell? ⟨b, 3, none⟩ = some x3 ∧ w.cell? ⟨b, 4, none⟩ = some x4 ∧ w.cell? ⟨b, 5, none⟩ = some x5 ∧ w.cell? ⟨b, 6, none⟩ = some x6) ∧
    (w.frozen? ⟨b, 0, none⟩ = false ∧ w.frozen? ⟨b, 1, none⟩ = false ∧ w.frozen? ⟨b, 2, none⟩ = false ∧ w.frozen? ⟨b, 3, none⟩ = false ∧ w.frozen? ⟨b, 4, none⟩ = false ∧ w.frozen? ⟨b, 5, none⟩ = false ∧ w.frozen? ⟨b, 6, none⟩ = false) := by
  simp [World.cell?, World.frozen?, h]
theorem five_box {w : World} {b : Nat} {x0 x1 x2 x3 x4 : Value} {t : TypeId} (h : w.heap[b]? = some (.cells #[x0, x1, x2, x3, x4] t (0, 0))) :
    (w.cell? ⟨b, 0, none⟩ = some x0 ∧ w.cell? ⟨b, 1, none⟩ = some x1 ∧ w.cell? ⟨b, 2, none⟩ = some x2 ∧ w.cell? ⟨b, 3, none⟩ = some x3 ∧ w.cell? ⟨b, 4, none⟩ = some x4) ∧
    (w.frozen? ⟨b, 0, none⟩ = false ∧ w.frozen? ⟨b, 1, none⟩ = false ∧ w.frozen? ⟨b, 2, none⟩ = false ∧ w.frozen? ⟨b, 3, none⟩ = false ∧ w.frozen? ⟨b, 4, none⟩ = false) := by
  simp [World.cell?, World.frozen?, h]
theorem two_new (w : World) (o1 o2 : Obj) : Below w.heap.size w ((w.alloc o1).alloc o2) ∧ ((w.alloc o1).alloc o2).heap[w.heap.size]? = some o1 ∧ ((w.alloc o1).alloc o2).heap[w.heap.size + 1]? = some o2 := by
  refine ⟨((Below.refl _ _).alloc (Nat.le_refl _) _).alloc (by simp) _, (heap_alloc_old _ _ (by simp)).trans (heap_alloc_new w _), ?_⟩
  have := heap_alloc_new (w.alloc o1) o2
  simpa using this
set_option maxRecDepth 100000 in
set_option maxHeartbeats 400000 in
theorem made_at {w : World} {p m : Nat} (h : w.cell? ⟨p, 6, none⟩ = some (.map (some m))) : Calls Tryz.prog 32 #[.pointer (some ⟨p, 0, none⟩)] w fun e w' => e = .returned (.bool true) ∧ w = w' := by
  have qT : ∀ (w : World) (r : Option Nat), (binOp .neq 72 (.map r) (.map none)).run Tryz.prog w = .ok (.bool (!r.isNone)) w := fun w r => run_neq_map_nil w _ _ _ r Tryz.underlying72
  go_enter Tryz.func32, Tryz.ntmps32
  go_wp2
  go_ret
  exact ⟨rfl, rfl⟩
theorem LnIs.made [Watch] {base : Nat} {p q nm km em : Nat} {next room peak : Int} {L : List Rec} (w : World) (h : LnIs base w p q nm km em next room peak L) : Calls Tryz.prog 32 #[.pointer (some ⟨p, 0, none⟩)] w fun e w' => e = .returned (.bool true) ∧ w = w' :=
  made_at (seven_box h.blk).1.2.2.2.2.2.2
set_option maxRecDepth 100000 in
set_option maxHeartbeats 2000000 in
theorem copied_any (x : Ent) (w : World) (ht : TwGot w x.tv x.tree) (hk : IvGot w x.kv x.tou) (hlt : x.tree.length ≤ 1000000) (hlk : x.tou.length ≤ 1000000) :
    Calls Tryz.prog 35 #[entv x] w fun e w' => ∃ tv kv, e = .returned (entv ⟨x.is, x.en, x.far, x.tree, x.tou, tv, kv⟩) ∧ TwOwn w.heap.size w' tv x.tree ∧ IvOwn w.heap.size w' kv x.tou ∧ Below w.heap.size w w' := by
  obtain ⟨is, en, far, tree, tou, tv, kv⟩ := x
  simp only at *
  obtain ⟨a1, c1, rfl⟩ : ∃ a c, tv = .slice a tree.length c := by obtain ⟨ao, b, off, cap, e, -⟩ := ht.1; exact ⟨ao, cap, by simpa using e⟩
  obtain ⟨a2, c2, rfl⟩ : ∃ a c, kv = .slice a tou.length c := by obtain ⟨ao, b, off, cap, e, -⟩ := hk.1; exact ⟨ao, cap, by simpa using e⟩
  obtain ⟨n1, hn1⟩ : ∃ n, n = tree.length := ⟨_, rfl⟩
  obtain ⟨n2, hn2⟩ : ∃ n, n = tou.length := ⟨_, rfl⟩
  have HT := Lib.hid (show ∀ u, Below w.heap.size w u → TwGot u (.slice a1 n1 c1) tree from fun u h => by rw [hn1]; exact ht.later h)
  have HK := Lib.hid (show ∀ u, Below w.heap.size w u → IvGot u (.slice a2 n2 c2) tou from fun u h => by rw [hn2]; exact hk.later h)
  have HL1 := Lib.hid hlt
  have HL2 := Lib.hid hlk
  have HN1 := Lib.hid hn1
  have HN2 := Lib.hid hn2
  rw [← hn1, ← hn2]
  clear ht hk hlt hlk hn1 hn2
  go_enter Tryz.func35, Tryz.ntmps35
  go_upto_region 1 with (fail)
  refine gen_world (S := fun u => Below w.heap.size w u ∧ u.heap[w.heap.size]? = some (.cells #[.bool is, .int .i64 en, .int .i64 far, .slice a1 n1 c1, .slice a2 n2 c2] 30 (0, 0)) ∧ u.heap[w.heap.size + 1]? = some (.cells #[.bool false, .int .i64 0, .int .i64 0, .slice none 0 0, .slice none 0 0] 30 (0, 0))) (two_new w _ _) (fun u hu => ?_)
  obtain ⟨hS0, hX0, hR0⟩ := hu
  obtain ⟨X, hX⟩ : ∃ X, X = w.heap.size := ⟨_, rfl⟩
  have HXe := Lib.hid hX
  rw [← hX] at hX0 hR0 ⊢
  have HS0 := Lib.hid hS0
  have HX0 := Lib.hid hX0
  have HR0 := Lib.hid hR0
  clear hX hS0 hX0 hR0
  apply cut_hid
  · intro key235
    apply cut_hid
    · intro key25
      refine wp_region_held_drew (S := fun v => Below w.heap.size w v) (by kernel_rfl) HS0.out.drew (fun hS => ?_)
      refine wpAnyH_take (i := 0) (oi := ⟨_, _, _, _, _, _⟩) (v := ?v1) rfl (by kernel_rfl) (by kernel_rfl) (by kernel_rfl) (fun _ _ _ h => h) ?y1 hS ?_
      case y1 => first | (refine Or.inr ⟨by rfl, ?_⟩; with_reducible rfl) | (refine Or.inl ⟨by rfl, ?_⟩; intro wS hSw; go_simp; try with_reducible rfl)
      simp only [Act.put, List.setIfInBounds_toArray, List.set_cons_zero, List.set_cons_succ]
      refine wpAnyH_take (i := 1) (oi := ⟨_, _, _, _, _, _⟩) (v := ?v2) rfl (by kernel_rfl) (by kernel_rfl) (by kernel_rfl) (fun _ _ _ h => h) ?y2 hS ?_
      case y2 => first | (refine Or.inr ⟨by rfl, ?_⟩; with_reducible rfl) | (refine Or.inl ⟨by rfl, ?_⟩; intro wS hSw; go_simp; try with_reducible rfl)
      simp only [Act.put, List.setIfInBounds_toArray, List.set_cons_zero, List.set_cons_succ]
      refine wpAnyH_take (i := 4) (oi := ⟨_, _, _, _, _, _⟩) (v := ?v3) rfl (by kernel_rfl) (by kernel_rfl) (by kernel_rfl) (fun _ _ _ h => h) ?y3 hS ?_
      case y3 => first | (refine Or.inr ⟨by rfl, ?_⟩; with_reducible rfl) | (refine Or.inl ⟨by rfl, ?_⟩; intro wS hSw; go_simp; try with_reducible rfl)
      simp only [Act.put, List.setIfInBounds_toArray, List.set_cons_zero, List.set_cons_succ]
      have hX := HX0.out
      have hR := HR0.out
      refine gen_anyH (S2 := fun u => Below w.heap.size w u ∧ u.heap[X]? = some (.cells #[.bool is, .int .i64 en, .int .i64 far, .slice a1 n1 c1, .slice a2 n2 c2] 30 (0, 0)) ∧ u.heap[X + 1]? = some (.cells #[.bool false, .int .i64 0, .int .i64 0, .slice none 0 0, .slice none 0 0] 30 (0, 0))) ⟨hS, hX, hR⟩ (fun wv hh => ?_)
      clear hS hX hR
      obtain ⟨hS, hX, hR⟩ := hh
      refine wpAnyH_ready (rs := [2, 5]) (by kernel_rfl) (by simp) ?_
      refine AllReadyH.cons (o := ⟨_, _, _, _, _, _⟩) rfl (fun K hK => ?_) (AllReadyH.cons (o := ⟨_, _, _, _, _, _⟩) rfl (fun K hK => ?_) AllReadyH.nil)
      · obtain ⟨⟨x0, x1, x2, x3, x4⟩, -⟩ := five_box hX
        go_simp
        refine hK.out _ _ hS (fun hSd => ?_)
        clear hSd hK K x0 x1 x2 x3 x4
        try simp only [Act.put, List.setIfInBounds_toArray, List.set_cons_zero, List.set_cons_succ]
        refine wpAnyH_ready (rs := [3, 5]) (by kernel_rfl) (by simp) ?_
        refine AllReadyH.cons (o := ⟨_, _, _, _, _, _⟩) rfl (fun K hK => ?_) (AllReadyH.cons (o := ⟨_, _, _, _, _, _⟩) rfl (fun K hK => ?_) AllReadyH.nil)
        · have hsz := hS.size
          go_simp
          refine (cloneTw wv (HT.out wv hS) HL1.out).mono ?_
          rintro e w3 ⟨v', rfl, ho, hb⟩
          obtain ⟨a3, c3, rfl⟩ := own_val ho
          rw [← HN1.out] at ho ⊢
          go_wp2_with fail
          replace hS := hS.trans (hb.mono hS.size)
          refine hK.out _ _ hS (fun hSd => ?_)
          clear hSd hK K
          try simp only [Act.put, List.setIfInBounds_toArray, List.set_cons_zero, List.set_cons_succ]
          replace ho := ownsRow_base ho (show w.heap.size ≤ wv.heap.size from by assumption)
          replace hX := (hb.block _ (lt_of_block hX)).trans hX
          replace hR := (hb.block _ (lt_of_block hR)).trans hR
          clear hb hsz
          generalize w3 = wv at *
          refine wpAnyH_ready (rs := [5]) (by kernel_rfl) (by simp) ?_
          refine AllReadyH.cons (o := ⟨_, _, _, _, _, _⟩) rfl (fun K hK => ?_) AllReadyH.nil
          obtain ⟨⟨x0, x1, x2, x3, x4⟩, -⟩ := five_box hX
          go_simp
          refine hK.out _ _ hS (fun hSd => ?_)
          clear hSd hK K x0 x1 x2 x3 x4
          try simp only [Act.put, List.setIfInBounds_toArray, List.set_cons_zero, List.set_cons_succ]
          refine wpAnyH_listed (L := #[true, true, true, true, true, true, false, false, false, false, false, false]) (by kernel_rfl) ?_
          revert ho
          revert c3
          revert a3
          revert hR
          revert hX
          revert hS
          revert wv
          exact key235.out
        · obtain ⟨⟨x0, x1, x2, x3, x4⟩, -⟩ := five_box hX
          go_simp
          refine hK.out _ _ hS (fun hSd => ?_)
          clear hSd hK K x0 x1 x2 x3 x4
          try simp only [Act.put, List.setIfInBounds_toArray, List.set_cons_zero, List.set_cons_succ]
          refine wpAnyH_listed (L := #[true, true, true, false, true, true, false, false, false, false, false, false]) (by kernel_rfl) ?_
          revert hR
          revert hX
          revert hS
          revert wv
          exact key25.out
      · obtain ⟨⟨x0, x1, x2, x3, x4⟩, -⟩ := five_box hX
        go_simp
        refine hK.out _ _ hS (fun hSd => ?_)
        clear hSd hK K x0 x1 x2 x3 x4
        try simp only [Act.put, List.setIfInBounds_toArray, List.set_cons_zero, List.set_cons_succ]
        refine wpAnyH_ready (rs := [2]) (by kernel_rfl) (by simp) ?_
        refine AllReadyH.cons (o := ⟨_, _, _, _, _, _⟩) rfl (fun K hK => ?_) AllReadyH.nil
        obtain ⟨⟨x0, x1, x2, x3, x4⟩, -⟩ := five_box hX
        go_simp
        refine hK.out _ _ hS (fun hSd => ?_)
        clear hSd hK K x0 x1 x2 x3 x4
        try simp only [Act.put, List.setIfInBounds_toArray, List.set_cons_zero, List.set_cons_succ]
        refine wpAnyH_listed (L := #[true, true, true, false, true, true, false, false, false, false, false, false]) (by kernel_rfl) ?_
        revert hR
        revert hX
        revert hS
        revert wv
        exact key25.out
    · intro wv hS hX hR
      refine wpAnyH_ready (rs := [3]) (by kernel_rfl) (by simp) ?_
      refine AllReadyH.cons (o := ⟨_, _, _, _, _, _⟩) rfl (fun K hK => ?_) AllReadyH.nil
      have hsz := hS.size
      go_simp
      refine (cloneTw wv (HT.out wv hS) HL1.out).mono ?_
      rintro e w3 ⟨v', rfl, ho, hb⟩
      obtain ⟨a3, c3, rfl⟩ := own_val ho
      rw [← HN1.out] at ho ⊢
      go_wp2_with fail
      replace hS := hS.trans (hb.mono hS.size)
      refine hK.out _ _ hS (fun hSd => ?_)
      clear hSd hK K
      try simp only [Act.put, List.setIfInBounds_toArray, List.set_cons_zero, List.set_cons_succ]
      replace ho := ownsRow_base ho (show w.heap.size ≤ wv.heap.size from by assumption)
      replace hX := (hb.block _ (lt_of_block hX)).trans hX
      replace hR := (hb.block _ (lt_of_block hR)).trans hR
      clear hb hsz
      generalize w3 = wv at *
      refine wpAnyH_listed (L := #[true, true, true, true, true, true, false, false, false, false, false, false]) (by kernel_rfl) ?_
      revert ho
      revert c3
      revert a3
      revert hR
      revert hX
      revert hS
      revert wv
      exact key235.out
  · intro wv hS hX hR a3 c3 ho
    refine wpAnyH_take (i := 7) (oi := ⟨_, _, _, _, _, _⟩) (v := ?v4) rfl (by kernel_rfl) (by kernel_rfl) (by kernel_rfl) (fun _ _ _ h => h) ?y4 hS ?_
    case y4 => first | (refine Or.inr ⟨by rfl, ?_⟩; with_reducible rfl) | (refine Or.inl ⟨by rfl, ?_⟩; intro wS hSw; go_simp; try with_reducible rfl)
    simp only [Act.put, List.setIfInBounds_toArray, List.set_cons_zero, List.set_cons_succ]
    refine wpAnyH_take (i := 8) (oi := ⟨_, _, _, _, _, _⟩) (v := ?v5) rfl (by kernel_rfl) (by kernel_rfl) (by kernel_rfl) (fun _ _ _ h => h) ?y5 hS ?_
    case y5 => first | (refine Or.inr ⟨by rfl, ?_⟩; with_reducible rfl) | (refine Or.inl ⟨by rfl, ?_⟩; intro wS hSw; go_simp; try with_reducible rfl)
    simp only [Act.put, List.setIfInBounds_toArray, List.set_cons_zero, List.set_cons_succ]
    refine wpAnyH_ready (rs := [6]) (by kernel_rfl) (by simp) ?_
    refine AllReadyH.cons (o := ⟨_, _, _, _, _, _⟩) rfl (fun K hK => ?_) AllReadyH.nil
    go_simp
    refine (cloneIv wv (HK.out wv hS) HL2.out).mono ?_
    rintro e w3 ⟨v', rfl, ho6, hb⟩
    obtain ⟨a6, c6, rfl⟩ := own_val ho6
    rw [← HN2.out] at ho6 ⊢
    go_wp2_with fail
    replace ho6 := ownsRow_base ho6 hS.size
    replace hS := hS.trans (hb.mono hS.size)
    refine hK.out _ _ hS (fun hSd => ?_)
    clear hSd hK K
    try simp only [Act.put, List.setIfInBounds_toArray, List.set_cons_zero, List.set_cons_succ]
    replace hX := (hb.block _ (lt_of_block hX)).trans hX
    replace hR := (hb.block _ (lt_of_block hR)).trans hR
    replace ho := row_later ho hb
    clear hb
    generalize w3 = wv at *
    refine wpAnyH_ready (rs := [9]) (by kernel_rfl) (by simp) ?_
    refine AllReadyH.cons (o := ⟨_, _, _, _, _, _⟩) rfl (fun K hK => ?_) AllReadyH.nil
    have hXo := hX
    obtain ⟨⟨x0, x1, x2, x3, x4⟩, ⟨f0, f1, f2, f3, f4⟩⟩ := five_box hX
    go_simp
    replace hS := hS.setCell (p := ⟨X, 3, none⟩) (show w.heap.size ≤ X by have := HXe.out; omega) (.slice a3 n1 c3)
    refine hK.out _ _ hS (fun hSd => ?_)
    clear hSd hK K x0 x1 x2 x3 x4 f0 f1 f2 f3 f4
    try simp only [Act.put, List.setIfInBounds_toArray, List.set_cons_zero, List.set_cons_succ]
    replace hX := block_setCell' (k := 3) (u := .slice a3 n1 c3) hX
    have hk := (Keeps.refl (fun k => k = X) wv).setCell (p := ⟨X, 3, none⟩) rfl (.slice a3 n1 c3)
    have hXt := hX
    replace hR := hk.obj hR (by omega)
    replace ho := row_kept ho hk (fun k cs hc e => by subst e; have := hXo; rw [hc] at this; simp at this)
    replace ho6 := row_kept ho6 hk (fun k cs hc e => by subst e; have := hXo; rw [hc] at this; simp at this)
    clear hk hXt hXo
    generalize wv.setCell ⟨X, 3, none⟩ (.slice a3 n1 c3) = wv at *
    refine wpAnyH_take (i := 10) (oi := ⟨_, _, _, _, _, _⟩) (v := ?v6) rfl (by kernel_rfl) (by kernel_rfl) (by kernel_rfl) (fun _ _ _ h => h) ?y6 hS ?_
    case y6 => first | (refine Or.inr ⟨by rfl, ?_⟩; with_reducible rfl) | (refine Or.inl ⟨by rfl, ?_⟩; intro wS hSw; go_simp; try with_reducible rfl)
    simp only [Act.put, List.setIfInBounds_toArray, List.set_cons_zero, List.set_cons_succ]
    refine wpAnyH_ready (rs := [11]) (by kernel_rfl) (by simp) ?_
    refine AllReadyH.cons (o := ⟨_, _, _, _, _, _⟩) rfl (fun K hK => ?_) AllReadyH.nil
    have hXo := hX
    obtain ⟨⟨x0, x1, x2, x3, x4⟩, ⟨f0, f1, f2, f3, f4⟩⟩ := five_box hX
    go_simp
    replace hS := hS.setCell (p := ⟨X, 4, none⟩) (show w.heap.size ≤ X by have := HXe.out; omega) (.slice a6 n2 c6)
    refine hK.out _ _ hS (fun hSd => ?_)
    clear hSd hK K x0 x1 x2 x3 x4 f0 f1 f2 f3 f4
    try simp only [Act.put, List.setIfInBounds_toArray, List.set_cons_zero, List.set_cons_succ]
    replace hX := block_setCell' (k := 4) (u := .slice a6 n2 c6) hX
    have hk := (Keeps.refl (fun k => k = X) wv).setCell (p := ⟨X, 4, none⟩) rfl (.slice a6 n2 c6)
    have hXt := hX
    replace hR := hk.obj hR (by omega)
    replace ho := row_kept ho hk (fun k cs hc e => by subst e; have := hXo; rw [hc] at this; simp at this)
    replace ho6 := row_kept ho6 hk (fun k cs hc e => by subst e; have := hXo; rw [hc] at this; simp at this)
    clear hk hXt hXo
    generalize wv.setCell ⟨X, 4, none⟩ (.slice a6 n2 c6) = wv at *
    refine wpAnyH_done (by kernel_rfl) ?_ _
    obtain ⟨⟨x0, x1, x2, x3, x4⟩, -⟩ := five_box hX
    obtain ⟨⟨y0, y1, y2, y3, y4⟩, ⟨f0, f1, f2, f3, f4⟩⟩ := five_box hR
    have HSx := Lib.hid hS
    have HO := Lib.hid ho
    have HO6 := Lib.hid ho6
    have HR := Lib.hid hR
    clear hS hX hR ho ho6
    go_wp2
    have b0 := block_setCell' (k := 0) (u := .bool is) HR.out
    have b1 := block_setCell' (k := 1) (u := .int .i64 en) b0
    have b2 := block_setCell' (k := 2) (u := .int .i64 far) b1
    have b3 := block_setCell' (k := 3) (u := .slice a3 n1 c3) b2
    have b4 := block_setCell' (k := 4) (u := .slice a6 n2 c6) b3
    obtain ⟨⟨q0, q1, q2, q3, q4⟩, -⟩ := five_box (x0 := .bool is) (x1 := .int .i64 en) (x2 := .int .i64 far) (x3 := .slice a3 n1 c3) (x4 := .slice a6 n2 c6) b4
    have hk := (((((Keeps.refl (fun k => k = X + 1) wv).setCell (p := ⟨X + 1, 0, none⟩) rfl (.bool is)).setCell (p := ⟨X + 1, 1, none⟩) rfl (.int .i64 en)).setCell (p := ⟨X + 1, 2, none⟩) rfl (.int .i64 far)).setCell (p := ⟨X + 1, 3, none⟩) rfl (.slice a3 n1 c3)).setCell (p := ⟨X + 1, 4, none⟩) rfl (.slice a6 n2 c6)
    have ho := row_kept HO.out hk (fun k cs hc e => by subst e; have := HR.out; rw [hc] at this; simp at this)
    have ho6 := row_kept HO6.out hk (fun k cs hc e => by subst e; have := HR.out; rw [hc] at this; simp at this)
    rw [HN1.out] at ho
    rw [HN2.out] at ho6
    exact bodyPost_ret (v := .agg #[.bool is, .int .i64 en, .int .i64 far, .slice a3 n1 c3, .slice a6 n2 c6]) (by simp [results, Tryz.f35, go_sem, q0, q1, q2, q3, q4]) rfl ⟨_, _, rfl, by rw [HN1.out]; exact ho, by rw [HN2.out]; exact ho6, HSx.out.trans (hk.below HSx.out.size (fun k e => by have := HXe.out; omega))⟩
end Go.Proofs.YtpchjpmkkiopiaaGreat
