import Derived.Test.YtadkjjpopmiceaaGreatTrKm
namespace Go.Proofs.YtadkjjpopmiceaaGreat
open Go.RowKit Go.Lib

theorem find_congr {p q : Nat → Bool} : ∀ rs : List Nat, (∀ x ∈ rs, p x = q x) → rs.find? p = rs.find? q
  | [], _ => rfl
  | a :: r, h => by rw [List.find?_cons, List.find?_cons, h a (by simp), find_congr r (fun x hx => h x (by simp [hx]))]
theorem For.findP {l : List Tw} {lo hi a : Int} {n e : Nat} {rs : List Nat} (h : For l lo hi a n e rs) (pl : Int) : rs.find? (fun r => shB (atT l r).fr (atT l r).to pl) = rs.find? (fun r => hasB (atT l r) pl) :=
  find_congr rs fun x hx => by
    have := (h.ends.1 x hx).2.2
    unfold okT at this
    simp only [shB, hasB, decide_eq_decide]
    omega
/-- what is known at a round's head. -/
structure PaI (l : List Tw) (pl : Int) (P done rs : List Nat) (s e : Nat) : Prop where
  frs : ∃ lo hi a, For l lo hi a s e rs
  path : P = done ++ onP l pl s e
  len : done.length ≤ s
  end' : e ≤ l.length
  le : s ≤ e
theorem PaI.stop {l : List Tw} {pl : Int} {P done rs : List Nat} {s e : Nat} (h : PaI l pl P done rs s e) (hn : rs.find? (fun r => shB (atT l r).fr (atT l r).to pl) = none) : P = done := by
  obtain ⟨lo, hi, a, hF⟩ := h.frs
  rw [hF.findP] at hn
  have := hF.path pl
  rw [hn] at this
  rw [h.path, this, List.append_nil]
theorem PaI.next {l : List Tw} {pl : Int} {P done rs : List Nat} {s e x : Nat} (h : PaI l pl P done rs s e) (hn : rs.find? (fun r => shB (atT l r).fr (atT l r).to pl) = some x) : ∃ m ks, Sub l x m ks ∧ PaI l pl P (done ++ [x]) ks (x + 1) m ∧ s ≤ x ∧ x < l.length := by
  obtain ⟨lo, hi, a, hF⟩ := h.frs
  rw [hF.findP] at hn
  have hp := hF.path pl
  rw [hn] at hp
  have hx := hF.root x (List.mem_of_find?_eq_some hn)
  obtain ⟨m, ks, hs, hm⟩ := hF.sub x hx.1 hx.2
  have hsl := hs.lt
  refine ⟨m, ks, hs, ⟨⟨_, _, _, hs.2.2.2⟩, ?_, by have := h.len; simp; omega, hsl.2, by omega⟩, hx.1, by have := h.end'; omega⟩
  rw [h.path, hp]
  simp only [hs.aN]
  simp
theorem own_end {B : Nat} {w : World} {v : Value} {x : Nat} {E : List Nat} (h : OwnN B w v (E ++ [x])) : ∃ g cap, v = .slice (some ⟨g, 0, none⟩) (E.length + 1) cap ∧ E.length + 1 ≤ cap ∧ cap ≤ maxLen ∧ w.cell? ⟨g, E.length, none⟩ = some (.int .i64 x) := by
  have := own_last (x := x) (E := E.reverse) (by simpa using h)
  simpa using this
set_option maxRecDepth 100000 in
set_option maxHeartbeats 4000000 in
theorem tPath_any {l : List Tw} (v : Value) (pl : Int) (w : World) (h : TwRow w v l) :
    Calls Tryz.prog 12 #[v, .int .i64 pl] w fun en w' => Told w (pathR l pl) en w' := by
  have HR := Lib.hid (fun u (hb : Below w.heap.size w u) => right_any v l u (h.at'.later hb) h.ok h.len)
  have H := Lib.hid h
  obtain ⟨ao, cap, rfl⟩ := h.at'.val
  obtain ⟨len, hlen⟩ : ∃ len, len = l.length := ⟨_, rfl⟩
  rw [← hlen] at HR H ⊢
  have HLe := Lib.hid hlen
  clear h hlen
  cases hr : rightB l
  · have HN := Lib.hid (show pathR l pl = [] from by unfold pathR; rw [hr]; rfl)
    rw [hr] at HR
    clear hr
    go_enter Tryz.func12, Tryz.ntmps12
    go_upto_region 1 with (fail)
    refine gen_world (S := fun u => Below w.heap.size w u ∧ u.heap[w.heap.size]? = some (.cells #[.slice ao len cap] 22 (0, 0)) ∧ u.heap[w.heap.size + 1]? = some (.cells #[.int .i64 pl] 3 (0, 0))) (two_new w _ _) (fun u hu => ?_)
    obtain ⟨hb0, hx, hy⟩ := hu
    have cB := (block_cell' hx 0).1
    obtain ⟨X, hX⟩ : ∃ X, X = w.heap.size := ⟨_, rfl⟩
    rw [← hX] at cB ⊢
    have HB0 := Lib.hid hb0
    have HRu := Lib.hid (HR.out u hb0)
    have HXe := Lib.hid hX
    clear hb0 hx hy hX
    go_wp2_with fail
    refine HRu.out.mono ?_
    rintro en w1 ⟨rfl, hb⟩
    go_wp2
    go_ret
    rw [HN.out]
    exact ⟨_, rfl, World.ownsRow_nil _ _ _ _, HB0.out.trans (hb.mono HB0.out.size)⟩
  · obtain ⟨rs0, hF⟩ := (rightB_iff l).1 hr
    have HN := Lib.hid (show PaI l pl (pathR l pl) [] rs0 0 l.length from ⟨⟨_, _, _, hF⟩, by unfold pathR; rw [hr]; rfl, Nat.zero_le _, Nat.le_refl _, Nat.zero_le _⟩)
    have HF := Lib.hid hF
    have hl := H.out.len
    rw [← HLe.out] at hl
    rw [hr] at HR
    obtain ⟨i0, hi0, hz0, hz1, hz2⟩ := info_parts Tryz.infoInt
    clear hr hF
    go_enter Tryz.func12, Tryz.ntmps12
    go_upto_region 1 with (fail)
    refine gen_world (S := fun u => Below w.heap.size w u ∧ u.heap[w.heap.size]? = some (.cells #[.slice ao len cap] 22 (0, 0)) ∧ u.heap[w.heap.size + 1]? = some (.cells #[.int .i64 pl] 3 (0, 0))) (two_new w _ _) (fun u hu => ?_)
    obtain ⟨hb0, hx, hy⟩ := hu
    have cB := (block_cell' hx 0).1
    have HX := Lib.hid hx
    have HY := Lib.hid hy
    have HB0 := Lib.hid hb0
    obtain ⟨X, hX⟩ : ∃ X, X = w.heap.size := ⟨_, rfl⟩
    obtain ⟨Y, hY⟩ : ∃ Y, Y = w.heap.size + 1 := ⟨_, rfl⟩
    rw [← hX] at HX cB ⊢
    rw [← hY] at HY
    rw [show X + 1 = Y from by omega]
    have HRu := Lib.hid (HR.out u hb0)
    have HXY := Lib.hid (And.intro hX hY)
    clear hb0 hx hy hX hY
    go_wp2_with fail
    refine HRu.out.mono ?_
    rintro en w1 ⟨rfl, hb⟩
    have HB1 := Lib.hid (HB0.out.trans (hb.mono HB0.out.size))
    have HX1 := Lib.hid ((hb.block _ (lt_of_block HX.out)).trans HX.out)
    have HY1 := Lib.hid ((hb.block _ (lt_of_block HY.out)).trans HY.out)
    clear cB hb
    have cB := (block_cell' HX1.out 0).1
    have HRo := Lib.hid (roots_any _ w1 (H.out.later HB1.out).at' HF.out H.out.len)
    go_wp2_with fail
    refine HRo.out.mono ?_
    rintro en w2 hT
    obtain ⟨v2, rfl, ho2, hb2⟩ := hT
    have HB2 := Lib.hid (HB1.out.trans (hb2.mono HB1.out.size))
    have HO2 := Lib.hid (ho2.lift HB1.out.size)
    have HX2 := Lib.hid ((hb2.block _ (lt_of_block HX1.out)).trans HX1.out)
    have HY2 := Lib.hid ((hb2.block _ (lt_of_block HY1.out)).trans HY1.out)
    clear cB hb2 ho2 HRo
    go_wp2
    go_loopw [4, 6] (fun vo va wr => ∃ (done rs : List Nat) (s e : Nat), OwnN w2.heap.size wr vo done ∧ OwnN w.heap.size wr va rs ∧ Hid (PaI l pl (pathR l pl) done rs s e) ∧ Below w2.heap.size w2 wr ∧ done.length ≤ len) (fun vo _ _ => len - lenOf vo)
    case atStart => exact ⟨[], rs0, 0, l.length, World.ownsRow_nil _ _ _ _, HO2.out, HN, Below.refl _ _, Nat.zero_le _⟩
    case round =>
      obtain ⟨done, rs, s, e, hod, hor, HI, hbel, hdl⟩ := hrel
      have HBr := Lib.hid (HB2.out.trans (hbel.mono HB2.out.size))
      have HXr := Lib.hid ((hbel.block _ (lt_of_block HX2.out)).trans HX2.out)
      have HYr := Lib.hid ((hbel.block _ (lt_of_block HY2.out)).trans HY2.out)
      have HIx := Lib.hid (idxN_any w.heap.size _ rs (fun r => shB (atT l r).fr (atT l r).to pl) #[.pointer (some ⟨X, 0, none⟩), .pointer (some ⟨Y, 0, none⟩)] wr hor (fun x hx u hu => by
        obtain ⟨lo, hi, a, hF⟩ := HI.out.frs
        have hxr := hF.root x hx
        have hel := HI.out.end'
        exact pathOn_any x u ((H.out.later HBr.out).later hu) (by omega) ((hu.block _ (lt_of_block HXr.out)).trans HXr.out) ((hu.block _ (lt_of_block HYr.out)).trans HYr.out)) ⟨_, _, rfl⟩)
      obtain ⟨ado, dcap, rfl⟩ := own_val hod
      obtain ⟨aro, rcap, rfl⟩ := own_val hor
      obtain ⟨dn, hdn⟩ : ∃ dn, dn = done.length := ⟨_, rfl⟩
      obtain ⟨rn, hrn⟩ : ∃ rn, rn = rs.length := ⟨_, rfl⟩
      unfold OwnN at hod hor
      rw [← hdn] at hod hdl
      rw [← hrn] at hor HIx
      rw [← hdn, ← hrn]
      have HDn := Lib.hid hdn
      have HRn := Lib.hid hrn
      have HOd := Lib.hid hod
      have HOr := Lib.hid hor
      have HBel := Lib.hid hbel
      clear hdn hrn hod hor hbel
      go_wp2_with fail
      refine HIx.out.mono ?_
      rintro en w3 ⟨⟨r, rfl, hr⟩, hb3⟩
      have HR3 := Lib.hid hr
      have HB3 := Lib.hid hb3
      clear hr hb3 HIx
      rcases HR3.out with ⟨h1, rfl⟩ | ⟨i, hi, h1, rfl⟩
      · have HS := Lib.hid (HI.out.stop h1)
        clear h1
        go_wp2
        go_ret
        rw [HS.out]
        refine ⟨_, rfl, ?_, HBr.out.trans (HB3.out.mono HBr.out.size)⟩
        unfold OwnN
        rw [← HDn.out]
        exact ownsRow_base ((Keeps.ofNew HB3.out (fun _ => False)).row HOd.out (fun _ _ h => h)) HB2.out.size
      · obtain ⟨m, ks, hs, hn, hsx, hxl⟩ := HI.out.next h1
        obtain ⟨x, hx⟩ : ∃ x, x = rs[i] := ⟨_, rfl⟩
        rw [← hx] at hs hn hsx hxl
        have hod3 := (Keeps.ofNew HB3.out (fun _ => False)).row HOd.out (fun _ _ h => h)
        have hor3 := (Keeps.ofNew HB3.out (fun _ => False)).row HOr.out (fun _ _ h => h)
        have hcA := own_cells (nats_one rs) hor3
        obtain ⟨ao2, b2, off2, cap2, he, hlc, hm2, -, hao, hbs, hcc⟩ := hcA
        simp only [List.length_map, Value.slice.injEq] at he hlc hao
        obtain ⟨rfl, -, rfl⟩ := he
        have hao2 := hao (by omega)
        subst hao2
        have c0 := hcc i (by simpa using hi)
        simp only [List.getElem_map, ← hx] at c0
        have hirn : (i : Int) < rn := by rw [HRn.out]; omega
        have hi0' : (0 : Int) ≤ i := by omega
        have hdl2 : dn + 1 ≤ len := by rw [HDn.out, HLe.out]; have := HI.out.len; omega
        have HS := Lib.hid hs
        have HNx := Lib.hid hn
        have HXl := Lib.hid hxl
        have HOd3 := Lib.hid hod3
        have HB3w := Lib.hid (HBr.out.trans (HB3.out.mono HBr.out.size))
        have HB3x := Lib.hid (HBel.out.trans (HB3.out.mono HBel.out.size))
        have hsz := HB3x.out.size
        clear hs hn hsx hxl h1 hx hi hor3 hlc hm2 hao hbs hcc
        go_wp2_with (at_builtin; refine wpList_append_own _ rfl (.tmp 28) (.tmp 33) 27 rfl w2.heap.size 3 i0 _ 1 8 Tryz.underlying27 hi0 hz0 hz1 hz2 rfl (by decide) _ dn _ rfl (hod3.alloc _) ⟨w3.heap.size, 0, none⟩ 1 1 [.int .i64 x] rfl rfl (World.news_of_block (cs := #[.int .i64 x]) (t := 3) (fr := (0, 0)) (heap_alloc_new w3 _)) (by simp [Value.oneCell']) (by unfold maxLen; omega) (by omega) (by simp; omega) ?_; intro v' w4 hown' hgrow _; obtain ⟨aov, capv, rfl⟩ := own_val hown')
        have HB4x := Lib.hid (HB3x.out.trans (((Below.refl w2.heap.size w3).alloc hsz _).grown hgrow (by simp; omega) (fun r hr => (HOd3.out.lt r hr).1)))
        have HB4 := Lib.hid (HB2.out.trans (HB4x.out.mono HB2.out.size))
        have hO4 : OwnN w2.heap.size w4 (.slice aov (dn + 1) capv) (done ++ [x]) := by
          unfold OwnN
          rw [List.length_append, List.length_singleton, ← HDn.out, nats, List.map_append]
          exact hown'
        have hX4 : w4.heap[X]? = some (.cells #[.slice ao len cap] 22 (0, 0)) := block_grown ((HB3.out.block _ (lt_of_block HXr.out)).trans HXr.out) (by decide) HOd3.out hgrow
        clear hown' hgrow hod3 c0
        obtain ⟨g, cap4, he4, -, hm4, cO⟩ := own_end hO4
        simp only [Value.slice.injEq] at he4
        obtain ⟨rfl, -, rfl⟩ := he4
        rw [← HDn.out] at cO
        have cB := (block_cell' hX4 0).1
        have HO4 := Lib.hid hO4
        have hw1 : IntKind.i64.wrap (dn : Int) = (dn : Int) := IntWalk.i64_in _ (by omega)
        have hd1 : (dn : Int) < dn + 1 := by omega
        have hd0 : (0 : Int) ≤ dn := by omega
        have HK4 := Lib.hid (show ∀ u2, Below w4.heap.size w4 u2 → Calls Tryz.prog 55 #[.slice ao len cap, .int .i64 x] u2 fun en w' => ∃ v', en = .returned v' ∧ OwnN w.heap.size w' v' ks ∧ Below w4.heap.size w4 w' from fun u2 hu2 => (kids_any _ u2 ((H.out.later HB4.out).later hu2).at' HS.out H.out.len).mono fun en w' hh => by
          obtain ⟨v', h1, h2, h3⟩ := hh
          exact ⟨v', h1, h2.lift (Nat.le_trans HB4.out.size hu2.size), hu2.trans (h3.mono hu2.size)⟩)
        clear hO4 hX4
        refine wp_region_held_drew (S := fun u2 => Below w4.heap.size w4 u2) (by kernel_rfl) ((Below.refl _ _).drew) (fun hS => ?_)
        refine wpAnyH_take (i := 0) (oi := ⟨_, _, _, _, _, _⟩) (v := ?v8) rfl (by kernel_rfl) (by kernel_rfl) (by kernel_rfl) (fun _ _ _ h => h) ?y8 hS ?_
        case y8 => first | (refine Or.inr ⟨by rfl, ?_⟩; with_reducible rfl) | (refine Or.inl ⟨by rfl, ?_⟩; intro wS hSw; have s0 := cell_later hSw cB; have s1 := cell_later hSw cO; go_simp; try with_reducible rfl)
        simp only [Act.put, List.setIfInBounds_toArray, List.set_cons_zero, List.set_cons_succ]
        refine wpAnyH_take (i := 1) (oi := ⟨_, _, _, _, _, _⟩) (v := ?v9) rfl (by kernel_rfl) (by kernel_rfl) (by kernel_rfl) (fun _ _ _ h => h) ?y9 hS ?_
        case y9 => first | (refine Or.inr ⟨by rfl, ?_⟩; with_reducible rfl) | (refine Or.inl ⟨by rfl, ?_⟩; intro wS hSw; have s0 := cell_later hSw cB; have s1 := cell_later hSw cO; go_simp; try with_reducible rfl)
        simp only [Act.put, List.setIfInBounds_toArray, List.set_cons_zero, List.set_cons_succ]
        refine wpAnyH_take (i := 2) (oi := ⟨_, _, _, _, _, _⟩) (v := ?v10) rfl (by kernel_rfl) (by kernel_rfl) (by kernel_rfl) (fun _ _ _ h => h) ?y10 hS ?_
        case y10 => first | (refine Or.inr ⟨by rfl, ?_⟩; with_reducible rfl) | (refine Or.inl ⟨by rfl, ?_⟩; intro wS hSw; have s0 := cell_later hSw cB; have s1 := cell_later hSw cO; go_simp; try with_reducible rfl)
        simp only [Act.put, List.setIfInBounds_toArray, List.set_cons_zero, List.set_cons_succ]
        refine wpAnyH_take (i := 3) (oi := ⟨_, _, _, _, _, _⟩) (v := ?v11) rfl (by kernel_rfl) (by kernel_rfl) (by kernel_rfl) (fun _ _ _ h => h) ?y11 hS ?_
        case y11 => first | (refine Or.inr ⟨by rfl, ?_⟩; with_reducible rfl) | (refine Or.inl ⟨by rfl, ?_⟩; intro wS hSw; have s0 := cell_later hSw cB; have s1 := cell_later hSw cO; go_simp; try with_reducible rfl)
        simp only [Act.put, List.setIfInBounds_toArray, List.set_cons_zero, List.set_cons_succ]
        refine wpAnyH_take (i := 4) (oi := ⟨_, _, _, _, _, _⟩) (v := ?v12) rfl (by kernel_rfl) (by kernel_rfl) (by kernel_rfl) (fun _ _ _ h => h) ?y12 hS ?_
        case y12 => first | (refine Or.inr ⟨by rfl, ?_⟩; with_reducible rfl) | (refine Or.inl ⟨by rfl, ?_⟩; intro wS hSw; have s0 := cell_later hSw cB; have s1 := cell_later hSw cO; go_simp; try with_reducible rfl)
        simp only [Act.put, List.setIfInBounds_toArray, List.set_cons_zero, List.set_cons_succ]
        refine wpAnyH_take (i := 5) (oi := ⟨_, _, _, _, _, _⟩) (v := ?v13) rfl (by kernel_rfl) (by kernel_rfl) (by kernel_rfl) (fun _ _ _ h => h) ?y13 hS ?_
        case y13 => first | (refine Or.inr ⟨by rfl, ?_⟩; with_reducible rfl) | (refine Or.inl ⟨by rfl, ?_⟩; intro wS hSw; have s0 := cell_later hSw cB; have s1 := cell_later hSw cO; go_simp; try with_reducible rfl)
        simp only [Act.put, List.setIfInBounds_toArray, List.set_cons_zero, List.set_cons_succ]
        refine wpAnyH_take (i := 6) (oi := ⟨_, _, _, _, _, _⟩) (v := ?v14) rfl (by kernel_rfl) (by kernel_rfl) (by kernel_rfl) (fun _ _ _ h => h) ?y14 hS ?_
        case y14 => first | (refine Or.inr ⟨by rfl, ?_⟩; with_reducible rfl) | (refine Or.inl ⟨by rfl, ?_⟩; intro wS hSw; have s0 := cell_later hSw cB; have s1 := cell_later hSw cO; go_simp; try with_reducible rfl)
        simp only [Act.put, List.setIfInBounds_toArray, List.set_cons_zero, List.set_cons_succ]
        refine wpAnyH_ready (rs := [7]) (by kernel_rfl) (by simp) ?_
        refine AllReadyH.cons (o := ⟨_, _, _, _, _, _⟩) rfl (fun K hK => ?_) AllReadyH.nil
        go_simp
        refine (HK4.out _ hS).mono ?_
        rintro e wx ⟨v', rfl, ho, hS⟩; obtain ⟨ko, kc, rfl⟩ := own_val ho; have HOk := Lib.hid ho; clear ho
        go_wp2_with fail
        refine hK.out _ _ hS (fun _ => ?_)
        clear hK K
        try simp only [Act.put, List.setIfInBounds_toArray, List.set_cons_zero, List.set_cons_succ]
        refine wpAnyH_take (i := 8) (oi := ⟨_, _, _, _, _, _⟩) (v := ?v15) rfl (by kernel_rfl) (by kernel_rfl) (by kernel_rfl) (fun _ _ _ h => h) ?y15 hS ?_
        case y15 => first | (refine Or.inr ⟨by rfl, ?_⟩; with_reducible rfl) | (refine Or.inl ⟨by rfl, ?_⟩; intro wS hSw; have s0 := cell_later hSw cB; have s1 := cell_later hSw cO; go_simp; try with_reducible rfl)
        simp only [Act.put, List.setIfInBounds_toArray, List.set_cons_zero, List.set_cons_succ]
        refine wpAnyH_done (by kernel_rfl) ?_ _
        have HOw := Lib.hid ((Keeps.ofNew hS (fun _ => False)).row HO4.out (fun _ _ h => h))
        have HBw := Lib.hid (HB4x.out.trans (hS.mono HB4x.out.size))
        clear hS HK4 cB cO hw1 hd1 hd0
        go_wp2
        go_roundw
        case rel => exact ⟨done ++ [x], ks, x + 1, m, by
          have := HOw.out
          unfold OwnN
          rwa [List.length_append, List.length_singleton, ← HDn.out] at this ⊢, HOk.out, HNx, HBw.out, by rw [List.length_append, List.length_singleton, ← HDn.out]; exact hdl2⟩
        case measure => simp [lenOf]; omega
end Go.Proofs.YtadkjjpopmiceaaGreat
