import Derived.Test.YtkimkghldilliaaGreatBdFm
import Derived.Laws.BytesArg
import Derived.Deep.AppendLies
namespace Go.Proofs.YtkimkghldilliaaGreat
open Go.RowKit Go.Lib

theorem Tryz.infoRule : (Tryz.prog.info? 116).map (fun i => (i.zero, i.size, i.bytes)) = some (some (.agg #[.string ⟨#[]⟩, .int .i64 0]), 2, 24) := by kernel_rfl
def nameN (i : Nat) : ByteArray := strOfNums [((65 + i : Nat) : Int)]
/-- rules, the k-th first, bodies from m on. -/
def gramR : Nat → Nat → List (List Nd) → List Ru
  | _, _, [] => []
  | k, m, L :: r => ⟨nameN k, (m : Int)⟩ :: gramR (k + 1) (m + L.length) r
theorem gramR_snoc : ∀ (Ls : List (List Nd)) (k m : Nat) (L : List Nd), gramR k m (Ls ++ [L]) = gramR k m Ls ++ [⟨nameN (k + Ls.length), ((m + (Ls.map List.length).sum : Nat) : Int)⟩]
  | [], k, m, L => by simp [gramR]
  | X :: r, k, m, L => by simp only [List.cons_append, gramR, gramR_snoc r, List.map_cons, List.sum_cons, List.length_cons, Nat.add_assoc, Nat.add_comm 1]
theorem gramR_len : ∀ (Ls : List (List Nd)) (k m : Nat), (gramR k m Ls).length = Ls.length
  | [], _, _ => rfl
  | X :: r, k, m => by simp [gramR, gramR_len r]
/-- a grammar in memory of its own. -/
def GrPost (Ls : List (List Nd)) (w : World) (e : Ending) (w' : World) : Prop := ∃ rv nv N', e = .returned (.agg #[rv, nv]) ∧ N'.map sk = (ofT 0 Ls).map sk ∧ w'.ownsRow w.heap.size 116 2 rv Ls.length ((gramR 0 0 Ls).flatMap ruc) ∧ NsOwn w.heap.size w' nv N' ∧ Below w.heap.size w w'
theorem own_off {w : World} {b C n G : Nat} {t t2 : TypeId} {v : Value} {xs : List Value} {cs : Array Value} (h : w.ownsRow b t C v n xs) (hG : w.heap[G]? = some (.cells cs t2 (0, 0))) (ht : t ≠ t2) : ∀ k, v.ownBlock = some k → k ≠ G := by
  intro k e e2
  rcases h.2 with ⟨rfl, -⟩ | ⟨g, cap, cur, rfl, -, hg, -⟩
  · cases e
  simp only [Value.ownBlock, Option.some.injEq] at e
  subst e
  subst e2
  rw [hg] at hG
  simp only [Option.some.injEq, Obj.cells.injEq] at hG
  exact ht hG.2.1
theorem NsOwn.off {base : Nat} {w w' : World} {v : Value} {N : List Nd} {G : Nat} {cs : Array Value} (h : NsOwn base w v N) (hG : w.heap[G]? = some (.cells cs 25 (0, 0))) (hk : Keeps (· = G) w w') : NsOwn base w' v N :=
  h.keeps hk (fun k e => own_off h.row hG (by decide) k e) (fun x hx k e => own_off (h.kid x hx) hG (by decide) k e)
theorem set2g {w : World} {b : Nat} {x0 x1 : Value} {t : TypeId} (h : w.heap[b]? = some (.cells #[x0, x1] t (0, 0))) (y0 y1 : Value) :
    ((w.setCell ⟨b, 0, none⟩ y0).setCell ⟨b, 1, none⟩ y1).heap[b]? = some (.cells #[y0, y1] t (0, 0)) ∧ Keeps (· = b) w ((w.setCell ⟨b, 0, none⟩ y0).setCell ⟨b, 1, none⟩ y1) :=
  ⟨block_setCell' (block_setCell' h), ((Keeps.refl (fun k => k = b) w).setCell (p := ⟨b, 0, none⟩) rfl _).setCell (p := ⟨b, 1, none⟩) rfl _⟩
set_option maxRecDepth 100000 in
set_option maxHeartbeats 8000000 in
theorem gram_made (v : Value) (Ls : List (List Nd)) (w : World) (h : BsIn w v Ls) (hs : (Ls.map List.length).sum ≤ 2000) (hLs : Ls.length ≤ 26) (hne : ∀ L ∈ Ls, L ≠ []) :
    Calls Tryz.prog 35 #[v] w (GrPost Ls w) := by
  obtain ⟨ao, n, cap, rfl⟩ : ∃ ao n cap, v = .slice ao n cap := by obtain ⟨vs, ⟨ao, b, off, cap, e, -⟩, -⟩ := h; exact ⟨_, _, _, e⟩
  obtain ⟨hn, hc⟩ := h.cell
  have HN := Lib.hid hn
  have HC := Lib.hid hc
  have HS := Lib.hid hs
  have HNe := Lib.hid hne
  rw [← hn] at hLs
  clear h hn hc hs hne
  obtain ⟨i0, hi0, hz0, hz1, hz2⟩ := info_parts Tryz.infoRule
  obtain ⟨j0, hj0, hy0, hy1, hy2⟩ := info_parts Tryz.infoNode
  go_enter Tryz.func35, Tryz.ntmps35
  go_upto_region 2 with (fail)
  refine gen_world (S := fun u => Below w.heap.size w u ∧ u.heap[w.heap.size]? = some (.cells #[.slice none 0 0, .slice none 0 0] 25 (0, 0)) ∧ u.heap[w.heap.size + 1]? = some (.cells #[.slice none 0 0, .slice none 0 0] 25 (0, 0))) (two_new w _ _) (fun u hu => ?_)
  obtain ⟨hb, h1, h2⟩ := hu
  have HB := Lib.hid hb
  have H1 := Lib.hid h1
  have H2 := Lib.hid h2
  obtain ⟨G, hG⟩ : ∃ G, G = w.heap.size := ⟨_, rfl⟩
  have HG := Lib.hid hG
  rw [← hG] at H1 H2 ⊢
  clear hb h1 h2 hG
  go_wp2
  go_loopw [4, 5] (fun b c wr => ∃ (i : Nat) (N' : List Nd) (rv nv : Value), b = .int .i64 i ∧ i ≤ n ∧ Hid (N'.map sk = (ofT 0 (Ls.take i)).map sk) ∧ Hid (wr.ownsRow w.heap.size 116 2 rv i ((gramR 0 0 (Ls.take i)).flatMap ruc)) ∧ Hid (NsOwn w.heap.size wr nv N') ∧ Hid (wr.heap[G + 1]? = some (.cells #[rv, nv] 25 (0, 0))) ∧ Hid (wr.heap[G]? = some (.cells #[.slice none 0 0, .slice none 0 0] 25 (0, 0))) ∧ Hid (Below w.heap.size w wr)) (fun b _ _ => n - (intOf b).toNat)
  case atStart => exact ⟨0, [], _, _, rfl, Nat.zero_le _, Lib.hid (by simp [ofT]), Lib.hid (World.ownsRow_nil _ _ _ _), Lib.hid (NsOwn.nil _ _), H2, H1, HB⟩
  case round =>
    clear H1 H2 HB
    obtain ⟨i, N', rv, nv, rfl, hin, HM, HR, HO, H2, H1, HB⟩ := hrel
    obtain ⟨ra, rc, rfl⟩ := own_val HR.out
    obtain ⟨na, nc, hnv⟩ := own_val HO.out.row
    subst hnv
    obtain ⟨nl, hnl⟩ : ∃ nl, nl = N'.length := ⟨_, rfl⟩
    have HNl := Lib.hid hnl
    rw [← hnl] at HO H2
    clear hnl
    obtain ⟨v0, v1, f0, f1⟩ := box_cells H2.out
    by_cases hlt : i < n
    · have hlt2 : (i : Int) < n := by omega
      obtain ⟨L, hL⟩ : ∃ L, Ls[i]? = some L := ⟨_, List.getElem?_eq_getElem (by rw [← HN.out]; exact hlt)⟩
      have HL := Lib.hid hL
      obtain ⟨b, off, vi, hao, hni, hLl, hLq, hvc⟩ := HC.out i L hL
      subst hao
      have HNi := Lib.hid hni
      have HLq := Lib.hid hLq
      have HVc := Lib.hid hvc
      clear hL hni hLq hvc
      go_upto_region 6 with (fail)
      obtain ⟨q, hq⟩ : ∃ q : Nat, q = 65 + i := ⟨_, rfl⟩
      have HQ := Lib.hid hq
      have hw1 : IntKind.u8.wrap (i : Int) = i := IntWalk.u8_in _ (by omega)
      have hw2 : IntKind.u8.wrap (65 + (i : Int)) = (q : Int) := by rw [IntWalk.u8_in _ (by omega)]; omega
      have hn1 := one_new wr (.cells #[.int .u8 q] 5 (0, 0))
      have hcv := run_convert_bytes_arg (P := Tryz.prog) (w := wr.alloc (.cells #[.int .u8 q] 5)) 26 5 Tryz.underlying26 Tryz.underlying5 wr.heap.size 0 1 1 [(q : Int)] rfl (fun j hj => by
        obtain rfl : j = 0 := by omega
        exact (block_cell' hn1.2 0).1) 9 Tryz.underlying9
      have hnm : strOfNums [(q : Int)] = nameN i := by rw [hq]; rfl
      rw [hnm] at hcv
      have hsz := HB.out.size
      have hNL : nl ≤ 2000 := by
        have h1 : N'.length = (ofT 0 (Ls.take i)).length := by simpa using congrArg List.length HM.out
        rw [HNl.out, h1, ofT_len]
        have h2 : ((Ls.take i).map List.length).sum ≤ (Ls.map List.length).sum := by
          conv => rhs; rw [← List.take_append_drop i Ls]
          rw [List.map_append, List.sum_append]
          omega
        have := HS.out
        omega
      clear hq hnm hn1
      have hrow := HR.out
      go_upto_region 7 with (at_builtin; refine wpList_append_mine _ rfl (.tmp 16) (.tmp 24) 22 rfl w.heap.size 116 i0 _ 2 24 Tryz.underlying22 hi0 hz0 hz1 hz2 rfl (by decide) _ i _ rfl ((hrow.alloc _).alloc _) (some ⟨wr.heap.size + 1, 0, none⟩) 1 1 [.string (nameN i), .int .i64 nl] rfl rfl (fun h => by cases h) (by intro ad had; simp only [Option.some.injEq] at had; subst had; exact World.news_of_block (t := 116) (fr := (0, 0)) (two_new wr (.cells #[.int .u8 q] 5 (0, 0)) _).2.2) (by simp [Value.oneCell']) (by unfold maxLen; omega) (by omega) (by simp; omega) ?_; intro v1 w1 hown1 hgrow1 hblk1; obtain ⟨av, cv, rfl⟩ := own_val hown1; have h21 := (keeps_grown hgrow1).obj (((two_new wr (.cells #[.int .u8 q] 5 (0, 0)) (.cells #[.string (nameN i), .int .i64 nl] 116 (0, 0))).1.block _ (lt_of_block H2.out)).trans H2.out) (fun e => own_off HR.out H2.out (by decide) _ e.symm rfl); obtain ⟨e0, e1, g0, g1⟩ := box_cells h21)
      have k1 := block_setCell' (k := 0) (u := .slice av (i + 1) cv) h21
      have hk1 := (Keeps.refl (fun k => k = G + 1) w1).setCell (p := ⟨G + 1, 0, none⟩) rfl (.slice av (i + 1) cv)
      have hal := (two_new wr (.cells #[.int .u8 q] 5 (0, 0)) (.cells #[.string (nameN i), .int .i64 nl] 116 (0, 0))).1
      have HB1 := Lib.hid (HB.out.trans ((((Below.refl w.heap.size wr).alloc hsz _).alloc (by simp; omega) _).grown hgrow1 (by simp; omega) (fun r hr => (hrow.lt r hr).1)))
      have HO1 := Lib.hid ((HO.out.later hal).keeps (keeps_grown hgrow1) (fun k e e2 => own_ne HO.out.row HR.out (by decide) k e e2.symm) (fun x hx k e e2 => own_ne (HO.out.kid x hx) HR.out (by decide) k e e2.symm))
      have h11 := (keeps_grown hgrow1).obj ((hal.block _ (lt_of_block H1.out)).trans H1.out) (fun e => own_off HR.out H1.out (by decide) _ e.symm rfl)
      refine gen_world (S := fun y => y.heap[G + 1]? = some (.cells #[.slice av (i + 1) cv, .slice na nl nc] 25 (0, 0)) ∧ Keeps (· = G + 1) w1 y) ⟨k1, hk1⟩ (fun y hy => ?_)
      obtain ⟨k2, hky⟩ := hy
      have HBy := Lib.hid (HB1.out.trans (Keeps.one_below hky HB1.out.size (by have := HG.out; omega)))
      have HOy := Lib.hid (HO1.out.off h21 hky)
      have HRy := Lib.hid (Keeps.row hky hown1 (fun k e => own_off hown1 h21 (by decide) k e))
      have H1y := Lib.hid (hky.obj h11 (by omega))
      have H2y := Lib.hid k2
      clear k1 hk1 hown1 hgrow1 hblk1 h21 e0 e1 g0 g1 k2 hky h11 hal hrow hcv hw1 hw2 v0 v1 f0 f1
      have HML := Lib.hid (show 0 < L.length from List.length_pos_iff.2 (HNe.out L ((List.getElem?_eq_some_iff.1 HL.out).2 ▸ List.getElem_mem (List.getElem?_eq_some_iff.1 HL.out).1)))
      have HMv := Lib.hid (fun yq (hb : Below w.heap.size w yq) => moved_any vi L nl yq (HNi.out.later hb) (by omega) (by omega) HLq.out)
      clear HR HO H1 H2 HC HNi HLq
      obtain ⟨zd, hzd⟩ : ∃ zd, zd = y.drew := ⟨_, rfl⟩
      have hbd : Below y.heap.size y zd := by rw [hzd]; exact (Below.refl _ _).drew
      have HBd := Lib.hid (HBy.out.trans (hbd.mono HBy.out.size))
      have HOd := Lib.hid (HOy.out.later hbd)
      have HRd := Lib.hid (Keeps.row (Keeps.ofNew hbd (fun _ => False)) HRy.out (fun _ _ => id))
      have H1d := Lib.hid ((hbd.block _ (lt_of_block H1y.out)).trans H1y.out)
      have H2d := Lib.hid ((hbd.block _ (lt_of_block H2y.out)).trans H2y.out)
      have hS0 : y.drew.cell? ⟨b, off + i, none⟩ = some vi := by rw [← hzd]; exact cell_later HBd.out HVc.out
      refine wp_region_held_drew (S := fun z => z.cell? ⟨b, off + i, none⟩ = some vi) (by kernel_rfl) hS0 (fun hS => ?_)
      clear hS0
      rw [← hzd] at hS ⊢
      clear hzd hbd HBy HOy HRy H1y H2y
      refine wpAnyH_take (i := 0) (oi := ⟨_, _, _, _, _, _⟩) (v := ?v1) rfl (by kernel_rfl) (by kernel_rfl) (by kernel_rfl) (fun _ _ _ h => h) ?y1 hS ?_
      case y1 => first | (refine Or.inr ⟨by rfl, ?_⟩; with_reducible rfl) | (refine Or.inl ⟨by rfl, ?_⟩; intro wS hSw; have hv := hSw; go_simp; try with_reducible rfl)
      simp only [Act.put, List.setIfInBounds_toArray, List.set_cons_zero, List.set_cons_succ]
      refine wpAnyH_take (i := 2) (oi := ⟨_, _, _, _, _, _⟩) (v := ?v2) rfl (by kernel_rfl) (by kernel_rfl) (by kernel_rfl) (fun _ _ _ h => h) ?y2 hS ?_
      case y2 => first | (refine Or.inr ⟨by rfl, ?_⟩; with_reducible rfl) | (refine Or.inl ⟨by rfl, ?_⟩; intro wS hSw; have hv := hSw; go_simp; try with_reducible rfl)
      simp only [Act.put, List.setIfInBounds_toArray, List.set_cons_zero, List.set_cons_succ]
      refine wpAnyH_take (i := 3) (oi := ⟨_, _, _, _, _, _⟩) (v := ?v3) rfl (by kernel_rfl) (by kernel_rfl) (by kernel_rfl) (fun _ _ _ h => h) ?y3 hS ?_
      case y3 => first | (refine Or.inr ⟨by rfl, ?_⟩; with_reducible rfl) | (refine Or.inl ⟨by rfl, ?_⟩; intro wS hSw; have hv := hSw; go_simp; try with_reducible rfl)
      simp only [Act.put, List.setIfInBounds_toArray, List.set_cons_zero, List.set_cons_succ]
      refine wpAnyH_take (i := 4) (oi := ⟨_, _, _, _, _, _⟩) (v := ?v4) rfl (by kernel_rfl) (by kernel_rfl) (by kernel_rfl) (fun _ _ _ h => h) ?y4 hS ?_
      case y4 => first | (refine Or.inr ⟨by rfl, ?_⟩; with_reducible rfl) | (refine Or.inl ⟨by rfl, ?_⟩; intro wS hSw; have hv := hSw; go_simp; try with_reducible rfl)
      simp only [Act.put, List.setIfInBounds_toArray, List.set_cons_zero, List.set_cons_succ]
      refine wpAnyH_take (i := 5) (oi := ⟨_, _, _, _, _, _⟩) (v := ?v5) rfl (by kernel_rfl) (by kernel_rfl) (by kernel_rfl) (fun _ _ _ h => h) ?y5 hS ?_
      case y5 => first | (refine Or.inr ⟨by rfl, ?_⟩; with_reducible rfl) | (refine Or.inl ⟨by rfl, ?_⟩; intro wS hSw; have hv := hSw; go_simp; try with_reducible rfl)
      simp only [Act.put, List.setIfInBounds_toArray, List.set_cons_zero, List.set_cons_succ]
      refine wpAnyH_take (i := 6) (oi := ⟨_, _, _, _, _, _⟩) (v := ?v6) rfl (by kernel_rfl) (by kernel_rfl) (by kernel_rfl) (fun _ _ _ h => h) ?y6 hS ?_
      case y6 => first | (refine Or.inr ⟨by rfl, ?_⟩; with_reducible rfl) | (refine Or.inl ⟨by rfl, ?_⟩; intro wS hSw; have hv := hSw; go_simp; try with_reducible rfl)
      simp only [Act.put, List.setIfInBounds_toArray, List.set_cons_zero, List.set_cons_succ]
      refine wpAnyH_ready (rs := [1, 7]) (by kernel_rfl) (by simp) ?_
      refine AllReadyH.cons (o := ⟨_, _, _, _, _, _⟩) rfl (fun K hK => ?_) (AllReadyH.cons (o := ⟨_, _, _, _, _, _⟩) rfl (fun K hK => ?_) AllReadyH.nil)
      · skip
        obtain ⟨v0, v1, f0, f1⟩ := box_cells H2d.out
        go_simp
        refine hK.out _ _ (cell_later HBd.out HVc.out) (fun hS => ?_)
        clear hK K hS v0 v1 f0 f1
        try simp only [Act.put, List.setIfInBounds_toArray, List.set_cons_zero, List.set_cons_succ]
        refine wpAnyH_ready (rs := [7]) (by kernel_rfl) (by simp) ?_
        refine AllReadyH.cons (o := ⟨_, _, _, _, _, _⟩) rfl (fun K hK => ?_) AllReadyH.nil
        go_simp
        refine (HMv.out zd HBd.out).mono ?_
        rintro e z ⟨vM, M, rfl, hmM, hoM, hbM⟩
        obtain ⟨aM, cM, rfl⟩ := own_val hoM.row
        have HMm := Lib.hid hmM
        have HMo := Lib.hid hoM
        have HBz := Lib.hid (HBd.out.trans (hbM.mono HBd.out.size))
        have HOz := Lib.hid (HOd.out.later hbM)
        have HRz := Lib.hid (Keeps.row (Keeps.ofNew hbM (fun _ => False)) HRd.out (fun _ _ => id))
        have H1z := Lib.hid ((hbM.block _ (lt_of_block H1d.out)).trans H1d.out)
        have H2z := Lib.hid ((hbM.block _ (lt_of_block H2d.out)).trans H2d.out)
        obtain ⟨ml, hml⟩ : ∃ ml, ml = M.length := ⟨_, rfl⟩
        have HMl := Lib.hid hml
        rw [← hml]
        clear hmM hoM hbM hml
        go_wp2_with fail
        refine hK.out _ _ (cell_later HBz.out HVc.out) (fun hS => ?_)
        clear hK K hS
        try simp only [Act.put, List.setIfInBounds_toArray, List.set_cons_zero, List.set_cons_succ]
        refine wpAnyH_ready (rs := [8]) (by kernel_rfl) (by simp) ?_
        refine AllReadyH.cons (o := ⟨_, _, _, _, _, _⟩) rfl (fun K hK => ?_) AllReadyH.nil
        obtain ⟨gM, hgM⟩ : ∃ gM, aM = some ⟨gM, 0, none⟩ := by
          have h1 : M.length = L.length := by simpa using congrArg List.length HMm.out
          rcases HMo.out.row.2 with ⟨e, h0⟩ | ⟨g, cap, cur, e, -⟩
          · simp only [Value.slice.injEq] at e
            have := HML.out
            omega
          · simp only [Value.slice.injEq] at e
            exact ⟨g, e.1⟩
        subst hgM
        have hnews := (rows_news ndc_len (by omega) (own_rows ndc_len rfl HMo.out.row)).2.2.2.2 _ rfl
        have hone : ∀ u ∈ M.flatMap ndc, u.oneCell' = true := fun u hu => by
          obtain ⟨q, hq, hqu⟩ := List.mem_flatMap.1 hu
          obtain ⟨qa, qc, e⟩ := own_val (HMo.out.kid q hq)
          exact ndc_one q (by rw [e]; rfl) u hqu
        have hfl : (M.flatMap ndc).length = ml * 9 := by rw [flat_len ndc_len M, HMl.out]
        have hmL : ml = L.length := by rw [HMl.out]; simpa using congrArg List.length HMm.out
        have hm0 : 0 < ml := by have := HML.out; omega
        have hmx : ml ≤ 2000 := by omega
        have hrow := HOz.out.row
        rw [← HNl.out] at hrow
        clear hmL
        refine step_append_lies _ rfl (.tmp 28) (.tmp 34) 23 rfl w.heap.size 60 j0 _ 9 96 Tryz.underlying23 hj0 hy0 hy1 hy2 rfl (by decide) _ nl _ rfl hrow ⟨gM, 0, none⟩ ml cM (M.flatMap ndc) rfl hfl hnews hone hm0 (by unfold maxLen; omega) (by omega) HBz.out.size _ rfl (fun g2 cap2 w2 hown2 hgrow2 hg2 hlt3 => ?_)
        have HP := Lib.hid (NsOwn.join HOz.out HMo.out HBd.out.size (fun u hu k e => ((HOd.out.kid u hu).lt k e).2) (by rw [← HNl.out, ← HMl.out]; exact hown2) hgrow2)
        have HB2 := Lib.hid (HBz.out.trans ((Below.refl w.heap.size z).grown hgrow2 HBz.out.size (fun r hr => (hrow.lt r hr).1)))
        have HR2 := Lib.hid (Keeps.row (keeps_grown hgrow2) HRz.out (fun k e e2 => own_ne HRz.out hrow (by decide) k e e2.symm))
        have H12 := Lib.hid ((keeps_grown hgrow2).obj H1z.out (fun e => own_off hrow H1z.out (by decide) _ e.symm rfl))
        have H22 := Lib.hid ((keeps_grown hgrow2).obj H2z.out (fun e => own_off hrow H2z.out (by decide) _ e.symm rfl))
        clear hown2 hgrow2 hg2 hlt3 hrow hnews hone hfl hm0
        refine hK.out _ _ (cell_later HB2.out HVc.out) (fun hS => ?_)
        clear hK K hS
        try simp only [Act.put, List.setIfInBounds_toArray, List.set_cons_zero, List.set_cons_succ]
        refine wpAnyH_ready (rs := [9]) (by kernel_rfl) (by simp) ?_
        refine AllReadyH.cons (o := ⟨_, _, _, _, _, _⟩) rfl (fun K hK => ?_) AllReadyH.nil
        go_simp
        refine hK.out _ _ (cell_later HB2.out HVc.out) (fun hS => ?_)
        clear hK K hS
        try simp only [Act.put, List.setIfInBounds_toArray, List.set_cons_zero, List.set_cons_succ]
        refine wpAnyH_ready (rs := [10]) (by kernel_rfl) (by simp) ?_
        refine AllReadyH.cons (o := ⟨_, _, _, _, _, _⟩) rfl (fun K hK => ?_) AllReadyH.nil
        obtain ⟨v0, v1, f0, f1⟩ := box_cells H22.out
        go_simp
        have k1 := block_setCell' (k := 1) (u := .slice (some ⟨g2, 0, none⟩) (nl + ml) cap2) H22.out
        have hk1 := (Keeps.refl (fun k => k = G + 1) w2).setCell (p := ⟨G + 1, 1, none⟩) rfl (.slice (some ⟨g2, 0, none⟩) (nl + ml) cap2)
        have HB3 := Lib.hid (HB2.out.trans (Keeps.one_below hk1 HB2.out.size (by have := HG.out; omega)))
        have HP3 := Lib.hid (HP.out.off H22.out hk1)
        have HR3 := Lib.hid (Keeps.row hk1 HR2.out (fun k e => own_off HR2.out H22.out (by decide) k e))
        have H13 := Lib.hid (hk1.obj H12.out (by omega))
        have H23 := Lib.hid k1
        clear k1 hk1 v0 v1 f0 f1
        refine hK.out _ _ (cell_later HB3.out HVc.out) (fun hS => ?_)
        clear hK K hS
        try simp only [Act.put, List.setIfInBounds_toArray, List.set_cons_zero, List.set_cons_succ]
        refine wpAnyH_done (by kernel_rfl) ?_ _
        go_wp2
        have hnl : ((Ls.take i).map List.length).sum = nl := by
          have h1 : N'.length = (ofT 0 (Ls.take i)).length := by simpa using congrArg List.length HM.out
          rw [HNl.out, h1, ofT_len]
        have hti : (Ls.take i).length = i := by rw [List.length_take]; have := HN.out; omega
        refine ⟨⟨i + 1, N' ++ M, .slice av (i + 1) cv, .slice (some ⟨g2, 0, none⟩) (nl + ml) cap2, by go_num, by omega, Lib.hid ?_, Lib.hid ?_, HP3, Lib.hid (by have := H23.out; simpa using this), H13, HB3⟩, by simp [intOf]; omega⟩
        · rw [List.take_add_one, HL.out, Option.toList_some, ofT_snoc, List.map_append, HM.out, List.map_append, HMm.out, hnl, Nat.zero_add]
        · rw [List.take_add_one, HL.out, Option.toList_some, gramR_snoc, hti, hnl, Nat.zero_add, Nat.zero_add, List.flatMap_append]
          exact HR3.out
      · skip
        go_simp
        refine (HMv.out zd HBd.out).mono ?_
        rintro e z ⟨vM, M, rfl, hmM, hoM, hbM⟩
        obtain ⟨aM, cM, rfl⟩ := own_val hoM.row
        have HMm := Lib.hid hmM
        have HMo := Lib.hid hoM
        have HBz := Lib.hid (HBd.out.trans (hbM.mono HBd.out.size))
        have HOz := Lib.hid (HOd.out.later hbM)
        have HRz := Lib.hid (Keeps.row (Keeps.ofNew hbM (fun _ => False)) HRd.out (fun _ _ => id))
        have H1z := Lib.hid ((hbM.block _ (lt_of_block H1d.out)).trans H1d.out)
        have H2z := Lib.hid ((hbM.block _ (lt_of_block H2d.out)).trans H2d.out)
        obtain ⟨ml, hml⟩ : ∃ ml, ml = M.length := ⟨_, rfl⟩
        have HMl := Lib.hid hml
        rw [← hml]
        clear hmM hoM hbM hml
        go_wp2_with fail
        refine hK.out _ _ (cell_later HBz.out HVc.out) (fun hS => ?_)
        clear hK K hS
        try simp only [Act.put, List.setIfInBounds_toArray, List.set_cons_zero, List.set_cons_succ]
        refine wpAnyH_ready (rs := [1]) (by kernel_rfl) (by simp) ?_
        refine AllReadyH.cons (o := ⟨_, _, _, _, _, _⟩) rfl (fun K hK => ?_) AllReadyH.nil
        obtain ⟨v0, v1, f0, f1⟩ := box_cells H2z.out
        go_simp
        refine hK.out _ _ (cell_later HBz.out HVc.out) (fun hS => ?_)
        clear hK K hS v0 v1 f0 f1
        try simp only [Act.put, List.setIfInBounds_toArray, List.set_cons_zero, List.set_cons_succ]
        refine wpAnyH_ready (rs := [8]) (by kernel_rfl) (by simp) ?_
        refine AllReadyH.cons (o := ⟨_, _, _, _, _, _⟩) rfl (fun K hK => ?_) AllReadyH.nil
        obtain ⟨gM, hgM⟩ : ∃ gM, aM = some ⟨gM, 0, none⟩ := by
          have h1 : M.length = L.length := by simpa using congrArg List.length HMm.out
          rcases HMo.out.row.2 with ⟨e, h0⟩ | ⟨g, cap, cur, e, -⟩
          · simp only [Value.slice.injEq] at e
            have := HML.out
            omega
          · simp only [Value.slice.injEq] at e
            exact ⟨g, e.1⟩
        subst hgM
        have hnews := (rows_news ndc_len (by omega) (own_rows ndc_len rfl HMo.out.row)).2.2.2.2 _ rfl
        have hone : ∀ u ∈ M.flatMap ndc, u.oneCell' = true := fun u hu => by
          obtain ⟨q, hq, hqu⟩ := List.mem_flatMap.1 hu
          obtain ⟨qa, qc, e⟩ := own_val (HMo.out.kid q hq)
          exact ndc_one q (by rw [e]; rfl) u hqu
        have hfl : (M.flatMap ndc).length = ml * 9 := by rw [flat_len ndc_len M, HMl.out]
        have hmL : ml = L.length := by rw [HMl.out]; simpa using congrArg List.length HMm.out
        have hm0 : 0 < ml := by have := HML.out; omega
        have hmx : ml ≤ 2000 := by omega
        have hrow := HOz.out.row
        rw [← HNl.out] at hrow
        clear hmL
        refine step_append_lies _ rfl (.tmp 28) (.tmp 34) 23 rfl w.heap.size 60 j0 _ 9 96 Tryz.underlying23 hj0 hy0 hy1 hy2 rfl (by decide) _ nl _ rfl hrow ⟨gM, 0, none⟩ ml cM (M.flatMap ndc) rfl hfl hnews hone hm0 (by unfold maxLen; omega) (by omega) HBz.out.size _ rfl (fun g2 cap2 w2 hown2 hgrow2 hg2 hlt3 => ?_)
        have HP := Lib.hid (NsOwn.join HOz.out HMo.out HBd.out.size (fun u hu k e => ((HOd.out.kid u hu).lt k e).2) (by rw [← HNl.out, ← HMl.out]; exact hown2) hgrow2)
        have HB2 := Lib.hid (HBz.out.trans ((Below.refl w.heap.size z).grown hgrow2 HBz.out.size (fun r hr => (hrow.lt r hr).1)))
        have HR2 := Lib.hid (Keeps.row (keeps_grown hgrow2) HRz.out (fun k e e2 => own_ne HRz.out hrow (by decide) k e e2.symm))
        have H12 := Lib.hid ((keeps_grown hgrow2).obj H1z.out (fun e => own_off hrow H1z.out (by decide) _ e.symm rfl))
        have H22 := Lib.hid ((keeps_grown hgrow2).obj H2z.out (fun e => own_off hrow H2z.out (by decide) _ e.symm rfl))
        clear hown2 hgrow2 hg2 hlt3 hrow hnews hone hfl hm0
        refine hK.out _ _ (cell_later HB2.out HVc.out) (fun hS => ?_)
        clear hK K hS
        try simp only [Act.put, List.setIfInBounds_toArray, List.set_cons_zero, List.set_cons_succ]
        refine wpAnyH_ready (rs := [9]) (by kernel_rfl) (by simp) ?_
        refine AllReadyH.cons (o := ⟨_, _, _, _, _, _⟩) rfl (fun K hK => ?_) AllReadyH.nil
        go_simp
        refine hK.out _ _ (cell_later HB2.out HVc.out) (fun hS => ?_)
        clear hK K hS
        try simp only [Act.put, List.setIfInBounds_toArray, List.set_cons_zero, List.set_cons_succ]
        refine wpAnyH_ready (rs := [10]) (by kernel_rfl) (by simp) ?_
        refine AllReadyH.cons (o := ⟨_, _, _, _, _, _⟩) rfl (fun K hK => ?_) AllReadyH.nil
        obtain ⟨v0, v1, f0, f1⟩ := box_cells H22.out
        go_simp
        have k1 := block_setCell' (k := 1) (u := .slice (some ⟨g2, 0, none⟩) (nl + ml) cap2) H22.out
        have hk1 := (Keeps.refl (fun k => k = G + 1) w2).setCell (p := ⟨G + 1, 1, none⟩) rfl (.slice (some ⟨g2, 0, none⟩) (nl + ml) cap2)
        have HB3 := Lib.hid (HB2.out.trans (Keeps.one_below hk1 HB2.out.size (by have := HG.out; omega)))
        have HP3 := Lib.hid (HP.out.off H22.out hk1)
        have HR3 := Lib.hid (Keeps.row hk1 HR2.out (fun k e => own_off HR2.out H22.out (by decide) k e))
        have H13 := Lib.hid (hk1.obj H12.out (by omega))
        have H23 := Lib.hid k1
        clear k1 hk1 v0 v1 f0 f1
        refine hK.out _ _ (cell_later HB3.out HVc.out) (fun hS => ?_)
        clear hK K hS
        try simp only [Act.put, List.setIfInBounds_toArray, List.set_cons_zero, List.set_cons_succ]
        refine wpAnyH_done (by kernel_rfl) ?_ _
        go_wp2
        have hnl : ((Ls.take i).map List.length).sum = nl := by
          have h1 : N'.length = (ofT 0 (Ls.take i)).length := by simpa using congrArg List.length HM.out
          rw [HNl.out, h1, ofT_len]
        have hti : (Ls.take i).length = i := by rw [List.length_take]; have := HN.out; omega
        refine ⟨⟨i + 1, N' ++ M, .slice av (i + 1) cv, .slice (some ⟨g2, 0, none⟩) (nl + ml) cap2, by go_num, by omega, Lib.hid ?_, Lib.hid ?_, HP3, Lib.hid (by have := H23.out; simpa using this), H13, HB3⟩, by simp [intOf]; omega⟩
        · rw [List.take_add_one, HL.out, Option.toList_some, ofT_snoc, List.map_append, HM.out, List.map_append, HMm.out, hnl, Nat.zero_add]
        · rw [List.take_add_one, HL.out, Option.toList_some, gramR_snoc, hti, hnl, Nat.zero_add, Nat.zero_add, List.flatMap_append]
          exact HR3.out
    · have hlt2 : ¬ (i : Int) < n := by omega
      obtain ⟨u0, u1, e0, e1⟩ := box_cells H1.out
      go_wp2
      obtain ⟨k2, hk2⟩ := set2g H1.out (.slice ra i rc) (.slice na nl nc)
      obtain ⟨q0, q1, -, -⟩ := box_cells k2
      have hk : i = n := by omega
      have hM := HM.out
      have hR := HR.out
      rw [hk, HN.out, List.take_length] at hM hR
      exact bodyPost_ret (v := .agg #[.slice ra i rc, .slice na nl nc]) (by simp [results, Tryz.f35, go_sem, q0, q1]) rfl ⟨_, _, N', rfl, hM, Keeps.row hk2 (by rw [hk, HN.out]; exact hR) (fun k e => own_off HR.out H1.out (by decide) k e), HO.out.off H1.out hk2, HB.out.trans (Keeps.one_below hk2 HB.out.size (Nat.le_of_eq HG.out.symm))⟩
end Go.Proofs.YtkimkghldilliaaGreat
namespace Go.Proofs.YtkimkghldilliaaGreat
open Go.RowKit Go.Lib

theorem nodeE_sk (E : Nat → Nat → Lv → Ss → Rs) (doc : Bool) (R : List Ru) (W : List UInt8) (x : Nd) : nodeE E doc R W x = nodeE E doc R W (sk x) := by
  funext p L n s
  rfl
theorem ev_sk {doc : Bool} {R : List Ru} {N M : List Nd} {W : List UInt8} (h : N.map sk = M.map sk) : ∀ f, ev doc R N W f = ev doc R M W f
  | 0 => by funext n p L s; rfl
  | f + 1 => by
    funext n p L s
    have ih := ev_sk (doc := doc) (R := R) (W := W) h f
    rw [ev, ev, ih]
    split
    · rfl
    · have h1 : (N[n]?).map sk = (M[n]?).map sk := by rw [← List.getElem?_map, ← List.getElem?_map, h]
      cases h2 : N[n]? with
      | none => rw [h2] at h1; cases h3 : M[n]? with
        | none => rfl
        | some y => rw [h3] at h1; cases h1
      | some x => rw [h2] at h1; cases h3 : M[n]? with
        | none => rw [h3] at h1; cases h1
        | some y =>
          rw [h3] at h1
          simp only [Option.map_some, Option.some.injEq] at h1
          simp only
          rw [nodeE_sk _ _ _ _ x, h1, ← nodeE_sk _ _ _ _ y]
theorem treeAt_sk (len : Nat) : ∀ (N : List Nd) (n : Nat), treeAt len n N = treeAt len n (N.map sk)
  | [], n => rfl
  | x :: r, n => by
    rw [List.map_cons, treeAt, treeAt, ← treeAt_sk len r (n + 1)]
    rfl
theorem right_sk {R : List Ru} {N M : List Nd} (h : N.map sk = M.map sk) : grRight R N = grRight R M := by
  have hl : N.length = M.length := by simpa using congrArg List.length h
  have ha : ∀ (r : Nat) (l : List Nd), l.all (nodeOk r) = (l.map sk).all (nodeOk r) := fun r l => by
    rw [List.all_map]
    rfl
  unfold grRight
  rw [hl, ha R.length N, ha R.length M, h, treeAt_sk M.length N, treeAt_sk M.length M, h]
/-- a node of small numbers, plainly. -/
def NdP (x : Nd) : Prop := x.kids.length ≤ 1000 ∧ x.text.size ≤ 1000 ∧ WI x.kind ∧ (0 ≤ x.c0 ∧ x.c0 < 18446744073709551616) ∧ (0 ≤ x.c1 ∧ x.c1 < 18446744073709551616) ∧ (0 ≤ x.c2 ∧ x.c2 < 18446744073709551616) ∧ (0 ≤ x.c3 ∧ x.c3 < 18446744073709551616)
theorem NdP_sk (x : Nd) : NdP (sk x) ↔ NdP x := Iff.rfl
theorem gr_ok {base : Nat} {w : World} {rv nv : Value} {R : List Ru} {N P : List Nd} (hr : w.ownsRow base 116 2 rv R.length (R.flatMap ruc)) (hn : NsOwn base w nv N) (hm : N.map sk = P.map sk) (hp : ∀ x ∈ P, NdP x) : GrOk w rv nv R N := by
  refine ⟨⟨own_rows ruc_len rfl hr, own_rows ndc_len rfl hn.row, fun x hx => own_cells (iv_oneCell _) (hn.kid x hx)⟩, fun x hx => ?_⟩
  have h1 : sk x ∈ P.map sk := hm ▸ List.mem_map_of_mem hx
  obtain ⟨y, hy, e⟩ := List.mem_map.1 h1
  have h2 : NdP x := (NdP_sk x).1 (e ▸ (NdP_sk y).2 (hp y hy))
  obtain ⟨a1, a2, a3, a4⟩ := h2
  exact ⟨⟨own_val (hn.kid x hx), by unfold maxLen; omega, by unfold maxLen; omega⟩, a3, a4⟩
end Go.Proofs.YtkimkghldilliaaGreat
namespace Go.Proofs.YtkimkghldilliaaGreat
open Go.RowKit Go.Lib

theorem map_sk_mv (n : Int) {A B : List Nd} (h : A.map sk = B.map sk) : (A.map (mv n)).map sk = (B.map (mv n)).map sk := by
  have h1 : ∀ L : List Nd, (L.map (mv n)).map sk = (L.map sk).map (mv n) := fun L => by simp [List.map_map, Function.comp_def, sk, mv]
  rw [h1, h1, h]
/-- the same but for where kids lie, body by body. -/
def SameL : List (List Nd) → List (List Nd) → Prop
  | [], [] => True
  | A :: r, B :: s => A.map sk = B.map sk ∧ SameL r s
  | _, _ => False
theorem ofT_sk : ∀ (m : Nat) (Ls Ms : List (List Nd)), SameL Ls Ms → (ofT m Ls).map sk = (ofT m Ms).map sk ∧ ofK m Ls = ofK m Ms ∧ Ls.length = Ms.length
  | m, [], [], _ => ⟨rfl, rfl, rfl⟩
  | m, A :: r, B :: s, h => by
    have hl : A.length = B.length := by simpa using congrArg List.length h.1
    obtain ⟨h1, h2, h3⟩ := ofT_sk (m + A.length) r s h.2
    refine ⟨?_, ?_, by simp [h3]⟩
    · simp only [ofT, List.map_append]
      rw [map_sk_mv _ h.1, h1, hl]
    · simp only [ofK]
      rw [h2, hl]
  | m, [], B :: s, h => h.elim
  | m, A :: r, [], h => h.elim
theorem gramR_sk : ∀ (k m : Nat) (Ls Ms : List (List Nd)), SameL Ls Ms → gramR k m Ls = gramR k m Ms
  | k, m, [], [], _ => rfl
  | k, m, A :: r, B :: s, h => by
    have hl : A.length = B.length := by simpa using congrArg List.length h.1
    simp only [gramR, hl, gramR_sk (k + 1) (m + B.length) r s h.2]
  | k, m, [], B :: s, h => h.elim
  | k, m, A :: r, [], h => h.elim
theorem ofN_sk (kd : Int) {Ls Ms : List (List Nd)} (h : SameL Ls Ms) : (ofN kd Ls).map sk = (ofN kd Ms).map sk := by
  obtain ⟨h1, h2, -⟩ := ofT_sk 1 Ls Ms h
  simp only [ofN, List.map_cons, h1, h2]
/-- a body is small. -/
def smallB (L : List Nd) : Bool := decide (0 < L.length) && decide (L.length ≤ 60) && L.all (fun x => decide (x.kids.length ≤ 100) && x.kids.all (fun q => decide (0 ≤ q) && decide (q ≤ 1000)))
theorem small_len {L : List Nd} (h : smallB L = true) : 0 < L.length ∧ L.length ≤ 60 := by
  unfold smallB at h
  simp only [Bool.and_eq_true, decide_eq_true_eq] at h
  exact h.1
theorem small_kids {L : List Nd} (h : smallB L = true) : ∀ x ∈ L, x.kids.length ≤ 1000 ∧ ∀ q ∈ x.kids, 0 ≤ q ∧ q ≤ 1000000 := by
  unfold smallB at h
  simp only [Bool.and_eq_true, decide_eq_true_eq, List.all_eq_true] at h
  intro x hx
  obtain ⟨h1, h2⟩ := h.2 x hx
  exact ⟨by omega, fun q hq => by have := h2 q hq; omega⟩
theorem small_sk {L M : List Nd} (h : L.map sk = M.map sk) : smallB L = smallB M := by
  have h1 : ∀ L : List Nd, smallB L = smallB (L.map sk) := fun L => by unfold smallB; rw [List.length_map, List.all_map]; rfl
  rw [h1, h1 M, h]
/-- nodes that were made. -/
def NsM (w : World) (v : Value) (L : List Nd) : Prop := ∃ N', N'.map sk = L.map sk ∧ NsOwn 0 w v N'
theorem NsM.later {w w' : World} {v : Value} {L : List Nd} (h : NsM w v L) (hb : Below w.heap.size w w') : NsM w' v L := by
  obtain ⟨N', h1, h2⟩ := h
  exact ⟨N', h1, h2.later hb⟩
theorem NsM.val {w : World} {v : Value} {L : List Nd} (h : NsM w v L) : ∃ ao n cap, v = .slice ao n cap := by
  obtain ⟨N', h1, h2⟩ := h
  obtain ⟨a, c, e⟩ := own_val h2.row
  exact ⟨a, _, c, e⟩
theorem NsM.of {w w' : World} {b : Nat} {v : Value} {L N' : List Nd} (h : N'.map sk = L.map sk) (ho : NsOwn b w v N') : NsM w v L := ⟨N', h, ho.base_le (Nat.zero_le _)⟩
theorem NsM.inn {w : World} {v : Value} {L : List Nd} (h : NsM w v L) (hs : smallB L = true) : ∃ N', N'.map sk = L.map sk ∧ NsIn w v N' ∧ smallB N' = true := by
  obtain ⟨N', h1, h2⟩ := h
  have h3 : smallB N' = true := by rw [small_sk h1]; exact hs
  exact ⟨N', h1, h2.inn (fun x hx => (small_kids h3 x hx).1), h3⟩
theorem post_sk {L M : List Nd} {w w' : World} {e : Ending} (h : NsPost L w e w') (hs : L.map sk = M.map sk) : NsPost M w e w' := by
  obtain ⟨v, N', h1, h2, h3⟩ := h
  exact ⟨v, N', h1, h2.trans hs, h3⟩
theorem chain_m (va vb : Value) (A B : List Nd) (w : World) (ha : NsM w va A) (hb : NsM w vb B) (sa : smallB A = true) (sb : smallB B = true) : Calls Tryz.prog 37 #[va, vb] w (NsPost (ofN 6 [A, B]) w) := by
  obtain ⟨A', h1, h2, h3⟩ := ha.inn sa
  obtain ⟨B', k1, k2, k3⟩ := hb.inn sb
  have l1 := small_len h3
  have l2 := small_len k3
  refine (chain_made va vb A' B' w h2 k2 (by omega) (fun x hx => ?_)).mono (fun e w' h => post_sk h (ofN_sk 6 ⟨h1, k1, trivial⟩))
  rcases List.mem_append.1 hx with hx | hx
  · exact (small_kids h3 x hx).2
  · exact (small_kids k3 x hx).2
theorem first_m (va vb : Value) (A B : List Nd) (w : World) (ha : NsM w va A) (hb : NsM w vb B) (sa : smallB A = true) (sb : smallB B = true) : Calls Tryz.prog 36 #[va, vb] w (NsPost (ofN 7 [A, B]) w) := by
  obtain ⟨A', h1, h2, h3⟩ := ha.inn sa
  obtain ⟨B', k1, k2, k3⟩ := hb.inn sb
  have l1 := small_len h3
  have l2 := small_len k3
  refine (first_made va vb A' B' w h2 k2 (by omega) (fun x hx => ?_)).mono (fun e w' h => post_sk h (ofN_sk 7 ⟨h1, k1, trivial⟩))
  rcases List.mem_append.1 hx with hx | hx
  · exact (small_kids h3 x hx).2
  · exact (small_kids k3 x hx).2
/-- many bodies that were made. -/
def AllM (w : World) : List Value → List (List Nd) → Prop
  | [], [] => True
  | v :: vs, L :: Ls => NsM w v L ∧ smallB L = true ∧ AllM w vs Ls
  | _, _ => False
theorem AllM.open {w : World} : ∀ {vs : List Value} {Ls : List (List Nd)}, AllM w vs Ls → ∃ Ms, SameL Ms Ls ∧ vs.length = Ms.length ∧ (∀ u ∈ vs, u.oneCell' = true) ∧ (∀ M ∈ Ms, smallB M = true) ∧ ∀ (i : Nat) (L : List Nd) (vi : Value), Ms[i]? = some L → vs[i]? = some vi → NsIn w vi L ∧ L.length ≤ 2000 ∧ ∀ x ∈ L, ∀ q ∈ x.kids, 0 ≤ q ∧ q ≤ 1000000
  | [], [], _ => ⟨[], trivial, rfl, by simp, by simp, by simp⟩
  | v :: vs, L :: Ls, h => by
    obtain ⟨h1, h2, h3⟩ := h
    obtain ⟨N', k1, k2, k3⟩ := h1.inn h2
    obtain ⟨a, n, c, e⟩ := h1.val
    obtain ⟨Ms, g1, g2, g3, g4, g5⟩ := AllM.open h3
    refine ⟨N' :: Ms, ⟨k1, g1⟩, by simp [g2], fun u hu => ?_, fun M hM => ?_, fun i L vi e1 e2 => ?_⟩
    · rcases List.mem_cons.1 hu with rfl | hu
      · rw [e]; rfl
      · exact g3 u hu
    · rcases List.mem_cons.1 hM with rfl | hM
      · exact k3
      · exact g4 M hM
    · match i, e1, e2 with
      | 0, e1, e2 =>
        simp only [List.getElem?_cons_zero, Option.some.injEq] at e1 e2
        subst e1
        subst e2
        exact ⟨k2, by have := small_len k3; omega, fun x hx => (small_kids k3 x hx).2⟩
      | i + 1, e1, e2 => exact g5 i L vi (by simpa using e1) (by simpa using e2)
  | [], L :: Ls, h => h.elim
  | v :: vs, [], h => h.elim
theorem sum_small : ∀ (Ms : List (List Nd)), (∀ M ∈ Ms, smallB M = true) → (Ms.map List.length).sum ≤ Ms.length * 60
  | [], _ => by simp
  | M :: r, h => by
    have h1 := sum_small r (fun x hx => h x (by simp [hx]))
    have h2 := small_len (h M (by simp))
    simp only [List.map_cons, List.sum_cons, List.length_cons, Nat.add_mul]
    omega
theorem of_m (kd : Int) (g : Nat) (vs : List Value) (Ls : List (List Nd)) (u : World) (hu : u.heap[g]? = some (.cells (List.toArray vs) 23 (0, 0))) (h : AllM u vs Ls) (hl : vs.length ≤ 20) :
    Calls Tryz.prog 40 #[.int .i64 kd, .slice (some ⟨g, 0, none⟩) vs.length vs.length] u (NsPost (ofN kd Ls) u) := by
  obtain ⟨Ms, h1, h2, h3, h4, h5⟩ := h.open
  have hs := sum_small Ms h4
  exact (of_made kd _ Ms u (BsIn.row hu h2 (by omega) h3 h5) (by omega) (by omega)).mono (fun e w' h => post_sk h (ofN_sk kd h1))
theorem gram_m (g : Nat) (vs : List Value) (Ls : List (List Nd)) (u : World) (hu : u.heap[g]? = some (.cells (List.toArray vs) 23 (0, 0))) (h : AllM u vs Ls) (hl : vs.length ≤ 20) :
    Calls Tryz.prog 35 #[.slice (some ⟨g, 0, none⟩) vs.length vs.length] u (GrPost Ls u) := by
  obtain ⟨Ms, h1, h2, h3, h4, h5⟩ := h.open
  have hs := sum_small Ms h4
  refine (gram_made _ Ms u (BsIn.row hu h2 (by omega) h3 h5) (by omega) (by omega) (fun L hL e => by have := small_len (h4 L hL); rw [e] at this; simp at this)).mono (fun e w' hp => ?_)
  obtain ⟨rv, nv, N', q1, q2, q3, q4, q5⟩ := hp
  have h6 := (ofT_sk 0 Ms Ls h1).2.2
  exact ⟨rv, nv, N', q1, q2.trans (ofT_sk 0 Ms Ls h1).1, by rw [← h6, ← gramR_sk 0 0 Ms Ls h1]; exact q3, q4, q5⟩
set_option maxRecDepth 100000 in
set_option maxHeartbeats 1000000 in
theorem leaf_made (k : Int) (w : World) : Calls Tryz.prog 42 #[.int .i64 k] w (NsPost [bare k []] w) := by
  have hn := one_new w (.cells #[.int .i64 k, .int .u64 0, .int .u64 0, .int .u64 0, .int .u64 0, .string ⟨#[]⟩, .int .i64 0, .int .i64 0, .slice none 0 0] 60 (0, 0))
  have HN := Lib.hid hn
  clear hn
  go_enter Tryz.func42, Tryz.ntmps42
  go_wp2
  go_ret
  exact ⟨_, [bare k []], rfl, rfl, NsOwn.one rfl rfl HN.out.2, HN.out.1⟩
set_option maxRecDepth 100000 in
set_option maxHeartbeats 2000000 in
theorem in_m (kd : Int) (va : Value) (A : List Nd) (w : World) (ha : NsM w va A) (sa : smallB A = true) :
    Calls Tryz.prog 43 #[.int .i64 kd, va] w (NsPost (ofN kd [A]) w) := by
  obtain ⟨aa, al, ac, rfl⟩ := ha.val
  have HN := Lib.hid (one_new w (.cells #[.slice aa al ac] 23 (0, 0)))
  have HOf := Lib.hid (fun u (hu : Below w.heap.size w u ∧ u.heap[w.heap.size]? = some (.cells #[.slice aa al ac] 23 (0, 0))) => of_m kd w.heap.size [.slice aa al ac] [A] u hu.2 ⟨ha.later hu.1, sa, trivial⟩ (by simp))
  clear ha sa
  go_enter Tryz.func43, Tryz.ntmps43
  go_wp2_with fail
  refine (HOf.out _ HN.out).mono ?_
  rintro e z ⟨v', N', rfl, hm, hO, hB⟩
  have HM := Lib.hid (And.intro hm (And.intro hO hB))
  clear hm hO hB HOf
  obtain ⟨a3, c3, rfl⟩ := own_val HM.out.2.1.row
  go_wp2
  go_ret
  exact ⟨_, N', rfl, HM.out.1, HM.out.2.1.base_le HN.out.1.size, HN.out.1.trans (HM.out.2.2.mono HN.out.1.size)⟩
set_option maxRecDepth 100000 in
set_option maxHeartbeats 2000000 in
theorem infix_m (r l q : Int) (s : ByteArray) (w : World) :
    Calls Tryz.prog 41 #[.int .i64 r, .int .i64 l, .string s, .int .i64 q] w (NsPost (ofN 6 [[callN r l], [wordN s], [callN r q]]) w) := by
  go_enter Tryz.func41, Tryz.ntmps41
  go_wp2_with fail
  refine (call_made r l w).mono ?_
  rintro e w1 ⟨v1, N1, rfl, hm, hO, hB⟩
  have M1 := Lib.hid (show NsM w1 v1 [callN r l] from NsM.of (w' := w) hm hO)
  have B1 := Lib.hid hB
  clear hm hO hB
  obtain ⟨a1, n1, c1, rfl⟩ := M1.out.val
  go_wp2_with fail
  refine (word_made s w1).mono ?_
  rintro e w2 ⟨v2, N2, rfl, hm, hO, hB⟩
  have M2 := Lib.hid (show NsM w2 v2 [wordN s] from NsM.of (w' := w) hm hO)
  have M1' := Lib.hid (M1.out.later hB)
  have B2 := Lib.hid (B1.out.trans (hB.mono B1.out.size))
  clear hm hO hB M1 B1
  obtain ⟨a2, n2, c2, rfl⟩ := M2.out.val
  go_wp2_with fail
  refine (call_made r q w2).mono ?_
  rintro e w3 ⟨v3, N3, rfl, hm, hO, hB⟩
  have M3 := Lib.hid (show NsM w3 v3 [callN r q] from NsM.of (w' := w) hm hO)
  have M1 := Lib.hid (M1'.out.later hB)
  have M22 := Lib.hid (M2.out.later hB)
  have B3 := Lib.hid (B2.out.trans (hB.mono B2.out.size))
  clear hm hO hB M1' M2 B2
  obtain ⟨a3, n3, c3, rfl⟩ := M3.out.val
  have HN := Lib.hid (one_new w3 (.cells #[.slice a1 n1 c1, .slice a2 n2 c2, .slice a3 n3 c3] 23 (0, 0)))
  go_wp2_with fail
  refine (of_m 6 w3.heap.size [.slice a1 n1 c1, .slice a2 n2 c2, .slice a3 n3 c3] [[callN r l], [wordN s], [callN r q]] _ HN.out.2 ⟨M1.out.later HN.out.1, rfl, M22.out.later HN.out.1, rfl, M3.out.later HN.out.1, rfl, trivial⟩ (by simp)).mono ?_
  rintro e z ⟨v', N', rfl, hm, hO, hB⟩
  have HM := Lib.hid (And.intro hm (And.intro hO hB))
  clear hm hO hB
  obtain ⟨a4, c4, rfl⟩ := own_val HM.out.2.1.row
  go_wp2
  go_ret
  have HB := B3.out.trans (HN.out.1.mono B3.out.size)
  exact ⟨_, N', rfl, HM.out.1, HM.out.2.1.base_le HB.size, HB.trans (HM.out.2.2.mono HB.size)⟩
def pickN (x n : Int) : Int := if x.tmod n < 0 then x.tmod n + n else x.tmod n
theorem pickN_range (x n : Int) (hn : 0 < n) : 0 ≤ pickN x n ∧ pickN x n < n := by
  have h1 := Int.tmod_lt_of_pos x hn
  have h2 := Int.lt_tmod_of_pos x hn
  unfold pickN
  split <;> omega
set_option maxHeartbeats 1000000 in
theorem pick_any (w : World) (x n : Int) (hn : 0 < n) (hn2 : n ≤ 1000000) :
    Calls Tryz.prog 34 #[.int .i64 x, .int .i64 n] w fun e w' => e = .returned (.int .i64 (pickN x n)) ∧ w = w' := by
  have h1 := Int.tmod_lt_of_pos x hn
  have h2 := Int.lt_tmod_of_pos x hn
  have hw : IntKind.i64.wrap (x.tmod n) = x.tmod n := IntWalk.i64_in _ (by omega)
  have hz : (n == 0) = false := by simp; omega
  have hz2 : decide (n = 0) = false := by simp; omega
  have hz3 : ¬ n < 1 := by omega
  by_cases h0 : x.tmod n < 0
  · have hw2 : IntKind.i64.wrap (x.tmod n + n) = x.tmod n + n := IntWalk.i64_in _ (by omega)
    have hp : pickN x n = x.tmod n + n := if_pos h0
    go_enter Tryz.func34, Tryz.ntmps34
    go_wp2
    go_ret
    first | exact ⟨rfl, rfl⟩ | exact ⟨congrArg (fun z => Ending.returned (.int .i64 z)) hp.symm, rfl⟩
  · have hp : pickN x n = x.tmod n := if_neg h0
    go_enter Tryz.func34, Tryz.ntmps34
    go_wp2
    go_ret
    first | exact ⟨rfl, rfl⟩ | exact ⟨congrArg (fun z => Ending.returned (.int .i64 z)) hp.symm, rfl⟩
end Go.Proofs.YtkimkghldilliaaGreat
namespace Go.Proofs.YtkimkghldilliaaGreat
open Go.RowKit Go.Lib

/-- bytes as values. -/
def byv (l : List UInt8) : List Value := l.map fun c => .int .u8 (c.toNat : Int)
theorem bytes_block {w : World} {b : Nat} {t : TypeId} {l : List UInt8} (h : w.heap[b]? = some (.cells (List.toArray (byv l)) t (0, 0))) (hl : l.length ≤ 1000000) : BytesAt w (.slice (some ⟨b, 0, none⟩) l.length l.length) l := by
  refine ⟨_, b, 0, l.length, rfl, Nat.le_refl _, by unfold maxLen; omega, (fun h => by cases h), fun _ => rfl, fun k hk => ?_⟩
  rw [Nat.zero_add, (block_cell' h k).1]
  simp [byv, hk]
/-- nodes of small numbers, to be found by reckoning. -/
def ndB (x : Nd) : Bool := decide (x.kids.length ≤ 1000) && decide (-9223372036854775808 ≤ x.kind ∧ x.kind ≤ 9223372036854775807) && decide (0 ≤ x.c0 ∧ x.c0 < 18446744073709551616) && decide (0 ≤ x.c1 ∧ x.c1 < 18446744073709551616) && decide (0 ≤ x.c2 ∧ x.c2 < 18446744073709551616) && decide (0 ≤ x.c3 ∧ x.c3 < 18446744073709551616)
theorem ndB_P {x : Nd} (h : ndB x = true) (ht : x.text.size ≤ 1000) : NdP x := by
  unfold ndB at h
  simp only [Bool.and_eq_true, decide_eq_true_eq] at h
  obtain ⟨⟨⟨⟨⟨h1, h2⟩, h3⟩, h4⟩, h5⟩, h6⟩ := h
  exact ⟨h1, ht, wf64 h2, h3, h4, h5, h6⟩
theorem match_made {b : Nat} {rv nv wv : Value} {R : List Ru} {N P : List Nd} {W : List UInt8} {rule lev : Int} {p T n : Nat} {ru : Ru} {r : Fo} {st' : Ss} (w : World)
    (hr : w.ownsRow b 116 2 rv n (R.flatMap ruc)) (hn : NsOwn b w nv N) (hnl : n = R.length) (hm : N.map sk = P.map sk) (hp : ∀ x ∈ P, NdP x) (hw : BytesAt w wv W) (hR : grRight R P = true) (hW : W.length ≤ 2048)
    (h0 : 0 ≤ rule) (hru : R[rule.toNat]? = some ru) (hl : 0 ≤ lev ∧ lev ≤ 99) (hpl : p ≤ W.length) (hT : T ≤ 1000000000)
    (he : freshE (ev false R P W T) false [] rule lev p ru.body.toNat (T + 1) ⟨T, false⟩ = some (r, st')) :
    Calls Tryz.prog 10 #[.agg #[rv, nv], wv, .int .i64 rule, .int .i64 lev, .int .i64 p, .int .i64 T] w (MatchP w r st' T) := by
  subst hnl
  exact mMatch_go w (gr_ok hr hn hm hp) hw ((right_sk hm).trans hR) hW h0 hru hl hpl hT (by rw [ev_sk hm]; exact he)
theorem match_full {w w' : World} {r : Fo} {s : Ss} {T : Nat} {e : Ending} (h : MatchP w r s T e w') (hs : s.over = true) : (∃ tv, e = .returned (.tuple #[.agg #[.bool false, .int .i64 0, .int .i64 0, tv], .int .i64 0, .int .i64 12]) ∧ TwIn w' tv []) ∧ Below w.heap.size w w' := by
  obtain ⟨⟨tv, h1, h2⟩, h3⟩ := h
  refine ⟨⟨tv, ?_, ?_⟩, h3⟩
  · rw [h1]
    simp [aIs, aEn, aFar, aSp, aErr, hs]
  · simpa [aTree, hs] using h2
end Go.Proofs.YtkimkghldilliaaGreat
