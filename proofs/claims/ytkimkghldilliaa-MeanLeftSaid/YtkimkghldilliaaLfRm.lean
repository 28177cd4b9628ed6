import Derived.Test.YtkimkghldilliaaBdFm
import Derived.Laws.BytesArg
import Derived.Deep.AppendLies
namespace Go.Proofs.Ytkimkghldilliaa
open Go.RowKit Go.Lib

theorem Try.infoRule : (Try.prog.info? 56).map (fun i => (i.zero, i.size, i.bytes)) = some (some (.agg #[.string ⟨#[]⟩, .int .i64 0]), 2, 24) := by kernel_rfl
def nameN (i : Nat) : ByteArray := strOfNums [((65 + i : Nat) : Int)]
/-- rules, the k-th first, bodies from m on. -/
def gramR : Nat → Nat → List (List Nd) → List Ru
  | _, _, [] => []
  | k, m, L :: r => ⟨nameN k, (m : Int)⟩ :: gramR (k + 1) (m + L.length) r
theorem gramR_snoc : ∀ (Ls : List (List Nd)) (k m : Nat) (L : List Nd), gramR k m (Ls ++ [L]) = gramR k m Ls ++ [⟨nameN (k + Ls.length), ((m + (Ls.map List.length).sum : Nat) : Int)⟩]
  | [], k, m, L => by simp [gramR]
  | X :: r, k, m, L => by simp only [List.cons_append, gramR, gramR_snoc r, List.map_cons, List.sum_cons, List.length_cons, Nat.add_assoc, Nat.add_comm 1]
theorem gramR_len : ∀ (Ls : List (List Nd)) (k m : Nat), (gramR k m Ls).length = Ls.length
  | [], _, _ => rfl
  | X :: r, k, m => by simp [gramR, gramR_len r]
/-- a grammar in memory of its own. -/
def GrPost (Ls : List (List Nd)) (w : World) (e : Ending) (w' : World) : Prop := ∃ rv nv N', e = .returned (.agg #[rv, nv]) ∧ N'.map sk = (ofT 0 Ls).map sk ∧ w'.ownsRow w.heap.size 56 2 rv Ls.length ((gramR 0 0 Ls).flatMap ruc) ∧ NsOwn w.heap.size w' nv N' ∧ Below w.heap.size w w'
theorem own_off {w : World} {b C n G : Nat} {t t2 : TypeId} {v : Value} {xs : List Value} {cs : Array Value} (h : w.ownsRow b t C v n xs) (hG : w.heap[G]? = some (.cells cs t2 (0, 0))) (ht : t ≠ t2) : ∀ k, v.ownBlock = some k → k ≠ G := by
  intro k e e2
  rcases h.2 with ⟨rfl, -⟩ | ⟨g, cap, cur, rfl, -, hg, -⟩
  · cases e
  simp only [Value.ownBlock, Option.some.injEq] at e
  subst e
  subst e2
  rw [hg] at hG
  simp only [Option.some.injEq, Obj.cells.injEq] at hG
  exact ht hG.2.1
theorem NsOwn.off {base : Nat} {w w' : World} {v : Value} {N : List Nd} {G : Nat} {cs : Array Value} (h : NsOwn base w v N) (hG : w.heap[G]? = some (.cells cs 27 (0, 0))) (hk : Keeps (· = G) w w') : NsOwn base w' v N :=
  h.keeps hk (fun k e => own_off h.row hG (by decide) k e) (fun x hx k e => own_off (h.kid x hx) hG (by decide) k e)
theorem set2g {w : World} {b : Nat} {x0 x1 : Value} {t : TypeId} (h : w.heap[b]? = some (.cells #[x0, x1] t (0, 0))) (y0 y1 : Value) :
    ((w.setCell ⟨b, 0, none⟩ y0).setCell ⟨b, 1, none⟩ y1).heap[b]? = some (.cells #[y0, y1] t (0, 0)) ∧ Keeps (· = b) w ((w.setCell ⟨b, 0, none⟩ y0).setCell ⟨b, 1, none⟩ y1) :=
  ⟨block_setCell' (block_setCell' h), ((Keeps.refl (fun k => k = b) w).setCell (p := ⟨b, 0, none⟩) rfl _).setCell (p := ⟨b, 1, none⟩) rfl _⟩
set_option maxRecDepth 100000 in
set_option maxHeartbeats 8000000 in
theorem gram_made (v : Value) (Ls : List (List Nd)) (w : World) (h : BsIn w v Ls) (hs : (Ls.map List.length).sum ≤ 2000) (hLs : Ls.length ≤ 26) (hne : ∀ L ∈ Ls, L ≠ []) :
    Calls Try.prog 7 #[v] w (GrPost Ls w) := by
  obtain ⟨ao, n, cap, rfl⟩ : ∃ ao n cap, v = .slice ao n cap := by obtain ⟨vs, ⟨ao, b, off, cap, e, -⟩, -⟩ := h; exact ⟨_, _, _, e⟩
  obtain ⟨hn, hc⟩ := h.cell
  have HN := Lib.hid hn
  have HC := Lib.hid hc
  have HS := Lib.hid hs
  have HNe := Lib.hid hne
  rw [← hn] at hLs
  clear h hn hc hs hne
  obtain ⟨i0, hi0, hz0, hz1, hz2⟩ := info_parts Try.infoRule
  obtain ⟨j0, hj0, hy0, hy1, hy2⟩ := info_parts Try.infoNode
  go_enter Try.func7, Try.ntmps7
  go_upto_region 2 with (fail)
  refine gen_world (S := fun u => Below w.heap.size w u ∧ u.heap[w.heap.size]? = some (.cells #[.slice none 0 0, .slice none 0 0] 27 (0, 0)) ∧ u.heap[w.heap.size + 1]? = some (.cells #[.slice none 0 0, .slice none 0 0] 27 (0, 0))) (two_new w _ _) (fun u hu => ?_)
  obtain ⟨hb, h1, h2⟩ := hu
  have HB := Lib.hid hb
  have H1 := Lib.hid h1
  have H2 := Lib.hid h2
  obtain ⟨G, hG⟩ : ∃ G, G = w.heap.size := ⟨_, rfl⟩
  have HG := Lib.hid hG
  rw [← hG] at H1 H2 ⊢
  clear hb h1 h2 hG
  go_wp2
  go_loopw [4, 5] (fun b c wr => ∃ (i : Nat) (N' : List Nd) (rv nv : Value), b = .int .i64 i ∧ i ≤ n ∧ Hid (N'.map sk = (ofT 0 (Ls.take i)).map sk) ∧ Hid (wr.ownsRow w.heap.size 56 2 rv i ((gramR 0 0 (Ls.take i)).flatMap ruc)) ∧ Hid (NsOwn w.heap.size wr nv N') ∧ Hid (wr.heap[G + 1]? = some (.cells #[rv, nv] 27 (0, 0))) ∧ Hid (wr.heap[G]? = some (.cells #[.slice none 0 0, .slice none 0 0] 27 (0, 0))) ∧ Hid (Below w.heap.size w wr)) (fun b _ _ => n - (intOf b).toNat)
  case atStart => exact ⟨0, [], _, _, rfl, Nat.zero_le _, Lib.hid (by simp [ofT]), Lib.hid (World.ownsRow_nil _ _ _ _), Lib.hid (NsOwn.nil _ _), H2, H1, HB⟩
  case round =>
    clear H1 H2 HB
    obtain ⟨i, N', rv, nv, rfl, hin, HM, HR, HO, H2, H1, HB⟩ := hrel
    obtain ⟨ra, rc, rfl⟩ := own_val HR.out
    obtain ⟨na, nc, hnv⟩ := own_val HO.out.row
    subst hnv
    obtain ⟨nl, hnl⟩ : ∃ nl, nl = N'.length := ⟨_, rfl⟩
    have HNl := Lib.hid hnl
    rw [← hnl] at HO H2
    clear hnl
    obtain ⟨v0, v1, f0, f1⟩ := box_cells H2.out
    by_cases hlt : i < n
    · have hlt2 : (i : Int) < n := by omega
      obtain ⟨L, hL⟩ : ∃ L, Ls[i]? = some L := ⟨_, List.getElem?_eq_getElem (by rw [← HN.out]; exact hlt)⟩
      have HL := Lib.hid hL
      obtain ⟨b, off, vi, hao, hni, hLl, hLq, hvc⟩ := HC.out i L hL
      subst hao
      have HNi := Lib.hid hni
      have HLq := Lib.hid hLq
      have HVc := Lib.hid hvc
      clear hL hni hLq hvc
      go_upto_region 6 with (fail)
      obtain ⟨q, hq⟩ : ∃ q : Nat, q = 65 + i := ⟨_, rfl⟩
      have HQ := Lib.hid hq
      have hw1 : IntKind.u8.wrap (i : Int) = i := IntWalk.u8_in _ (by omega)
      have hw2 : IntKind.u8.wrap (65 + (i : Int)) = (q : Int) := by rw [IntWalk.u8_in _ (by omega)]; omega
      have hn1 := one_new wr (.cells #[.int .u8 q] 5 (0, 0))
      have hcv := run_convert_bytes_arg (P := Try.prog) (w := wr.alloc (.cells #[.int .u8 q] 5)) 22 5 Try.underlying22 Try.underlying5 wr.heap.size 0 1 1 [(q : Int)] rfl (fun j hj => by
        obtain rfl : j = 0 := by omega
        exact (block_cell' hn1.2 0).1) 9 Try.underlying9
      have hnm : strOfNums [(q : Int)] = nameN i := by rw [hq]; rfl
      rw [hnm] at hcv
      have hsz := HB.out.size
      have hNL : nl ≤ 2000 := by
        have h1 : N'.length = (ofT 0 (Ls.take i)).length := by simpa using congrArg List.length HM.out
        rw [HNl.out, h1, ofT_len]
        have h2 : ((Ls.take i).map List.length).sum ≤ (Ls.map List.length).sum := by
          conv => rhs; rw [← List.take_append_drop i Ls]
          rw [List.map_append, List.sum_append]
          omega
        have := HS.out
        omega
      clear hq hnm hn1
      have hrow := HR.out
      go_upto_region 7 with (at_builtin; refine wpList_append_mine _ rfl (.tmp 16) (.tmp 24) 24 rfl w.heap.size 56 i0 _ 2 24 Try.underlying24 hi0 hz0 hz1 hz2 rfl (by decide) _ i _ rfl ((hrow.alloc _).alloc _) (some ⟨wr.heap.size + 1, 0, none⟩) 1 1 [.string (nameN i), .int .i64 nl] rfl rfl (fun h => by cases h) (by intro ad had; simp only [Option.some.injEq] at had; subst had; exact World.news_of_block (t := 56) (fr := (0, 0)) (two_new wr (.cells #[.int .u8 q] 5 (0, 0)) _).2.2) (by simp [Value.oneCell']) (by unfold maxLen; omega) (by omega) (by simp; omega) ?_; intro v1 w1 hown1 hgrow1 hblk1; obtain ⟨av, cv, rfl⟩ := own_val hown1; have h21 := (keeps_grown hgrow1).obj (((two_new wr (.cells #[.int .u8 q] 5 (0, 0)) (.cells #[.string (nameN i), .int .i64 nl] 56 (0, 0))).1.block _ (lt_of_block H2.out)).trans H2.out) (fun e => own_off HR.out H2.out (by decide) _ e.symm rfl); obtain ⟨e0, e1, g0, g1⟩ := box_cells h21)
      have k1 := block_setCell' (k := 0) (u := .slice av (i + 1) cv) h21
      have hk1 := (Keeps.refl (fun k => k = G + 1) w1).setCell (p := ⟨G + 1, 0, none⟩) rfl (.slice av (i + 1) cv)
      have hal := (two_new wr (.cells #[.int .u8 q] 5 (0, 0)) (.cells #[.string (nameN i), .int .i64 nl] 56 (0, 0))).1
      have HB1 := Lib.hid (HB.out.trans ((((Below.refl w.heap.size wr).alloc hsz _).alloc (by simp; omega) _).grown hgrow1 (by simp; omega) (fun r hr => (hrow.lt r hr).1)))
      have HO1 := Lib.hid ((HO.out.later hal).keeps (keeps_grown hgrow1) (fun k e e2 => own_ne HO.out.row HR.out (by decide) k e e2.symm) (fun x hx k e e2 => own_ne (HO.out.kid x hx) HR.out (by decide) k e e2.symm))
      have h11 := (keeps_grown hgrow1).obj ((hal.block _ (lt_of_block H1.out)).trans H1.out) (fun e => own_off HR.out H1.out (by decide) _ e.symm rfl)
      refine gen_world (S := fun y => y.heap[G + 1]? = some (.cells #[.slice av (i + 1) cv, .slice na nl nc] 27 (0, 0)) ∧ Keeps (· = G + 1) w1 y) ⟨k1, hk1⟩ (fun y hy => ?_)
      obtain ⟨k2, hky⟩ := hy
      have HBy := Lib.hid (HB1.out.trans (Keeps.one_below hky HB1.out.size (by have := HG.out; omega)))
      have HOy := Lib.hid (HO1.out.off h21 hky)
      have HRy := Lib.hid (Keeps.row hky hown1 (fun k e => own_off hown1 h21 (by decide) k e))
      have H1y := Lib.hid (hky.obj h11 (by omega))
      have H2y := Lib.hid k2
      clear k1 hk1 hown1 hgrow1 hblk1 h21 e0 e1 g0 g1 k2 hky h11 hal hrow hcv hw1 hw2 v0 v1 f0 f1
      have HML := Lib.hid (show 0 < L.length from List.length_pos_iff.2 (HNe.out L ((List.getElem?_eq_some_iff.1 HL.out).2 ▸ List.getElem_mem (List.getElem?_eq_some_iff.1 HL.out).1)))
      have HMv := Lib.hid (fun yq (hb : Below w.heap.size w yq) => moved_any vi L nl yq (HNi.out.later hb) (by omega) (by omega) HLq.out)
      clear HR HO H1 H2 HC HNi HLq
      obtain ⟨zd, hzd⟩ : ∃ zd, zd = y.drew := ⟨_, rfl⟩
      have hbd : Below y.heap.size y zd := by rw [hzd]; exact (Below.refl _ _).drew
      have HBd := Lib.hid (HBy.out.trans (hbd.mono HBy.out.size))
      have HOd := Lib.hid (HOy.out.later hbd)
      have HRd := Lib.hid (Keeps.row (Keeps.ofNew hbd (fun _ => False)) HRy.out (fun _ _ => id))
      have H1d := Lib.hid ((hbd.block _ (lt_of_block H1y.out)).trans H1y.out)
      have H2d := Lib.hid ((hbd.block _ (lt_of_block H2y.out)).trans H2y.out)
      have hS0 : y.drew.cell? ⟨b, off + i, none⟩ = some vi := by rw [← hzd]; exact cell_later HBd.out HVc.out
      refine wp_region_held_drew (S := fun z => z.cell? ⟨b, off + i, none⟩ = some vi) (by kernel_rfl) hS0 (fun hS => ?_)
      clear hS0
      rw [← hzd] at hS ⊢
      clear hzd hbd HBy HOy HRy H1y H2y
      refine wpAnyH_take (i := 0) (oi := ⟨_, _, _, _, _, _⟩) (v := ?v1) rfl (by kernel_rfl) (by kernel_rfl) (by kernel_rfl) (fun _ _ _ h => h) ?y1 hS ?_
      case y1 => first | (refine Or.inr ⟨by rfl, ?_⟩; with_reducible rfl) | (refine Or.inl ⟨by rfl, ?_⟩; intro wS hSw; have hv := hSw; go_simp; try with_reducible rfl)
      simp only [Act.put, List.setIfInBounds_toArray, List.set_cons_zero, List.set_cons_succ]
      refine wpAnyH_take (i := 2) (oi := ⟨_, _, _, _, _, _⟩) (v := ?v2) rfl (by kernel_rfl) (by kernel_rfl) (by kernel_rfl) (fun _ _ _ h => h) ?y2 hS ?_
      case y2 => first | (refine Or.inr ⟨by rfl, ?_⟩; with_reducible rfl) | (refine Or.inl ⟨by rfl, ?_⟩; intro wS hSw; have hv := hSw; go_simp; try with_reducible rfl)
      simp only [Act.put, List.setIfInBounds_toArray, List.set_cons_zero, List.set_cons_succ]
      refine wpAnyH_take (i := 3) (oi := ⟨_, _, _, _, _, _⟩) (v := ?v3) rfl (by kernel_rfl) (by kernel_rfl) (by kernel_rfl) (fun _ _ _ h => h) ?y3 hS ?_
      case y3 => first | (refine Or.inr ⟨by rfl, ?_⟩; with_reducible rfl) | (refine Or.inl ⟨by rfl, ?_⟩; intro wS hSw; have hv := hSw; go_simp; try with_reducible rfl)
      simp only [Act.put, List.setIfInBounds_toArray, List.set_cons_zero, List.set_cons_succ]
      refine wpAnyH_take (i := 4) (oi := ⟨_, _, _, _, _, _⟩) (v := ?v4) rfl (by kernel_rfl) (by kernel_rfl) (by kernel_rfl) (fun _ _ _ h => h) ?y4 hS ?_
      case y4 => first | (refine Or.inr ⟨by rfl, ?_⟩; with_reducible rfl) | (refine Or.inl ⟨by rfl, ?_⟩; intro wS hSw; have hv := hSw; go_simp; try with_reducible rfl)
      simp only [Act.put, List.setIfInBounds_toArray, List.set_cons_zero, List.set_cons_succ]
      refine wpAnyH_take (i := 5) (oi := ⟨_, _, _, _, _, _⟩) (v := ?v5) rfl (by kernel_rfl) (by kernel_rfl) (by kernel_rfl) (fun _ _ _ h => h) ?y5 hS ?_
      case y5 => first | (refine Or.inr ⟨by rfl, ?_⟩; with_reducible rfl) | (refine Or.inl ⟨by rfl, ?_⟩; intro wS hSw; have hv := hSw; go_simp; try with_reducible rfl)
      simp only [Act.put, List.setIfInBounds_toArray, List.set_cons_zero, List.set_cons_succ]
      refine wpAnyH_take (i := 6) (oi := ⟨_, _, _, _, _, _⟩) (v := ?v6) rfl (by kernel_rfl) (by kernel_rfl) (by kernel_rfl) (fun _ _ _ h => h) ?y6 hS ?_
      case y6 => first | (refine Or.inr ⟨by rfl, ?_⟩; with_reducible rfl) | (refine Or.inl ⟨by rfl, ?_⟩; intro wS hSw; have hv := hSw; go_simp; try with_reducible rfl)
      simp only [Act.put, List.setIfInBounds_toArray, List.set_cons_zero, List.set_cons_succ]
      refine wpAnyH_ready (rs := [1, 7]) (by kernel_rfl) (by simp) ?_
      refine AllReadyH.cons (o := ⟨_, _, _, _, _, _⟩) rfl (fun K hK => ?_) (AllReadyH.cons (o := ⟨_, _, _, _, _, _⟩) rfl (fun K hK => ?_) AllReadyH.nil)
      · skip
        obtain ⟨v0, v1, f0, f1⟩ := box_cells H2d.out
        go_simp
        refine hK.out _ _ (cell_later HBd.out HVc.out) (fun hS => ?_)
        clear hK K hS v0 v1 f0 f1
        try simp only [Act.put, List.setIfInBounds_toArray, List.set_cons_zero, List.set_cons_succ]
        refine wpAnyH_ready (rs := [7]) (by kernel_rfl) (by simp) ?_
        refine AllReadyH.cons (o := ⟨_, _, _, _, _, _⟩) rfl (fun K hK => ?_) AllReadyH.nil
        go_simp
        refine (HMv.out zd HBd.out).mono ?_
        rintro e z ⟨vM, M, rfl, hmM, hoM, hbM⟩
        obtain ⟨aM, cM, rfl⟩ := own_val hoM.row
        have HMm := Lib.hid hmM
        have HMo := Lib.hid hoM
        have HBz := Lib.hid (HBd.out.trans (hbM.mono HBd.out.size))
        have HOz := Lib.hid (HOd.out.later hbM)
        have HRz := Lib.hid (Keeps.row (Keeps.ofNew hbM (fun _ => False)) HRd.out (fun _ _ => id))
        have H1z := Lib.hid ((hbM.block _ (lt_of_block H1d.out)).trans H1d.out)
        have H2z := Lib.hid ((hbM.block _ (lt_of_block H2d.out)).trans H2d.out)
        obtain ⟨ml, hml⟩ : ∃ ml, ml = M.length := ⟨_, rfl⟩
        have HMl := Lib.hid hml
        rw [← hml]
        clear hmM hoM hbM hml
        go_wp2_with fail
        refine hK.out _ _ (cell_later HBz.out HVc.out) (fun hS => ?_)
        clear hK K hS
        try simp only [Act.put, List.setIfInBounds_toArray, List.set_cons_zero, List.set_cons_succ]
        refine wpAnyH_ready (rs := [8]) (by kernel_rfl) (by simp) ?_
        refine AllReadyH.cons (o := ⟨_, _, _, _, _, _⟩) rfl (fun K hK => ?_) AllReadyH.nil
        obtain ⟨gM, hgM⟩ : ∃ gM, aM = some ⟨gM, 0, none⟩ := by
          have h1 : M.length = L.length := by simpa using congrArg List.length HMm.out
          rcases HMo.out.row.2 with ⟨e, h0⟩ | ⟨g, cap, cur, e, -⟩
          · simp only [Value.slice.injEq] at e
            have := HML.out
            omega
          · simp only [Value.slice.injEq] at e
            exact ⟨g, e.1⟩
        subst hgM
        have hnews := (rows_news ndc_len (by omega) (own_rows ndc_len rfl HMo.out.row)).2.2.2.2 _ rfl
        have hone : ∀ u ∈ M.flatMap ndc, u.oneCell' = true := fun u hu => by
          obtain ⟨q, hq, hqu⟩ := List.mem_flatMap.1 hu
          obtain ⟨qa, qc, e⟩ := own_val (HMo.out.kid q hq)
          exact ndc_one q (by rw [e]; rfl) u hqu
        have hfl : (M.flatMap ndc).length = ml * 9 := by rw [flat_len ndc_len M, HMl.out]
        have hmL : ml = L.length := by rw [HMl.out]; simpa using congrArg List.length HMm.out
        have hm0 : 0 < ml := by have := HML.out; omega
        have hmx : ml ≤ 2000 := by omega
        have hrow := HOz.out.row
        rw [← HNl.out] at hrow
        clear hmL
        refine step_append_lies _ rfl (.tmp 28) (.tmp 34) 25 rfl w.heap.size 64 j0 _ 9 96 Try.underlying25 hj0 hy0 hy1 hy2 rfl (by decide) _ nl _ rfl hrow ⟨gM, 0, none⟩ ml cM (M.flatMap ndc) rfl hfl hnews hone hm0 (by unfold maxLen; omega) (by omega) HBz.out.size _ rfl (fun g2 cap2 w2 hown2 hgrow2 hg2 hlt3 => ?_)
        have HP := Lib.hid (NsOwn.join HOz.out HMo.out HBd.out.size (fun u hu k e => ((HOd.out.kid u hu).lt k e).2) (by rw [← HNl.out, ← HMl.out]; exact hown2) hgrow2)
        have HB2 := Lib.hid (HBz.out.trans ((Below.refl w.heap.size z).grown hgrow2 HBz.out.size (fun r hr => (hrow.lt r hr).1)))
        have HR2 := Lib.hid (Keeps.row (keeps_grown hgrow2) HRz.out (fun k e e2 => own_ne HRz.out hrow (by decide) k e e2.symm))
        have H12 := Lib.hid ((keeps_grown hgrow2).obj H1z.out (fun e => own_off hrow H1z.out (by decide) _ e.symm rfl))
        have H22 := Lib.hid ((keeps_grown hgrow2).obj H2z.out (fun e => own_off hrow H2z.out (by decide) _ e.symm rfl))
        clear hown2 hgrow2 hg2 hlt3 hrow hnews hone hfl hm0
        refine hK.out _ _ (cell_later HB2.out HVc.out) (fun hS => ?_)
        clear hK K hS
        try simp only [Act.put, List.setIfInBounds_toArray, List.set_cons_zero, List.set_cons_succ]
        refine wpAnyH_ready (rs := [9]) (by kernel_rfl) (by simp) ?_
        refine AllReadyH.cons (o := ⟨_, _, _, _, _, _⟩) rfl (fun K hK => ?_) AllReadyH.nil
        go_simp
        refine hK.out _ _ (cell_later HB2.out HVc.out) (fun hS => ?_)
        clear hK K hS
        try simp only [Act.put, List.setIfInBounds_toArray, List.set_cons_zero, List.set_cons_succ]
        refine wpAnyH_ready (rs := [10]) (by kernel_rfl) (by simp) ?_
        refine AllReadyH.cons (o := ⟨_, _, _, _, _, _⟩) rfl (fun K hK => ?_) AllReadyH.nil
        obtain ⟨v0, v1, f0, f1⟩ := box_cells H22.out
        go_simp
        have k1 := block_setCell' (k := 1) (u := .slice (some ⟨g2, 0, none⟩) (nl + ml) cap2) H22.out
        have hk1 := (Keeps.refl (fun k => k = G + 1) w2).setCell (p := ⟨G + 1, 1, none⟩) rfl (.slice (some ⟨g2, 0, none⟩) (nl + ml) cap2)
        have HB3 := Lib.hid (HB2.out.trans (Keeps.one_below hk1 HB2.out.size (by have := HG.out; omega)))
        have HP3 := Lib.hid (HP.out.off H22.out hk1)
        have HR3 := Lib.hid (Keeps.row hk1 HR2.out (fun k e => own_off HR2.out H22.out (by decide) k e))
        have H13 := Lib.hid (hk1.obj H12.out (by omega))
        have H23 := Lib.hid k1
        clear k1 hk1 v0 v1 f0 f1
        refine hK.out _ _ (cell_later HB3.out HVc.out) (fun hS => ?_)
        clear hK K hS
        try simp only [Act.put, List.setIfInBounds_toArray, List.set_cons_zero, List.set_cons_succ]
        refine wpAnyH_done (by kernel_rfl) ?_ _
        go_wp2
        have hnl : ((Ls.take i).map List.length).sum = nl := by
          have h1 : N'.length = (ofT 0 (Ls.take i)).length := by simpa using congrArg List.length HM.out
          rw [HNl.out, h1, ofT_len]
        have hti : (Ls.take i).length = i := by rw [List.length_take]; have := HN.out; omega
        refine ⟨⟨i + 1, N' ++ M, .slice av (i + 1) cv, .slice (some ⟨g2, 0, none⟩) (nl + ml) cap2, by go_num, by omega, Lib.hid ?_, Lib.hid ?_, HP3, Lib.hid (by have := H23.out; simpa using this), H13, HB3⟩, by simp [intOf]; omega⟩
        · rw [List.take_add_one, HL.out, Option.toList_some, ofT_snoc, List.map_append, HM.out, List.map_append, HMm.out, hnl, Nat.zero_add]
        · rw [List.take_add_one, HL.out, Option.toList_some, gramR_snoc, hti, hnl, Nat.zero_add, Nat.zero_add, List.flatMap_append]
          exact HR3.out
      · skip
        go_simp
        refine (HMv.out zd HBd.out).mono ?_
        rintro e z ⟨vM, M, rfl, hmM, hoM, hbM⟩
        obtain ⟨aM, cM, rfl⟩ := own_val hoM.row
        have HMm := Lib.hid hmM
        have HMo := Lib.hid hoM
        have HBz := Lib.hid (HBd.out.trans (hbM.mono HBd.out.size))
        have HOz := Lib.hid (HOd.out.later hbM)
        have HRz := Lib.hid (Keeps.row (Keeps.ofNew hbM (fun _ => False)) HRd.out (fun _ _ => id))
        have H1z := Lib.hid ((hbM.block _ (lt_of_block H1d.out)).trans H1d.out)
        have H2z := Lib.hid ((hbM.block _ (lt_of_block H2d.out)).trans H2d.out)
        obtain ⟨ml, hml⟩ : ∃ ml, ml = M.length := ⟨_, rfl⟩
        have HMl := Lib.hid hml
        rw [← hml]
        clear hmM hoM hbM hml
        go_wp2_with fail
        refine hK.out _ _ (cell_later HBz.out HVc.out) (fun hS => ?_)
        clear hK K hS
        try simp only [Act.put, List.setIfInBounds_toArray, List.set_cons_zero, List.set_cons_succ]
        refine wpAnyH_ready (rs := [1]) (by kernel_rfl) (by simp) ?_
        refine AllReadyH.cons (o := ⟨_, _, _, _, _, _⟩) rfl (fun K hK => ?_) AllReadyH.nil
        obtain ⟨v0, v1, f0, f1⟩ := box_cells H2z.out
        go_simp
        refine hK.out _ _ (cell_later HBz.out HVc.out) (fun hS => ?_)
        clear hK K hS v0 v1 f0 f1
        try simp only [Act.put, List.setIfInBounds_toArray, List.set_cons_zero, List.set_cons_succ]
        refine wpAnyH_ready (rs := [8]) (by kernel_rfl) (by simp) ?_
        refine AllReadyH.cons (o := ⟨_, _, _, _, _, _⟩) rfl (fun K hK => ?_) AllReadyH.nil
        obtain ⟨gM, hgM⟩ : ∃ gM, aM = some ⟨gM, 0, none⟩ := by
          have h1 : M.length = L.length := by simpa using congrArg List.length HMm.out
          rcases HMo.out.row.2 with ⟨e, h0⟩ | ⟨g, cap, cur, e, -⟩
          · simp only [Value.slice.injEq] at e
            have := HML.out
            omega
          · simp only [Value.slice.injEq] at e
            exact ⟨g, e.1⟩
        subst hgM
        have hnews := (rows_news ndc_len (by omega) (own_rows ndc_len rfl HMo.out.row)).2.2.2.2 _ rfl
        have hone : ∀ u ∈ M.flatMap ndc, u.oneCell' = true := fun u hu => by
          obtain ⟨q, hq, hqu⟩ := List.mem_flatMap.1 hu
          obtain ⟨qa, qc, e⟩ := own_val (HMo.out.kid q hq)
          exact ndc_one q (by rw [e]; rfl) u hqu
        have hfl : (M.flatMap ndc).length = ml * 9 := by rw [flat_len ndc_len M, HMl.out]
        have hmL : ml = L.length := by rw [HMl.out]; simpa using congrArg List.length HMm.out
        have hm0 : 0 < ml := by have := HML.out; omega
        have hmx : ml ≤ 2000 := by omega
        have hrow := HOz.out.row
        rw [← HNl.out] at hrow
        clear hmL
        refine step_append_lies _ rfl (.tmp 28) (.tmp 34) 25 rfl w.heap.size 64 j0 _ 9 96 Try.underlying25 hj0 hy0 hy1 hy2 rfl (by decide) _ nl _ rfl hrow ⟨gM, 0, none⟩ ml cM (M.flatMap ndc) rfl hfl hnews hone hm0 (by unfold maxLen; omega) (by omega) HBz.out.size _ rfl (fun g2 cap2 w2 hown2 hgrow2 hg2 hlt3 => ?_)
        have HP := Lib.hid (NsOwn.join HOz.out HMo.out HBd.out.size (fun u hu k e => ((HOd.out.kid u hu).lt k e).2) (by rw [← HNl.out, ← HMl.out]; exact hown2) hgrow2)
        have HB2 := Lib.hid (HBz.out.trans ((Below.refl w.heap.size z).grown hgrow2 HBz.out.size (fun r hr => (hrow.lt r hr).1)))
        have HR2 := Lib.hid (Keeps.row (keeps_grown hgrow2) HRz.out (fun k e e2 => own_ne HRz.out hrow (by decide) k e e2.symm))
        have H12 := Lib.hid ((keeps_grown hgrow2).obj H1z.out (fun e => own_off hrow H1z.out (by decide) _ e.symm rfl))
        have H22 := Lib.hid ((keeps_grown hgrow2).obj H2z.out (fun e => own_off hrow H2z.out (by decide) _ e.symm rfl))
        clear hown2 hgrow2 hg2 hlt3 hrow hnews hone hfl hm0
        refine hK.out _ _ (cell_later HB2.out HVc.out) (fun hS => ?_)
        clear hK K hS
        try simp only [Act.put, List.setIfInBounds_toArray, List.set_cons_zero, List.set_cons_succ]
        refine wpAnyH_ready (rs := [9]) (by kernel_rfl) (by simp) ?_
        refine AllReadyH.cons (o := ⟨_, _, _, _, _, _⟩) rfl (fun K hK => ?_) AllReadyH.nil
        go_simp
        refine hK.out _ _ (cell_later HB2.out HVc.out) (fun hS => ?_)
        clear hK K hS
        try simp only [Act.put, List.setIfInBounds_toArray, List.set_cons_zero, List.set_cons_succ]
        refine wpAnyH_ready (rs := [10]) (by kernel_rfl) (by simp) ?_
        refine AllReadyH.cons (o := ⟨_, _, _, _, _, _⟩) rfl (fun K hK => ?_) AllReadyH.nil
        obtain ⟨v0, v1, f0, f1⟩ := box_cells H22.out
        go_simp
        have k1 := block_setCell' (k := 1) (u := .slice (some ⟨g2, 0, none⟩) (nl + ml) cap2) H22.out
        have hk1 := (Keeps.refl (fun k => k = G + 1) w2).setCell (p := ⟨G + 1, 1, none⟩) rfl (.slice (some ⟨g2, 0, none⟩) (nl + ml) cap2)
        have HB3 := Lib.hid (HB2.out.trans (Keeps.one_below hk1 HB2.out.size (by have := HG.out; omega)))
        have HP3 := Lib.hid (HP.out.off H22.out hk1)
        have HR3 := Lib.hid (Keeps.row hk1 HR2.out (fun k e => own_off HR2.out H22.out (by decide) k e))
        have H13 := Lib.hid (hk1.obj H12.out (by omega))
        have H23 := Lib.hid k1
        clear k1 hk1 v0 v1 f0 f1
        refine hK.out _ _ (cell_later HB3.out HVc.out) (fun hS => ?_)
        clear hK K hS
        try simp only [Act.put, List.setIfInBounds_toArray, List.set_cons_zero, List.set_cons_succ]
        refine wpAnyH_done (by kernel_rfl) ?_ _
        go_wp2
        have hnl : ((Ls.take i).map List.length).sum = nl := by
          have h1 : N'.length = (ofT 0 (Ls.take i)).length := by simpa using congrArg List.length HM.out
          rw [HNl.out, h1, ofT_len]
        have hti : (Ls.take i).length = i := by rw [List.length_take]; have := HN.out; omega
        refine ⟨⟨i + 1, N' ++ M, .slice av (i + 1) cv, .slice (some ⟨g2, 0, none⟩) (nl + ml) cap2, by go_num, by omega, Lib.hid ?_, Lib.hid ?_, HP3, Lib.hid (by have := H23.out; simpa using this), H13, HB3⟩, by simp [intOf]; omega⟩
        · rw [List.take_add_one, HL.out, Option.toList_some, ofT_snoc, List.map_append, HM.out, List.map_append, HMm.out, hnl, Nat.zero_add]
        · rw [List.take_add_one, HL.out, Option.toList_some, gramR_snoc, hti, hnl, Nat.zero_add, Nat.zero_add, List.flatMap_append]
          exact HR3.out
    · have hlt2 : ¬ (i : Int) < n := by omega
      obtain ⟨u0, u1, e0, e1⟩ := box_cells H1.out
      go_wp2
      obtain ⟨k2, hk2⟩ := set2g H1.out (.slice ra i rc) (.slice na nl nc)
      obtain ⟨q0, q1, -, -⟩ := box_cells k2
      have hk : i = n := by omega
      have hM := HM.out
      have hR := HR.out
      rw [hk, HN.out, List.take_length] at hM hR
      exact bodyPost_ret (v := .agg #[.slice ra i rc, .slice na nl nc]) (by simp [results, Try.f7, go_sem, q0, q1]) rfl ⟨_, _, N', rfl, hM, Keeps.row hk2 (by rw [hk, HN.out]; exact hR) (fun k e => own_off HR.out H1.out (by decide) k e), HO.out.off H1.out hk2, HB.out.trans (Keeps.one_below hk2 HB.out.size (Nat.le_of_eq HG.out.symm))⟩
end Go.Proofs.Ytkimkghldilliaa
namespace Go.Proofs.Ytkimkghldilliaa
open Go.RowKit Go.Lib

theorem nodeE_sk (E : Nat → Nat → Lv → Ss → Rs) (doc : Bool) (R : List Ru) (W : List UInt8) (x : Nd) : nodeE E doc R W x = nodeE E doc R W (sk x) := by
  funext p L n s
  rfl
theorem ev_sk {doc : Bool} {R : List Ru} {N M : List Nd} {W : List UInt8} (h : N.map sk = M.map sk) : ∀ f, ev doc R N W f = ev doc R M W f
  | 0 => by funext n p L s; rfl
  | f + 1 => by
    funext n p L s
    have ih := ev_sk (doc := doc) (R := R) (W := W) h f
    rw [ev, ev, ih]
    split
    · rfl
    · have h1 : (N[n]?).map sk = (M[n]?).map sk := by rw [← List.getElem?_map, ← List.getElem?_map, h]
      cases h2 : N[n]? with
      | none => rw [h2] at h1; cases h3 : M[n]? with
        | none => rfl
        | some y => rw [h3] at h1; cases h1
      | some x => rw [h2] at h1; cases h3 : M[n]? with
        | none => rw [h3] at h1; cases h1
        | some y =>
          rw [h3] at h1
          simp only [Option.map_some, Option.some.injEq] at h1
          simp only
          rw [nodeE_sk _ _ _ _ x, h1, ← nodeE_sk _ _ _ _ y]
theorem treeAt_sk (len : Nat) : ∀ (N : List Nd) (n : Nat), treeAt len n N = treeAt len n (N.map sk)
  | [], n => rfl
  | x :: r, n => by
    rw [List.map_cons, treeAt, treeAt, ← treeAt_sk len r (n + 1)]
    rfl
theorem right_sk {R : List Ru} {N M : List Nd} (h : N.map sk = M.map sk) : grRight R N = grRight R M := by
  have hl : N.length = M.length := by simpa using congrArg List.length h
  have ha : ∀ (r : Nat) (l : List Nd), l.all (nodeOk r) = (l.map sk).all (nodeOk r) := fun r l => by
    rw [List.all_map]
    rfl
  unfold grRight
  rw [hl, ha R.length N, ha R.length M, h, treeAt_sk M.length N, treeAt_sk M.length M, h]
/-- a node of small numbers, plainly. -/
def NdP (x : Nd) : Prop := x.kids.length ≤ 1000 ∧ x.text.size ≤ 1000 ∧ WI x.kind ∧ (0 ≤ x.c0 ∧ x.c0 < 18446744073709551616) ∧ (0 ≤ x.c1 ∧ x.c1 < 18446744073709551616) ∧ (0 ≤ x.c2 ∧ x.c2 < 18446744073709551616) ∧ (0 ≤ x.c3 ∧ x.c3 < 18446744073709551616)
theorem NdP_sk (x : Nd) : NdP (sk x) ↔ NdP x := Iff.rfl
theorem gr_ok {base : Nat} {w : World} {rv nv : Value} {R : List Ru} {N P : List Nd} (hr : w.ownsRow base 56 2 rv R.length (R.flatMap ruc)) (hn : NsOwn base w nv N) (hm : N.map sk = P.map sk) (hp : ∀ x ∈ P, NdP x) : GrOk w rv nv R N := by
  refine ⟨⟨own_rows ruc_len rfl hr, own_rows ndc_len rfl hn.row, fun x hx => own_cells (iv_oneCell _) (hn.kid x hx)⟩, fun x hx => ?_⟩
  have h1 : sk x ∈ P.map sk := hm ▸ List.mem_map_of_mem hx
  obtain ⟨y, hy, e⟩ := List.mem_map.1 h1
  have h2 : NdP x := (NdP_sk x).1 (e ▸ (NdP_sk y).2 (hp y hy))
  obtain ⟨a1, a2, a3, a4⟩ := h2
  exact ⟨⟨own_val (hn.kid x hx), by unfold maxLen; omega, by unfold maxLen; omega⟩, a3, a4⟩
end Go.Proofs.Ytkimkghldilliaa
namespace Go.Proofs.Ytkimkghldilliaa
open Go.RowKit Go.Lib

def frontL : List UInt8 → List UInt8 → Nat
  | a :: t, b :: u => if b = a then frontL t u + 1 else 0
  | _, _ => 0
theorem frontL_le : ∀ (t u : List UInt8), frontL t u ≤ t.length ∧ frontL t u ≤ u.length
  | [], u => by simp [frontL]
  | a :: t, [] => by simp [frontL]
  | a :: t, b :: u => by
    have := frontL_le t u
    unfold frontL
    split
    · simp; omega
    · simp
theorem frontL_step (t u : List UInt8) (n : Nat) (h : n ≤ frontL t u) : n = frontL t u ∨ (n < t.length ∧ n < u.length ∧ t[n]? = u[n]?) := by
  induction n generalizing t u with
  | zero =>
    match t, u with
    | [], u => left; simp [frontL]
    | a :: t, [] => left; simp [frontL]
    | a :: t, b :: u =>
      by_cases e : b = a
      · right; subst e; simp
      · left; simp [frontL, e]
  | succ n ih =>
    match t, u, h with
    | [], u, h => simp [frontL] at h
    | a :: t, [], h => simp [frontL] at h
    | a :: t, b :: u, h =>
      by_cases e : b = a
      · have h2 : n ≤ frontL t u := by simp [frontL, e] at h; exact h
        rcases ih t u h2 with h3 | h3
        · left; simp [frontL, e, h3]
        · right; simpa using h3
      · simp [frontL, e] at h
theorem frontL_next (t u : List UInt8) (n : Nat) (h : n ≤ frontL t u) (h1 : n < t.length) (h2 : n < u.length) : (t[n]? = u[n]? → n + 1 ≤ frontL t u) ∧ (t[n]? ≠ u[n]? → n = frontL t u) := by
  induction n generalizing t u with
  | zero =>
    match t, u, h1, h2 with
    | a :: t, b :: u, _, _ =>
      by_cases e : b = a
      · subst e; simp [frontL]
      · refine ⟨fun h3 => ?_, fun _ => by simp [frontL, e]⟩
        simp at h3
        exact absurd h3.symm e
  | succ n ih =>
    match t, u, h1, h2 with
    | a :: t, b :: u, h1, h2 =>
      by_cases e : b = a
      · have h3 : n ≤ frontL t u := by simp [frontL, e] at h; exact h
        have := ih t u h3 (by simpa using h1) (by simpa using h2)
        simp only [List.getElem?_cons_succ, frontL, e, if_true]
        exact ⟨fun h4 => by have := this.1 h4; omega, fun h4 => by have := this.2 h4; omega⟩
      · simp [frontL, e] at h
set_option maxRecDepth 100000 in
set_option maxHeartbeats 4000000 in
theorem front_any (s : ByteArray) (wv : Value) (W : List UInt8) (p : Nat) (w : World) (h : BytesAt w wv W) (hp : p ≤ W.length) (hs : s.size ≤ 64) (hW : W.length ≤ 2048) :
    Calls Try.prog 13 #[.string s, wv, .int .i64 p] w fun e w' => e = .returned (.int .i64 (frontL s.data.toList (W.drop p))) ∧ Below w.heap.size w w' := by
  obtain ⟨ao, b, off, cap, rfl, hl, hm, hnil, hao, hc⟩ := h
  have HC := Lib.hid hc
  have HA := Lib.hid hao
  have HL := Lib.hid (frontL_le s.data.toList (W.drop p))
  have HN := Lib.hid (frontL_next s.data.toList (W.drop p))
  obtain ⟨r, hr⟩ : ∃ r, r = frontL s.data.toList (W.drop p) := ⟨_, rfl⟩
  rw [← hr] at HL HN ⊢
  obtain ⟨wl, hwl⟩ : ∃ wl, wl = W.length := ⟨_, rfl⟩
  have HWl := Lib.hid hwl
  rw [← hwl] at hl hp hW ⊢
  have HS := Lib.hid (show s.data.toList.length = s.size from by simp)
  have hr1 : r ≤ s.size := by rw [← HS.out]; exact HL.out.1
  have hr2 : p + r ≤ wl := by have := HL.out.2; rw [List.length_drop] at this; omega
  clear hr hwl hc hao hnil hl hm
  go_enter Try.func13, Try.ntmps13
  go_wp2
  go_loopw [7] (fun a wr => ∃ n : Nat, a = .int .i64 n ∧ n ≤ r ∧ Hid (Below w.heap.size w wr)) (fun a _ => r - (intOf a).toNat)
  case atStart => exact ⟨0, rfl, Nat.zero_le _, Lib.hid (Below.refl _ _)⟩
  case round =>
    obtain ⟨n, rfl, hn, HB⟩ := hrel
    have hstr := str_byte s n
    by_cases h1 : n < s.size
    · by_cases h2 : p + n < wl
      · have h1z : (n : Int) < s.size := by omega
        have h2z : (p : Int) + n < wl := by omega
        obtain rfl := HA.out (by rw [← HWl.out]; omega)
        have hcell := cell_later HB.out (HC.out (p + n) (by rw [← HWl.out]; exact h2))
        have hs1 := hstr h1
        have hx : ((p : Int) + (n : Int)).toNat = p + n := by omega
        have hw1 : IntKind.i64.wrap ((p : Int) + (n : Int)) = ((p + n : Nat) : Int) := by rw [IntWalk.i64_in _ (by omega)]; omega
        have HBy := Lib.hid hs1
        obtain ⟨x, hx1⟩ : ∃ x, x = W[p + n]'(by rw [← HWl.out]; exact h2) := ⟨_, rfl⟩
        obtain ⟨y, hy1⟩ : ∃ y, y = s.data.toList[n]'(by rw [HS.out]; exact h1) := ⟨_, rfl⟩
        rw [← hx1] at hcell
        have hs2 : ∀ w, (Instr.index 9 (.string s) (.int .i64 n)).run Try.prog w = .ok (.int .u8 y.toNat) w := fun w => by rw [hy1]; exact hs1 w
        have hnx := HN.out n hn (by rw [HS.out]; exact h1) (by rw [List.length_drop]; have := HWl.out; omega)
        rw [List.getElem?_eq_getElem (by rw [HS.out]; exact h1), List.getElem?_drop, List.getElem?_eq_getElem (by rw [← HWl.out]; exact h2), ← hx1, ← hy1] at hnx
        have HNx := Lib.hid hnx
        have HH := Lib.hid hw1
        clear hx1 hy1 hs1 hstr hnx HBy
        go_upto_region 2 with (fail)
        go_quiet (fail)
        by_cases hxy : x = y
        · subst hxy
          have h3 := HNx.out.1 rfl
          go_wp2
          go_roundw
          case measure => simp [intOf]; omega
          case rel => exact ⟨n + 1, by go_num, h3, Lib.hid (below_draws HB.out _)⟩
        · have h3 := HNx.out.2 (fun e => hxy (by simpa using e.symm))
          have h4 : ((x.toNat : Int) == (y.toNat : Int)) = false := by
            rw [beq_eq_false_iff_ne]
            intro e
            exact hxy (UInt8.toNat_inj.1 (by exact_mod_cast e))
          have h5 : ¬ ((x.toNat : Int) = (y.toNat : Int)) := by simpa using h4
          have H3 := Lib.hid h3
          clear h3
          go_wp2
          go_ret
          have e := H3.out
          subst e
          exact ⟨rfl, below_draws HB.out _⟩
      · have h1z : (n : Int) < s.size := by omega
        have h2z : ¬ (p : Int) + n < wl := by omega
        go_upto_region 2 with (fail)
        go_quiet (fail)
        go_wp2
        go_ret
        have e : n = r := by omega
        subst e
        exact ⟨rfl, below_draws HB.out _⟩
    · have h1z : ¬ (n : Int) < s.size := by omega
      go_upto_region 2 with (fail)
      go_quiet (fail)
      go_wp2
      go_ret
      have e : n = r := by omega
      subst e
      exact ⟨rfl, below_draws HB.out _⟩
end Go.Proofs.Ytkimkghldilliaa
namespace Go.Proofs.Ytkimkghldilliaa
open Go.RowKit Go.Lib

/-- A <- A x / y. -/
def leftLs (x y : ByteArray) : List (List Nd) := [ofN 7 [ofN 6 [[callN 0 0], [wordN x]], [wordN y]]]
def leftN (x y : ByteArray) : List Nd := [bare 7 [1, 4], bare 6 [2, 3], callN 0 0, wordN x, wordN y]
theorem leftN_eq (x y : ByteArray) : ofT 0 (leftLs x y) = leftN x y := rfl
def leftR : List Ru := [⟨nameN 0, 0⟩]
theorem leftR_eq (x y : ByteArray) : gramR 0 0 (leftLs x y) = leftR := rfl
def exN : List Nd := leftN ⟨#[97]⟩ ⟨#[98]⟩
def exW : List UInt8 := [98, 97, 97, 99]
def exA : Option (Fo × Ss) := freshE (ev false leftR exN exW 100) false [] 0 0 0 0 101 ⟨100, false⟩
theorem exA_eq : exA = some (.hit ⟨3, 3, 1, [⟨0, 0, 0, 3, 1⟩, ⟨0, 0, 0, 2, 1⟩, ⟨0, 0, 0, 1, 0⟩]⟩, ⟨83, false⟩) := by kernel_rfl
theorem exB_eq : freshE (ev false leftR exN exW 8) false [] 0 1 0 0 9 ⟨8, false⟩ = some (.hit ⟨1, -1, 1, [⟨0, 1, 0, 1, 0⟩]⟩, ⟨0, false⟩) := by kernel_rfl
theorem exC_ok : (freshE (ev false leftR exN exW 7) false [] 0 1 0 0 8 ⟨7, false⟩).map (fun q => q.2.over) = some true := by kernel_rfl
theorem exC_ex : ∃ r s, freshE (ev false leftR exN exW 7) false [] 0 1 0 0 8 ⟨7, false⟩ = some (r, s) ∧ s.over = true := by
  have h := exC_ok
  cases e : freshE (ev false leftR exN exW 7) false [] 0 1 0 0 8 ⟨7, false⟩ with
  | none => rw [e] at h; cases h
  | some q =>
    rw [e] at h
    simp only [Option.map_some, Option.some.injEq] at h
    exact ⟨q.1, q.2, rfl, h⟩
theorem exR : grRight leftR exN = true := by kernel_rfl
end Go.Proofs.Ytkimkghldilliaa
namespace Go.Proofs.Ytkimkghldilliaa
open Go.RowKit Go.Lib

/-- a text's match: by what is in common with the input's rest. -/
theorem textAt_front (W : List UInt8) : ∀ (t : List UInt8) (p : Nat), textAt W t p = if frontL t (W.drop p) = t.length then .hit (upTo (p + t.length)) else .miss ((p + frontL t (W.drop p) : Nat) : Int)
  | [], p => by simp [textAt, frontL]
  | c :: t, p => by
    rw [textAt]
    cases h : W[p]? with
    | none =>
      have h1 : W.drop p = [] := List.drop_eq_nil_of_le (List.getElem?_eq_none_iff.1 h)
      rw [h1]
      simp [frontL]
    | some d =>
      obtain ⟨h1, h2⟩ := List.getElem?_eq_some_iff.1 h
      have h3 : W.drop p = d :: W.drop (p + 1) := by rw [← h2]; exact List.drop_eq_getElem_cons h1
      rw [h3]
      by_cases e : d = c
      · subst e
        rw [if_pos rfl, textAt_front W t (p + 1)]
        simp only [frontL, if_true, List.length_cons]
        by_cases e2 : frontL t (W.drop (p + 1)) = t.length
        · rw [if_pos e2, if_pos (by omega), show p + 1 + t.length = p + (t.length + 1) by omega]
        · rw [if_neg e2, if_neg (by omega), show p + 1 + frontL t (W.drop (p + 1)) = p + (frontL t (W.drop (p + 1)) + 1) by omega]
      · rw [if_neg (by simpa using e)]
        simp [frontL, e]
/-- what the last way of a choice gives. -/
def lastWay (far : Int) : Fo → Fo
  | .miss fr => .miss (max far fr)
  | .hit h => .hit (h.tried (max far h.far))
theorem left_none (x y : ByteArray) (W : List UInt8) (f p l : Nat) : ev false leftR (leftN x y) W (f + 3) 0 p [((0, (p : Int)), none)] ⟨l + 4, false⟩ = some (lastWay (-1) (textAt W y.data.toList p), ⟨l, false⟩) := by
  cases h : textAt W y.data.toList p <;> simp [ev, nodeE, leftN, bare, callN, wordN, altE, seqE, callE, upTo, List.lookup, h, lastWay]
/-- the call's twig over a seed. -/
def seedTw (p e : Nat) (t : List Tw) : List Tw := ⟨0, 0, p, e, (topR t).length⟩ :: t
theorem textAt_hit {W : List UInt8} {t : List UInt8} {p : Nat} {h : Ht} (e : textAt W t p = .hit h) : h = upTo (p + t.length) := by
  rw [textAt_front] at e
  split at e
  · exact (Fo.hit.inj e).symm
  · cases e
theorem left_grows (x y : ByteArray) (W : List UInt8) (f p e l : Nat) (t : List Tw) (ht : t.length + 1 ≤ lim) (hx : textAt W x.data.toList e = .hit (upTo (e + x.data.toList.length))) : ev false leftR (leftN x y) W (f + 3) 0 p [((0, (p : Int)), some ⟨e, 0, t⟩)] ⟨l + 4, false⟩ = some (.hit ⟨e + x.data.toList.length, -1, 1, seedTw p e t⟩, ⟨l, false⟩) := by
  have h1 : (seedTw p e t).length ≤ lim := by simpa [seedTw] using ht
  simp [ev, nodeE, leftN, bare, callN, wordN, altE, seqE, callE, upTo, List.lookup, hx, Ht.called, Ht.then, Ht.tried, seedTw, ht]
theorem left_ends (x y : ByteArray) (W : List UInt8) (f p e l : Nat) (t : List Tw) (fr : Int) (ht : t.length + 1 ≤ lim) (hx : textAt W x.data.toList e = .miss fr) (hf : 0 ≤ fr) : ev false leftR (leftN x y) W (f + 3) 0 p [((0, (p : Int)), some ⟨e, 0, t⟩)] ⟨l + 5, false⟩ = some (lastWay fr (textAt W y.data.toList p), ⟨l, false⟩) := by
  have h2 : max (-1) (max fr (-1)) = fr := by omega
  cases h : textAt W y.data.toList p <;> simp [ev, nodeE, leftN, bare, callN, wordN, altE, seqE, callE, upTo, List.lookup, hx, Ht.called, Ht.then, Ht.tried, ht, h, lastWay, h2]
end Go.Proofs.Ytkimkghldilliaa
namespace Go.Proofs.Ytkimkghldilliaa
open Go.RowKit Go.Lib

/-- grown so many times. -/
def gH (p X : Nat) : Nat → Ht → Ht
  | 0, h => h
  | m + 1, h => gH p X m ⟨h.en + X, -1, 1, seedTw p h.en h.forest⟩
theorem growE_left (x y : ByteArray) (W : List UInt8) (f p e0 : Nat) (hy : textAt W y.data.toList p = .hit (upTo e0)) (fr : Int) (hf : 0 ≤ fr) (hX : 0 < x.data.toList.length) : ∀ (m n l : Nat) (last next : Ht) (far : Int), -1 ≤ far → e0 ≤ next.en → next.forest.length + m + 1 ≤ lim →
    (∀ i, i < m → textAt W x.data.toList (next.en + i * x.data.toList.length) = .hit (upTo (next.en + i * x.data.toList.length + x.data.toList.length))) → textAt W x.data.toList (next.en + m * x.data.toList.length) = .miss fr →
    growE (ev false leftR (leftN x y) W (f + 3)) false [] 0 0 p 0 (n + m + 1) last next far ⟨l + 4 * m + 5, false⟩ = some (gH p x.data.toList.length m next, max far fr, ⟨l, false⟩)
  | 0, n, l, last, next, far, h1, h2, h3, h4, h5 => by
    rw [Nat.zero_mul, Nat.add_zero] at h5
    have h6 := left_ends x y W f p next.en l next.forest fr (by omega) h5 hf
    rw [hy] at h6
    have h7 : (lastWay fr (.hit (upTo e0))) = .hit ⟨e0, max (-1) (max fr (-1)), 0, []⟩ := rfl
    rw [h7] at h6
    have h8 : max (-1) (max fr (-1)) = fr := by omega
    rw [h8] at h6
    rw [Nat.add_zero, growE, if_neg (by simp), List.nil_append, h6]
    simp only
    rw [if_pos h2]
    rfl
  | m + 1, n, l, last, next, far, h1, h2, h3, h4, h5 => by
    have h6 := left_grows x y W f p next.en (l + 4 * m + 5) next.forest (by omega) (by have := h4 0 (by omega); simpa using this)
    rw [show l + 4 * (m + 1) + 5 = l + 4 * m + 5 + 4 by omega, show n + (m + 1) + 1 = (n + m + 1) + 1 by omega, growE, if_neg (by simp), List.nil_append, h6]
    simp only
    rw [if_neg (by omega), show max far (-1) = far by omega]
    have h9 : ∀ i, next.en + x.data.toList.length + i * x.data.toList.length = next.en + (i + 1) * x.data.toList.length := fun i => by rw [Nat.add_mul]; omega
    exact growE_left x y W f p e0 hy fr hf hX m n l next ⟨next.en + x.data.toList.length, -1, 1, seedTw p next.en next.forest⟩ far h1 (by simp only; omega) (by simp only [seedTw, List.length_cons]; omega) (fun i hi => by simp only; rw [h9]; exact h4 (i + 1) (by omega)) (by simp only; rw [h9]; exact h5)
theorem left_miss (x y : ByteArray) (W : List UInt8) (f p l n : Nat) (lev fr : Int) (hf : -1 ≤ fr) (hy : textAt W y.data.toList p = .miss fr) : freshE (ev false leftR (leftN x y) W (f + 3)) false [] 0 lev p 0 n ⟨l + 4, false⟩ = some (.miss fr, ⟨l, false⟩) := by
  rw [freshE, List.nil_append, left_none, hy]
  simp only [lastWay]
  rw [show max (-1) fr = fr by omega]
theorem left_hit (x y : ByteArray) (W : List UInt8) (f p l n m : Nat) (e0 : Nat) (fr : Int) (hf : 0 ≤ fr) (hX : 0 < x.data.toList.length) (hy : textAt W y.data.toList p = .hit (upTo e0)) (hm : m + 2 ≤ lim)
    (hx : ∀ i, i < m → textAt W x.data.toList (e0 + i * x.data.toList.length) = .hit (upTo (e0 + i * x.data.toList.length + x.data.toList.length))) (hz : textAt W x.data.toList (e0 + m * x.data.toList.length) = .miss fr) (g : Ht)
    (hg : ((gH p x.data.toList.length m ⟨e0, -1, 0, []⟩).tried fr).called 0 0 p = some g) :
    freshE (ev false leftR (leftN x y) W (f + 3)) false [] 0 0 p 0 (n + m + 1) ⟨l + 4 * m + 5 + 4, false⟩ = some (.hit g, ⟨l, false⟩) := by
  rw [freshE, List.nil_append, left_none, hy]
  have h7 : (lastWay (-1) (.hit (upTo e0))) = .hit ⟨e0, -1, 0, []⟩ := rfl
  rw [h7]
  simp only
  rw [growE_left x y W f p e0 hy fr hf hX m n l ⟨e0, -1, 0, []⟩ ⟨e0, -1, 0, []⟩ (-1) (by omega) (Nat.le_refl _) (by simp only [List.length_nil]; omega) hx hz]
  simp only
  rw [show max (-1) fr = fr by omega, hg]
theorem left_deaf (x y : ByteArray) (W : List UInt8) (f p e l : Nat) (lev : Int) (hl : 0 < lev) (t : List Tw) : ev false leftR (leftN x y) W (f + 3) 0 p [((0, (p : Int)), some ⟨e, lev, t⟩)] ⟨l + 4, false⟩ = some (lastWay (-1) (textAt W y.data.toList p), ⟨l, false⟩) := by
  have h0 : ¬ lev ≤ 0 := by omega
  cases h : textAt W y.data.toList p <;> simp [ev, nodeE, leftN, bare, callN, wordN, altE, seqE, callE, upTo, List.lookup, h, lastWay, h0]
theorem left_high (x y : ByteArray) (W : List UInt8) (f p l n : Nat) (lev : Int) (hl : 0 < lev) (e0 : Nat) (hy : textAt W y.data.toList p = .hit (upTo e0)) :
    freshE (ev false leftR (leftN x y) W (f + 3)) false [] 0 lev p 0 (n + 1) ⟨l + 4 + 4, false⟩ = some (.hit ⟨e0, -1, 1, [⟨0, lev, p, e0, 0⟩]⟩, ⟨l, false⟩) := by
  rw [freshE, List.nil_append, left_none, hy]
  have h7 : (lastWay (-1) (.hit (upTo e0))) = .hit ⟨e0, -1, 0, []⟩ := rfl
  rw [h7]
  simp only
  rw [growE, if_neg (by simp), List.nil_append, left_deaf x y W f p e0 l lev hl [], hy, h7]
  simp [Ht.tried, Ht.called, lim]
end Go.Proofs.Ytkimkghldilliaa
namespace Go.Proofs.Ytkimkghldilliaa
open Go.RowKit Go.Lib

def chain (p e0 X : Nat) : Nat → List Tw
  | 0 => []
  | i + 1 => ⟨0, 0, p, ((e0 + i * X : Nat) : Int), if i = 0 then 0 else 1⟩ :: chain p e0 X i
theorem chain_len (p e0 X : Nat) : ∀ m, (chain p e0 X m).length = m
  | 0 => rfl
  | m + 1 => by simp [chain, chain_len p e0 X m]
theorem chain_at (p e0 X : Nat) : ∀ (m j : Nat), j < m → atT (chain p e0 X m) j = ⟨0, 0, p, ((e0 + (m - 1 - j) * X : Nat) : Int), if m - 1 - j = 0 then 0 else 1⟩
  | 0, j, h => by omega
  | m + 1, 0, h => by simp [atT, chain]
  | m + 1, j + 1, h => by
    have := chain_at p e0 X m j (by omega)
    rw [show m + 1 - 1 - (j + 1) = m - 1 - j by omega, ← this]
    simp [atT, chain]
theorem chain_for (p e0 X m : Nat) (hp : p ≤ e0) (lo hi a : Int) : ∀ (d j : Nat), j + d = m → 0 < d → lo ≤ p → a ≤ p → ((e0 + (m - 1 - j) * X : Nat) : Int) ≤ hi → For (chain p e0 X m) lo hi a j m [j]
  | d, j, hd, h0, h1, h2, h3 => by
    have hj : j < m := by omega
    have hat := chain_at p e0 X m j hj
    have hle : p ≤ e0 + (m - 1 - j) * X := Nat.le_trans hp (Nat.le_add_right _ _)
    by_cases hl : j + 1 = m
    · have hz : m - 1 - j = 0 := by omega
      refine .cons (m := m) (ks := []) (by rw [chain_len]; exact hj) ?_ (by rw [hat]; exact h1) (by rw [hat]; exact h3) (by rw [hat]; exact h2) (by rw [hl]; exact .nil) (by rw [hat, hz]; rfl) .nil
      rw [hat, hz]
      simp [okT]
      omega
    · have hz : m - 1 - j ≠ 0 := by omega
      refine .cons (m := m) (ks := [j + 1]) (by rw [chain_len]; exact hj) ?_ (by rw [hat]; exact h1) (by rw [hat]; exact h3) (by rw [hat]; exact h2) ?_ (by rw [hat]; simp [hz]) .nil
      · rw [hat]
        simp [okT, hz]
        omega
      · rw [hat]
        exact chain_for p e0 X m hp _ _ _ (d - 1) (j + 1) (by omega) (by omega) (Int.le_refl _) (Int.le_refl _) (by
          have : (m - 1 - (j + 1)) * X ≤ (m - 1 - j) * X := Nat.mul_le_mul_right _ (by omega)
          simp only
          omega)
  termination_by d => d
theorem chain_top (p e0 X m : Nat) (hp : p ≤ e0) (hs : e0 + (m - 1) * X ≤ 9223372036854775807) (hm : 0 < m) : (topR (chain p e0 X m)).length = 1 := by
  have h := chain_for p e0 X m hp 0 9223372036854775807 0 m 0 (by omega) hm (by omega) (by omega) (by simp only [Nat.sub_zero]; omega)
  have h2 : For (chain p e0 X m) 0 9223372036854775807 0 0 (chain p e0 X m).length [0] := by rw [chain_len]; exact h
  rw [topR_of ((rightB_iff _).2 ⟨_, h2⟩) h2]
  rfl
theorem top_nil : topR [] = [] := by
  have := top_le []
  exact List.eq_nil_of_length_eq_zero (by simpa using this)
/-- what is grown m times, from i times on. -/
theorem gH_chain (p e0 X : Nat) (hp : p ≤ e0) : ∀ (m i : Nat) (h : Ht), e0 + (i + m) * X ≤ 9223372036854775807 → h.en = e0 + i * X → h.forest = chain p e0 X i → (gH p X m h).en = e0 + (i + m) * X ∧ (gH p X m h).forest = chain p e0 X (i + m)
  | 0, i, h, hs, h1, h2 => ⟨h1, h2⟩
  | m + 1, i, h, hs, h1, h2 => by
    have h3 := gH_chain p e0 X hp m (i + 1) ⟨h.en + X, -1, 1, seedTw p h.en h.forest⟩ (by rw [show i + 1 + m = i + (m + 1) by omega]; exact hs) (by simp only; rw [h1, Nat.add_mul]; omega) (by
      simp only [seedTw, chain, h1, h2]
      by_cases hi : i = 0
      · subst hi; simp [chain, top_nil]
      · rw [chain_top p e0 X i hp (by
          have : (i - 1) * X ≤ (i + (m + 1)) * X := Nat.mul_le_mul_right _ (by omega)
          omega) (by omega)]
        simp [hi])
    rw [show i + (m + 1) = i + 1 + m by omega]
    exact h3
end Go.Proofs.Ytkimkghldilliaa
