/-
  mean: a pair grows.
-/
import Derived.Test.YtkimkghldilliaaGreatMnJ
namespace Go.Proofs.YtkimkghldilliaaGreat
open Go.RowKit Go.Lib

theorem TwIn.val' {w : World} {v : Value} {l : List Tw} (h : TwIn w v l) : ∃ a c, v = .slice a l.length c := h.1.val
theorem four_made (w : World) (o1 o2 o3 o4 : Obj) : Below w.heap.size w ((((w.alloc o1).alloc o2).alloc o3).alloc o4) ∧ ((((w.alloc o1).alloc o2).alloc o3).alloc o4).heap[w.heap.size]? = some o1 ∧ ((((w.alloc o1).alloc o2).alloc o3).alloc o4).heap[w.heap.size + 1]? = some o2 ∧ ((((w.alloc o1).alloc o2).alloc o3).alloc o4).heap[w.heap.size + 1 + 1]? = some o3 ∧ ((((w.alloc o1).alloc o2).alloc o3).alloc o4).heap[w.heap.size + 1 + 1 + 1]? = some o4 := by
  obtain ⟨h1, h2, h3⟩ := two_new w o1 o2
  obtain ⟨k1, k2, k3⟩ := two_new ((w.alloc o1).alloc o2) o3 o4
  refine ⟨h1.trans (k1.mono h1.size), (k1.block _ (lt_of_block h2)).trans h2, (k1.block _ (lt_of_block h3)).trans h3, ?_, ?_⟩
  · simpa using k2
  · simpa using k3
set_option maxRecDepth 100000 in
set_option maxHeartbeats 16000000 in
theorem tryGrow_any {C : Cx} (hC : CxOk C) {f : Nat} (hM : MatchC C f) : GrowC C f := by
  intro rule lev p ru F st r st' w h hL hp hr0 hru hlv hap hl he
  obtain ⟨rN, rfl⟩ : ∃ rN : Nat, rule = rN := ⟨rule.toNat, (Int.toNat_of_nonneg hr0).symm⟩
  rw [Int.toNat_natCast] at hru
  have hrR : rN < C.R.length := (List.getElem?_eq_some_iff.1 hru).1
  have hr32 : (0 : Int) ≤ (rN : Int) ∧ (rN : Int) < 32 := ⟨hr0, by have := hC.gv.few; omega⟩
  have H := Lib.hid h
  have HL := Lib.hid hL
  have HE := Lib.hid he
  have HR := Lib.hid hr32
  have HAp := Lib.hid hap
  have HPw := Lib.hid hp
  have HLv := Lib.hid hlv
  have HW64 := Lib.hid (w64_pair hr32 (Nat.le_trans hp hC.hW))
  have HEv := Lib.hid (ev_ok (doc := false) hC.gv hC.hW f)
  have HHC := Lib.hid hC
  have HMM := Lib.hid hM
  have HRu := Lib.hid hru
  have HBody := Lib.hid (fun (F : Live) (hL : LiveOk C F) b4 b5 b7 (st st' : Ss) (r : Fo) z h hl h4 h5 h7 he => body_any hC hM (F := F) hL hru hp (b4 := b4) (b5 := b5) (b7 := b7) (st := st) (st' := st') (r := r) z h hl h4 h5 h7 he)
  obtain ⟨tb, htb⟩ : ∃ tb, tb = C.tb := ⟨_, rfl⟩
  have HTb := Lib.hid htb
  rw [← htb] at HBody ⊢
  clear h hC hM hL hp hr0 hru hlv hap he hrR hr32 htb
  go_enter Tryz.func25, Tryz.ntmps25
  go_upto_region 1 with (fail)
  obtain ⟨X, hX⟩ : ∃ X, X = w.heap.size := ⟨_, rfl⟩
  refine gen_world (S := fun u => Below w.heap.size w u ∧ u.heap[X]? = some (.cells #[.pointer (some ⟨tb, 0, none⟩)] 65 (0, 0)) ∧ u.heap[X + 1]? = some (.cells #[.int .i64 rN] 3 (0, 0)) ∧ u.heap[X + 1 + 1]? = some (.cells #[.int .i64 p] 3 (0, 0)) ∧ u.heap[X + 1 + 1 + 1]? = some (.cells #[.bool false, .int .i64 0, .int .i64 0, .int .i64 0, .slice none 0 0] 73 (0, 0))) (by rw [hX]; exact four_made w _ _ _ _) (fun u hu => ?_)
  rw [← hX]
  obtain ⟨hb, h4, h5, h7, h8⟩ := hu
  have HX := Lib.hid hX
  have HT := Lib.hid (H.out.later hb)
  have HK := Lib.hid (KeepT.ofBelow hb : KeepT C.w0.heap.size TTm true w u)
  have H4 := Lib.hid h4
  have H5 := Lib.hid h5
  have H7 := Lib.hid h7
  have H8 := Lib.hid h8
  obtain ⟨sv, hst⟩ := HT.out.sto
  have HSt := Lib.hid hst
  have HFew := Lib.hid (few_pairs HHC.out HL.out hst.apart)
  clear hb h4 h5 h7 h8 hX hst
  have hS0 : u.drew.heap[X]? = some (.cells #[.pointer (some ⟨tb, 0, none⟩)] 65 (0, 0)) ∧ u.drew.heap[X + 1]? = some (.cells #[.int .i64 rN] 3 (0, 0)) ∧ u.drew.heap[X + 1 + 1]? = some (.cells #[.int .i64 p] 3 (0, 0)) ∧ u.drew.cell? ⟨tb, 6, none⟩ = some (.pointer (some ⟨C.s, 0, none⟩)) := ⟨H4.out, H5.out, H7.out, by have := HT.out.cells.2.2.2.2.2.2; rw [← HTb.out] at this; exact this⟩
  refine wp_region_held_drew (S := fun z => z.heap[X]? = some (.cells #[.pointer (some ⟨tb, 0, none⟩)] 65 (0, 0)) ∧ z.heap[X + 1]? = some (.cells #[.int .i64 rN] 3 (0, 0)) ∧ z.heap[X + 1 + 1]? = some (.cells #[.int .i64 p] 3 (0, 0)) ∧ z.cell? ⟨tb, 6, none⟩ = some (.pointer (some ⟨C.s, 0, none⟩))) (by kernel_rfl) hS0 (fun hS => ?_)
  clear hS0
  refine wpAnyH_take (i := 0) (oi := ⟨_, _, _, _, _, _⟩) (v := ?v1) rfl (by kernel_rfl) (by kernel_rfl) (by kernel_rfl) (fun _ _ _ h => h) ?y1 hS ?_
  case y1 => first | (refine Or.inr ⟨by rfl, ?_⟩; with_reducible rfl) | (refine Or.inl ⟨by rfl, ?_⟩; intro wS hSw; obtain ⟨hSa, hSb, hSc, t6⟩ := hSw; have q4 := box_one hSa; have q5 := box_one hSb; have q7 := box_one hSc; go_simp; try with_reducible rfl)
  simp only [Act.put, List.setIfInBounds_toArray, List.set_cons_zero, List.set_cons_succ]
  refine wpAnyH_take (i := 1) (oi := ⟨_, _, _, _, _, _⟩) (v := ?v2) rfl (by kernel_rfl) (by kernel_rfl) (by kernel_rfl) (fun _ _ _ h => h) ?y2 hS ?_
  case y2 => first | (refine Or.inr ⟨by rfl, ?_⟩; with_reducible rfl) | (refine Or.inl ⟨by rfl, ?_⟩; intro wS hSw; obtain ⟨hSa, hSb, hSc, t6⟩ := hSw; have q4 := box_one hSa; have q5 := box_one hSb; have q7 := box_one hSc; go_simp; try with_reducible rfl)
  simp only [Act.put, List.setIfInBounds_toArray, List.set_cons_zero, List.set_cons_succ]
  refine wpAnyH_take (i := 2) (oi := ⟨_, _, _, _, _, _⟩) (v := ?v3) rfl (by kernel_rfl) (by kernel_rfl) (by kernel_rfl) (fun _ _ _ h => h) ?y3 hS ?_
  case y3 => first | (refine Or.inr ⟨by rfl, ?_⟩; with_reducible rfl) | (refine Or.inl ⟨by rfl, ?_⟩; intro wS hSw; obtain ⟨hSa, hSb, hSc, t6⟩ := hSw; have q4 := box_one hSa; have q5 := box_one hSb; have q7 := box_one hSc; go_simp; try with_reducible rfl)
  simp only [Act.put, List.setIfInBounds_toArray, List.set_cons_zero, List.set_cons_succ]
  refine wpAnyH_take (i := 3) (oi := ⟨_, _, _, _, _, _⟩) (v := ?v4) rfl (by kernel_rfl) (by kernel_rfl) (by kernel_rfl) (fun _ _ _ h => h) ?y4 hS ?_
  case y4 => first | (refine Or.inr ⟨by rfl, ?_⟩; with_reducible rfl) | (refine Or.inl ⟨by rfl, ?_⟩; intro wS hSw; obtain ⟨hSa, hSb, hSc, t6⟩ := hSw; have q4 := box_one hSa; have q5 := box_one hSb; have q7 := box_one hSc; go_simp; try with_reducible rfl)
  simp only [Act.put, List.setIfInBounds_toArray, List.set_cons_zero, List.set_cons_succ]
  refine wpAnyH_take (i := 4) (oi := ⟨_, _, _, _, _, _⟩) (v := ?v5) rfl (by kernel_rfl) (by kernel_rfl) (by kernel_rfl) (fun _ _ _ h => h) ?y5 hS ?_
  case y5 => first | (refine Or.inr ⟨by rfl, ?_⟩; with_reducible rfl) | (refine Or.inl ⟨by rfl, ?_⟩; intro wS hSw; obtain ⟨hSa, hSb, hSc, t6⟩ := hSw; have q4 := box_one hSa; have q5 := box_one hSb; have q7 := box_one hSc; go_simp; try with_reducible rfl)
  simp only [Act.put, List.setIfInBounds_toArray, List.set_cons_zero, List.set_cons_succ]
  refine wpAnyH_take (i := 5) (oi := ⟨_, _, _, _, _, _⟩) (v := ?v6) rfl (by kernel_rfl) (by kernel_rfl) (by kernel_rfl) (fun _ _ _ h => h) ?y6 hS ?_
  case y6 => first | (refine Or.inr ⟨by rfl, ?_⟩; with_reducible rfl) | (refine Or.inl ⟨by rfl, ?_⟩; intro wS hSw; obtain ⟨hSa, hSb, hSc, t6⟩ := hSw; have q4 := box_one hSa; have q5 := box_one hSb; have q7 := box_one hSc; go_simp; try with_reducible rfl)
  simp only [Act.put, List.setIfInBounds_toArray, List.set_cons_zero, List.set_cons_succ]
  refine wpAnyH_ready (rs := [6]) (by kernel_rfl) (by simp) ?_
  refine AllReadyH.cons (o := ⟨_, _, _, _, _, _⟩) rfl (fun K hK => ?_) AllReadyH.nil
  go_simp
  refine (st_begin (p := ((rN : Int), (p : Int))) _ (HSt.out.later (Below.refl u.heap.size u).drew) HAp.out HW64.out HFew.out).mono ?_
  rintro e z ⟨rfl, hst2, hk2⟩
  have hk3 : KeepT C.w0.heap.size [130, 175] true u z := KeepT.trans (KeepT.ofBelow (Below.refl u.heap.size u).drew) hk2
  obtain ⟨htz, hkz⟩ := HT.out.stored (fun t h => h) hk3 hst2
  have HTz := Lib.hid htz
  have HKz := Lib.hid (KeepT.tra HK.out hkz)
  have H4z := Lib.hid (hkz.cells H4.out (by decide))
  have H5z := Lib.hid (hkz.cells H5.out (by decide))
  have H7z := Lib.hid (hkz.cells H7.out (by decide))
  have H8z := Lib.hid (hkz.cells H8.out (by decide))
  have HLz := Lib.hid (HL.out.push HR.out HPw.out (fd := Fd.none) (fun sd h => by simp [sdOf, Fd.none] at h) (fun h => by simp [Fd.none] at h) (by simp [Fd.none]))
  clear hst2 hk2 hk3 hkz
  go_wp2_with fail
  refine hK.out _ _ ⟨H4z.out, H5z.out, H7z.out, by have := htz.cells.2.2.2.2.2.2; rw [← HTb.out] at this; exact this⟩ (fun hS2 => ?_)
  clear hK K hS hS2 htz
  try simp only [Act.put, List.setIfInBounds_toArray, List.set_cons_zero, List.set_cons_succ]
  refine wpAnyH_done (by kernel_rfl) ?_ _
  have he := HE.out
  unfold freshE at he
  have hlv0 : lvF (F ++ [(((rN : Int), (p : Int)), Fd.none)]) = lvF F ++ [(((rN : Int), (p : Int)), none)] := by rw [lv_snoc]; rfl
  rw [← hlv0] at he
  clear hlv0
  cases hE : ev false C.R C.N C.W f ru.body.toNat p (lvF (F ++ [(((rN : Int), (p : Int)), Fd.none)])) st with
  | none => rw [hE] at he; cases he
  | some q1 =>
  obtain ⟨q, s1⟩ := q1
  rw [hE] at he
  have HQ := Lib.hid (HEv.out ru.body.toNat p _ st q s1 HPw.out HLz.out.ok hE)
  have HSl := Lib.hid (ev_left f ru.body.toNat p _ st q s1 hE)
  have HCall := Lib.hid (HBody.out (F ++ [(((rN : Int), (p : Int)), Fd.none)]) HLz.out X (X + 1) (X + 1 + 1) st s1 q z HTz.out hl H4z.out H5z.out H7z.out hE)
  have HE2 := Lib.hid he
  clear he hE HT HK H4 H5 H7 H8 HSt
  go_wp2_with fail
  refine HCall.out.mono ?_
  rintro e z1 ⟨⟨v, rfl, fv, rfl, hfv⟩, htz, hkz⟩
  obtain ⟨fa, fc, rfl⟩ := hfv.1.val
  have HFv := Lib.hid hfv
  have HT1 := Lib.hid htz
  have HK1 := Lib.hid (KeepT.tra HKz.out hkz)
  have H41 := Lib.hid (hkz.cells H4z.out (by decide))
  have H51 := Lib.hid (hkz.cells H5z.out (by decide))
  have H71 := Lib.hid (hkz.cells H7z.out (by decide))
  have H81 := Lib.hid (hkz.cells H8z.out (by decide))
  unfold foV foC
  obtain ⟨m, hm⟩ : ∃ m, m = (foF q).length := ⟨_, rfl⟩
  rw [← hm] at HFv ⊢
  have HM1 := Lib.hid hm
  clear hfv htz hkz hm HCall HTz HKz H4z H5z H7z H8z
  go_upto_region 4 with (fail)
  have hn := one_new z1 (.cells #[.bool (foIs q), .int .i64 (foEn q), .int .i64 (foFar q), .int .i64 (foRt q), .slice fa m fc] 73 (0, 0))
  refine gen_world (S := fun y => Below z1.heap.size z1 y ∧ y.heap[z1.heap.size]? = some (.cells #[.bool (foIs q), .int .i64 (foEn q), .int .i64 (foFar q), .int .i64 (foRt q), .slice fa m fc] 73 (0, 0))) hn (fun y hy => ?_)
  obtain ⟨hby, hfy⟩ := hy
  obtain ⟨U, hU⟩ : ∃ U, U = z1.heap.size := ⟨_, rfl⟩
  rw [← hU] at hfy ⊢
  have HUX := Lib.hid (show X + 1 + 1 + 1 < U by rw [hU]; exact lt_of_block H81.out)
  have HUy := Lib.hid hfy
  obtain ⟨c0, c1, c2, c3, c4⟩ := five_box hfy
  have HByy := Lib.hid hby
  clear hn hby hfy hU
  go_upto_region 6 with (fail)
  have hn := one_new y (.cells #[.bool (foIs q), .int .i64 (foEn q), .int .i64 (foFar q), .int .i64 (foRt q), .slice fa m fc] 73 (0, 0))
  refine gen_world (S := fun z => Below y.heap.size y z ∧ z.heap[y.heap.size]? = some (.cells #[.bool (foIs q), .int .i64 (foEn q), .int .i64 (foFar q), .int .i64 (foRt q), .slice fa m fc] 73 (0, 0))) hn (fun y2 hy => ?_)
  obtain ⟨hby, hfy⟩ := hy
  obtain ⟨V, hV⟩ : ∃ V, V = y.heap.size := ⟨_, rfl⟩
  rw [← hV] at hfy ⊢
  have hb12 := HByy.out.trans (hby.mono HByy.out.size)
  have HVU := Lib.hid (show U < V by rw [hV]; exact lt_of_block HUy.out)
  have HT2 := Lib.hid (HT1.out.later hb12)
  have HK2 := Lib.hid (KeepT.tra HK1.out (KeepT.ofBelow hb12))
  have HBx := Lib.hid (show y2.heap[X]? = some (.cells #[.pointer (some ⟨tb, 0, none⟩)] 65 (0, 0)) ∧ y2.heap[X + 1]? = some (.cells #[.int .i64 rN] 3 (0, 0)) ∧ y2.heap[X + 1 + 1]? = some (.cells #[.int .i64 p] 3 (0, 0)) ∧ y2.heap[X + 1 + 1 + 1]? = some (.cells #[.bool false, .int .i64 0, .int .i64 0, .int .i64 0, .slice none 0 0] 73 (0, 0)) from ⟨(hb12.block _ (lt_of_block H41.out)).trans H41.out, (hb12.block _ (lt_of_block H51.out)).trans H51.out, (hb12.block _ (lt_of_block H71.out)).trans H71.out, (hb12.block _ (lt_of_block H81.out)).trans H81.out⟩)
  have HUq := Lib.hid (show FoBox y2 U q (.slice fa m fc) from ⟨(hby.block _ (lt_of_block HUy.out)).trans HUy.out, HFv.out.later hb12⟩)
  have HVq := Lib.hid (show FoBox y2 V q (.slice fa m fc) from ⟨hfy, HFv.out.later hb12⟩)
  clear hn hby hfy hV hb12 c0 c1 c2 c3 c4 HUy HByy HFv HT1 HK1 H41 H51 H71 H81
  have he2 := HE2.out
  cases q with
  | miss fr =>
    simp only [foIs, foEn, foFar, foRt] at he2 ⊢
    simp only [Option.some.injEq, Prod.mk.injEq] at he2
    obtain ⟨hr1, hs1⟩ := he2
    have HR1 := Lib.hid hr1
    have HS1 := Lib.hid hs1
    clear hr1 hs1
    go_loopw [11, 12] (fun a b wr => a = .int .i64 fr ∧ b = .pointer (some ⟨V, 0, none⟩) ∧ Hid (Below y2.heap.size y2 wr)) (fun _ _ _ => 1)
    case atStart => exact ⟨rfl, rfl, Lib.hid (Below.refl _ _)⟩
    case round =>
      obtain ⟨rfl, rfl, Hb⟩ := hrel
      have hcv := (HVq.out.later Hb.out).cells
      simp only [foIs, foEn, foFar, foRt] at hcv
      obtain ⟨c0, c1, c2, c3, c4⟩ := hcv
      have HTw := Lib.hid (HT2.out.later Hb.out)
      have HBw := Lib.hid (show wr.heap[X]? = some (.cells #[.pointer (some ⟨tb, 0, none⟩)] 65 (0, 0)) ∧ wr.heap[X + 1]? = some (.cells #[.int .i64 rN] 3 (0, 0)) ∧ wr.heap[X + 1 + 1]? = some (.cells #[.int .i64 p] 3 (0, 0)) ∧ wr.heap[X + 1 + 1 + 1]? = some (.cells #[.bool false, .int .i64 0, .int .i64 0, .int .i64 0, .slice none 0 0] 73 (0, 0)) from ⟨(Hb.out.block _ (lt_of_block HBx.out.1)).trans HBx.out.1, (Hb.out.block _ (lt_of_block HBx.out.2.1)).trans HBx.out.2.1, (Hb.out.block _ (lt_of_block HBx.out.2.2.1)).trans HBx.out.2.2.1, (Hb.out.block _ (lt_of_block HBx.out.2.2.2)).trans HBx.out.2.2.2⟩)
      have HUw := Lib.hid (HUq.out.later Hb.out)
      have HKw := Lib.hid (KeepT.tra HK2.out (KeepT.ofBelow Hb.out))
      have q4 := box_one HBw.out.1
      obtain ⟨-, -, -, -, -, -, t6⟩ := HTw.out.cells
      rw [← HTb.out] at t6
      obtain ⟨svE, hstE⟩ := HTw.out.sto
      go_wp2_with fail
      refine (st_End wr hstE).mono ?_
      rintro e wE ⟨rfl, hst5, hk5⟩
      obtain ⟨htE, hkE⟩ := HTw.out.stored (by decide) hk5 hst5
      have HTE := Lib.hid htE
      have HKE := Lib.hid (KeepT.tra HKw.out hkE)
      have HBE := Lib.hid (show wE.heap[X + 1]? = some (.cells #[.int .i64 rN] 3 (0, 0)) ∧ wE.heap[X + 1 + 1]? = some (.cells #[.int .i64 p] 3 (0, 0)) ∧ wE.heap[X + 1 + 1 + 1]? = some (.cells #[.bool false, .int .i64 0, .int .i64 0, .int .i64 0, .slice none 0 0] 73 (0, 0)) from ⟨hkE.cells HBw.out.2.1 (by decide), hkE.cells HBw.out.2.2.1 (by decide), hkE.cells HBw.out.2.2.2 (by decide)⟩)
      have HUE := Lib.hid (HUw.out.keepT hkE)
      clear q4 t6 hstE hst5 hk5 htE hkE
      have hcu := HUE.out.cells
      simp only [foIs, foEn, foFar, foRt] at hcu
      obtain ⟨c0, c1, c2, c3, c4⟩ := hcu
      go_wp2_with fail
      refine (miss_any fr wE).mono ?_
      rintro e w3 ⟨rfl, hb3⟩
      have HT3 := Lib.hid (HTE.out.later hb3)
      have HK3 := Lib.hid (KeepT.tra HKE.out (KeepT.ofBelow hb3))
      have H23 := Lib.hid ((hb3.block _ (lt_of_block HBE.out.2.2)).trans HBE.out.2.2)
      clear hb3 c0 c1 c2 c3 c4
      obtain ⟨d0, d1, d2, d3, d4⟩ := five_box H23.out
      obtain ⟨g0, g1, g2, g3, g4⟩ := five_frz H23.out
      go_wp2
      rw [← HS1.out, ← HR1.out]
      obtain ⟨k5, hk5⟩ := set5 H23.out (.bool false) (.int .i64 0) (.int .i64 fr) (.int .i64 0) (.slice none 0 0)
      obtain ⟨q0, q1, q2, q3, q4⟩ := five_box k5
      have hxw : w.heap.size ≤ X + 1 + 1 + 1 := by have := HX.out; omega
      exact bodyPost_ret (v := .agg #[.bool false, .int .i64 0, .int .i64 fr, .int .i64 0, .slice none 0 0]) (by simp [results, Tryz.f25, go_sem, q0, q1, q2, q3, q4]) rfl ⟨⟨_, rfl, _, rfl, TwIn.nil _⟩, HT3.out.res H23.out (Nat.le_trans H.out.base hxw) hk5, HK3.out.endAt hxw hk5⟩
  | hit h1 =>
    simp only [foIs, foEn, foFar, foRt] at he2 ⊢
    cases hg : growE (ev false C.R C.N C.W f) false (lvF F) (rN : Int) lev p ru.body.toNat (f + 1) h1 h1 h1.far s1 with
    | none => rw [hg] at he2; cases he2
    | some gq =>
    obtain ⟨gR, frR, sR⟩ := gq
    rw [hg] at he2
    simp only at he2
    cases hcd : (gR.tried frR).called (rN : Int) lev p with
    | none => rw [hcd] at he2; cases he2
    | some gR' =>
    rw [hcd] at he2
    simp only [Option.some.injEq, Prod.mk.injEq] at he2
    obtain ⟨hr1, hs1⟩ := he2
    have HR1 := Lib.hid hr1
    have HS1 := Lib.hid hs1
    have HCd := Lib.hid hcd
    have HG0 := Lib.hid hg
    have hq1 := HQ.out.2.2.1
    have hq2 := HQ.out.2.2.2.1
    have HQf := Lib.hid (And.intro hq1 hq2)
    clear hr1 hs1 hcd hg hq1 hq2
    go_loopg [11, 12] (f + 1) (fun gn a b wr => ∃ (last next : Ht) (far : Int) (s : Ss) (fd : Fd) (fvl fvn : Value) (V : Nat), a = .int .i64 far ∧ b = .pointer (some ⟨V, 0, none⟩) ∧ Hid (HtOk C.W p last ∧ HtOk C.W p next ∧ -1 ≤ far ∧ far ≤ C.W.length) ∧ Hid (s.left ≤ f ∧ growE (ev false C.R C.N C.W f) false (lvF F) (rN : Int) lev p ru.body.toNat gn last next far s = some (gR, frR, sR)) ∧ Hid (FoBox wr U (.hit last) fvl ∧ FoBox wr V (.hit next) fvn ∧ U ≠ V ∧ X + 1 + 1 + 1 < V) ∧ Hid (TrS C (F ++ [(((rN : Int), (p : Int)), fd)]) s wr) ∧ Hid (fd.is = false ∨ (fd.en < (next.en : Int) ∧ lev = fd.lev)) ∧ Hid (KeepT C.w0.heap.size TTm true w wr) ∧ Hid (wr.heap[X]? = some (.cells #[.pointer (some ⟨tb, 0, none⟩)] 65 (0, 0)) ∧ wr.heap[X + 1]? = some (.cells #[.int .i64 rN] 3 (0, 0)) ∧ wr.heap[X + 1 + 1]? = some (.cells #[.int .i64 p] 3 (0, 0)) ∧ wr.heap[X + 1 + 1 + 1]? = some (.cells #[.bool false, .int .i64 0, .int .i64 0, .int .i64 0, .slice none 0 0] 73 (0, 0))))
    case atStart => exact ⟨h1, h1, h1.far, s1, Fd.none, _, _, V, rfl, rfl, Lib.hid ⟨HQ.out, HQ.out, HQf.out.1, HQf.out.2⟩, Lib.hid ⟨Nat.le_trans HSl.out.1 hl, HG0.out⟩, Lib.hid ⟨HUq.out, HVq.out, Nat.ne_of_lt HVU.out, Nat.lt_trans HUX.out HVU.out⟩, HT2, Lib.hid (.inl rfl), HK2, HBx⟩
    case round =>
      clear HUq HVq HVU HT2 HK2 HBx HQ HQf HG0 HSl HE2 HE
      obtain ⟨last, next, far, s, fd, fvl, fvn, V, rfl, rfl, HO, HS, HFb, HTw, HFd, HKw, HBw⟩ := hrel
      have HUw := Lib.hid HFb.out.1
      have HVw := Lib.hid HFb.out.2.1
      have HUV := Lib.hid HFb.out.2.2
      clear HFb
      have hs := HS.out.2
      cases gk with
      | zero => rw [growE] at hs; cases hs
      | succ gn =>
      rw [growE] at hs
      have hcv := HVw.out.cells
      simp only [foIs, foEn, foFar, foRt] at hcv
      obtain ⟨c0, c1, c2, c3, c4⟩ := hcv
      have q4 := box_one HBw.out.1
      obtain ⟨-, -, t2, -, -, -, t6⟩ := HTw.out.cells
      rw [← HTb.out] at t2 t6
      obtain ⟨sl, so⟩ := s
      simp only at hs t2
      cases so with
      | true =>
        rw [if_pos (by simp)] at hs
        simp only [Option.some.injEq, Prod.mk.injEq] at hs
        obtain ⟨rfl, rfl, rfl⟩ := hs
        clear c0 c1 c2 c3 c4 q4 t2 t6
        have HC2 := HVw.out.cells
        simp only [foIs, foEn, foFar, foRt] at HC2
        obtain ⟨c0, c1, c2, c3, c4⟩ := HC2
        obtain ⟨-, -, t2, -, -, -, -⟩ := HTw.out.cells
        rw [← HTb.out] at t2
        have q4' := box_one HBw.out.1
        go_upto_region 14 with (fail)
        clear c0 c1 c2 c3 c4 t2 q4'
        have q4 := box_one HBw.out.1
        obtain ⟨-, -, -, -, -, -, t6⟩ := HTw.out.cells
        rw [← HTb.out] at t6
        obtain ⟨svE, hstE⟩ := HTw.out.sto
        go_wp2_with fail
        refine (st_End wr hstE).mono ?_
        rintro e wE ⟨rfl, hst5, hk5⟩
        obtain ⟨htE, hkE⟩ := HTw.out.stored (by decide) hk5 hst5
        have HTE := Lib.hid htE
        have HKE := Lib.hid (KeepT.tra HKw.out hkE)
        have HBE := Lib.hid (show wE.heap[X + 1]? = some (.cells #[.int .i64 rN] 3 (0, 0)) ∧ wE.heap[X + 1 + 1]? = some (.cells #[.int .i64 p] 3 (0, 0)) ∧ wE.heap[X + 1 + 1 + 1]? = some (.cells #[.bool false, .int .i64 0, .int .i64 0, .int .i64 0, .slice none 0 0] 73 (0, 0)) from ⟨hkE.cells HBw.out.2.1 (by decide), hkE.cells HBw.out.2.2.1 (by decide), hkE.cells HBw.out.2.2.2 (by decide)⟩)
        have HUE := Lib.hid (HUw.out.keepT hkE)
        clear q4 t6 hstE hst5 hk5 htE hkE
        obtain ⟨fvE, HUE0⟩ : ∃ fvE, FoBox wE U (.hit last) fvE := ⟨_, HUE.out⟩
        clear HUE
        obtain ⟨ua, uc, hfe⟩ := HUE0.2.val'
        subst hfe
        have HUE := Lib.hid HUE0
        clear HUE0
        obtain ⟨un, hun⟩ : ∃ un, un = (foF (.hit last)).length := ⟨_, rfl⟩
        rw [← hun] at HUE
        clear hun
        have hcu := HUE.out.cells
        simp only [foIs, foEn, foFar, foRt] at hcu
        obtain ⟨c0, c1, c2, c3, c4⟩ := hcu
        go_upto_region 17 with (fail)
        clear c0 c1 c2 c3 c4
        refine wp_region_held_drew (S := fun z => z.heap[X + 1]? = some (.cells #[.int .i64 rN] 3 (0, 0)) ∧ z.heap[X + 1 + 1]? = some (.cells #[.int .i64 p] 3 (0, 0)) ∧ FoBox z U (.hit last) (.slice ua un uc)) (by kernel_rfl) ⟨HBE.out.1, HBE.out.2.1, HUE.out.later ((Below.refl _ _).drew)⟩ (fun hS => ?_)
        refine wpAnyH_take (i := 0) (oi := ⟨_, _, _, _, _, _⟩) (v := ?v7) rfl (by kernel_rfl) (by kernel_rfl) (by kernel_rfl) (fun _ _ _ h => h) ?y7 hS ?_
        case y7 => first | (refine Or.inr ⟨by rfl, ?_⟩; with_reducible rfl) | (refine Or.inl ⟨by rfl, ?_⟩; intro wS hSw; have q5 := box_one hSw.1; have q7 := box_one hSw.2.1; have hcn := hSw.2.2.cells; simp only [foIs, foEn, foFar, foRt] at hcn; obtain ⟨c0, c1, c2, c3, c4⟩ := hcn; go_simp; try with_reducible rfl)
        simp only [Act.put, List.setIfInBounds_toArray, List.set_cons_zero, List.set_cons_succ]
        refine wpAnyH_take (i := 1) (oi := ⟨_, _, _, _, _, _⟩) (v := ?v8) rfl (by kernel_rfl) (by kernel_rfl) (by kernel_rfl) (fun _ _ _ h => h) ?y8 hS ?_
        case y8 => first | (refine Or.inr ⟨by rfl, ?_⟩; with_reducible rfl) | (refine Or.inl ⟨by rfl, ?_⟩; intro wS hSw; have q5 := box_one hSw.1; have q7 := box_one hSw.2.1; have hcn := hSw.2.2.cells; simp only [foIs, foEn, foFar, foRt] at hcn; obtain ⟨c0, c1, c2, c3, c4⟩ := hcn; go_simp; try with_reducible rfl)
        simp only [Act.put, List.setIfInBounds_toArray, List.set_cons_zero, List.set_cons_succ]
        refine wpAnyH_take (i := 3) (oi := ⟨_, _, _, _, _, _⟩) (v := ?v9) rfl (by kernel_rfl) (by kernel_rfl) (by kernel_rfl) (fun _ _ _ h => h) ?y9 hS ?_
        case y9 => first | (refine Or.inr ⟨by rfl, ?_⟩; with_reducible rfl) | (refine Or.inl ⟨by rfl, ?_⟩; intro wS hSw; have q5 := box_one hSw.1; have q7 := box_one hSw.2.1; have hcn := hSw.2.2.cells; simp only [foIs, foEn, foFar, foRt] at hcn; obtain ⟨c0, c1, c2, c3, c4⟩ := hcn; go_simp; try with_reducible rfl)
        simp only [Act.put, List.setIfInBounds_toArray, List.set_cons_zero, List.set_cons_succ]
        refine wpAnyH_take (i := 4) (oi := ⟨_, _, _, _, _, _⟩) (v := ?v10) rfl (by kernel_rfl) (by kernel_rfl) (by kernel_rfl) (fun _ _ _ h => h) ?y10 hS ?_
        case y10 => first | (refine Or.inr ⟨by rfl, ?_⟩; with_reducible rfl) | (refine Or.inl ⟨by rfl, ?_⟩; intro wS hSw; have q5 := box_one hSw.1; have q7 := box_one hSw.2.1; have hcn := hSw.2.2.cells; simp only [foIs, foEn, foFar, foRt] at hcn; obtain ⟨c0, c1, c2, c3, c4⟩ := hcn; go_simp; try with_reducible rfl)
        simp only [Act.put, List.setIfInBounds_toArray, List.set_cons_zero, List.set_cons_succ]
        refine wpAnyH_take (i := 5) (oi := ⟨_, _, _, _, _, _⟩) (v := ?v11) rfl (by kernel_rfl) (by kernel_rfl) (by kernel_rfl) (fun _ _ _ h => h) ?y11 hS ?_
        case y11 => first | (refine Or.inr ⟨by rfl, ?_⟩; with_reducible rfl) | (refine Or.inl ⟨by rfl, ?_⟩; intro wS hSw; have q5 := box_one hSw.1; have q7 := box_one hSw.2.1; have hcn := hSw.2.2.cells; simp only [foIs, foEn, foFar, foRt] at hcn; obtain ⟨c0, c1, c2, c3, c4⟩ := hcn; go_simp; try with_reducible rfl)
        simp only [Act.put, List.setIfInBounds_toArray, List.set_cons_zero, List.set_cons_succ]
        refine wpAnyH_ready (rs := [2]) (by kernel_rfl) (by simp) ?_
        refine AllReadyH.cons (o := ⟨_, _, _, _, _, _⟩) rfl (fun K hK => ?_) AllReadyH.nil
        go_simp
        refine (tried_any true last.en last.far last.roots far ua un uc _).mono ?_
        obtain ⟨zf, hzf⟩ : ∃ zf, zf = max last.far far := ⟨_, rfl⟩
        rw [← hzf]
        have HZf := Lib.hid hzf
        clear hzf
        rintro e z4 ⟨rfl, hb4⟩
        go_wp2_with fail
        have hb5 : Below wE.heap.size wE z4 := (Below.refl wE.heap.size wE).drew.trans hb4
        have hS4 : z4.heap[X + 1]? = some (.cells #[.int .i64 rN] 3 (0, 0)) ∧ z4.heap[X + 1 + 1]? = some (.cells #[.int .i64 p] 3 (0, 0)) ∧ FoBox z4 U (.hit last) (.slice ua un uc) := ⟨(hb5.block _ (lt_of_block HBE.out.1)).trans HBE.out.1, (hb5.block _ (lt_of_block HBE.out.2.1)).trans HBE.out.2.1, HUE.out.later hb5⟩
        refine hK.out _ _ hS4 (fun hS2 => ?_)
        clear hK K hb4 hS hS2
        try simp only [Act.put, List.setIfInBounds_toArray, List.set_cons_zero, List.set_cons_succ]
        refine wpAnyH_ready (rs := [6]) (by kernel_rfl) (by simp) ?_
        refine AllReadyH.cons (o := ⟨_, _, _, _, _, _⟩) rfl (fun K hK => ?_) AllReadyH.nil
        go_simp
        refine (called_any last.en zf last.roots (rN : Int) lev (p : Int) _ last.forest z4 hS4.2.2.2 (by have := HCd.out; unfold Ht.called at this; split at this; assumption; cases this)).mono ?_
        rintro e z5 ⟨⟨fv', rfl, hfv⟩, hb6⟩
        obtain ⟨fa', fc', rfl⟩ := hfv.1.val
        have HW5 := Lib.hid hfv
        obtain ⟨ln, hln⟩ : ∃ ln, ln = (Tw.mk (rN : Int) lev (p : Int) last.en last.roots :: last.forest).length := ⟨_, rfl⟩
        rw [← hln] at HW5 ⊢
        clear hfv hln
        go_wp2_with fail
        have hb7 := hb5.trans (hb6.mono hb5.size)
        have hS5 : z5.heap[X + 1]? = some (.cells #[.int .i64 rN] 3 (0, 0)) ∧ z5.heap[X + 1 + 1]? = some (.cells #[.int .i64 p] 3 (0, 0)) ∧ FoBox z5 U (.hit last) (.slice ua un uc) := ⟨(hb7.block _ (lt_of_block HBE.out.1)).trans HBE.out.1, (hb7.block _ (lt_of_block HBE.out.2.1)).trans HBE.out.2.1, HUE.out.later hb7⟩
        refine hK.out _ _ hS5 (fun hS2 => ?_)
        clear hK K hb6 hb5 hS4 hS2
        try simp only [Act.put, List.setIfInBounds_toArray, List.set_cons_zero, List.set_cons_succ]
        have HT5 := Lib.hid (HTE.out.later hb7)
        have HK5 := Lib.hid (KeepT.tra HKE.out (KeepT.ofBelow hb7))
        have H85 := Lib.hid ((hb7.block _ (lt_of_block HBE.out.2.2)).trans HBE.out.2.2)
        have hgr : gR' = ⟨last.en, zf, 1, ⟨(rN : Int), lev, (p : Int), last.en, last.roots⟩ :: last.forest⟩ := by
          have := HCd.out
          unfold Ht.called at this
          split at this
          · rw [HZf.out]; exact (Option.some.inj this).symm
          · cases this
        have HGr := Lib.hid hgr
        clear hgr hb7
        refine wpAnyH_ready (rs := [7]) (by kernel_rfl) (by simp) ?_
        refine AllReadyH.cons (o := ⟨_, _, _, _, _, _⟩) rfl (fun K hK => ?_) AllReadyH.nil
        obtain ⟨d0, d1, d2, d3, d4⟩ := five_box H85.out
        obtain ⟨g0, g1, g2, g3, g4⟩ := five_frz H85.out
        go_simp
        obtain ⟨k5, hk5⟩ := set5 H85.out (.bool true) (.int .i64 last.en) (.int .i64 zf) (.int .i64 1) (.slice fa' ln fc')
        have hxw : w.heap.size ≤ X + 1 + 1 + 1 := by have := HX.out; omega
        refine hK.out _ _ ⟨hk5.obj hS5.1 (by omega), hk5.obj hS5.2.1 (by omega), hS5.2.2.other H85.out hk5 (by have := HUX.out; omega)⟩ (fun hS3 => ?_)
        clear hK K hS3 hS5
        try simp only [Act.put, List.setIfInBounds_toArray, List.set_cons_zero, List.set_cons_succ]
        refine wpAnyH_done (by kernel_rfl) ?_ _
        go_wp2
        rw [← HS1.out, ← HR1.out, HGr.out]
        obtain ⟨q0, q1, q2, q3, q4⟩ := five_box k5
        exact bodyPost_ret (v := .agg #[.bool true, .int .i64 last.en, .int .i64 zf, .int .i64 1, .slice fa' ln fc']) (by simp [results, Tryz.f25, go_sem, q0, q1, q2, q3, q4]) rfl ⟨⟨_, rfl, _, rfl, HW5.out.res H85.out hk5⟩, HT5.out.res H85.out (Nat.le_trans H.out.base hxw) hk5, HK5.out.endAt hxw hk5⟩
      | false =>
        rw [if_neg (by simp)] at hs
        go_upto_region 7 with (fail)
        clear q4 t6 t2 c0 c1 c2 c3 c4
        obtain ⟨na, nc, hnv⟩ := HVw.out.2.val'
        subst hnv
        obtain ⟨nn, hnn⟩ : ∃ nn, nn = (foF (.hit next)).length := ⟨_, rfl⟩
        rw [← hnn] at HVw
        have HNn := Lib.hid hnn
        clear hnn
        have hcv := HVw.out.cells
        simp only [foIs, foEn, foFar, foRt] at hcv
        obtain ⟨c0, c1, c2, c3, c4⟩ := hcv
        obtain ⟨g0, g1, g2, g3, g4⟩ := five_frz HUw.out.1
        obtain ⟨d0, d1, d2, d3, d4⟩ := five_box HUw.out.1
        have HUc := HUw.out.1
        unfold foC at HUc
        obtain ⟨k5, hk5⟩ := set5 HUc (.bool true) (.int .i64 next.en) (.int .i64 next.far) (.int .i64 next.roots) (.slice na nn nc)
        go_upto_region 8 with (fail)
        refine gen_world (S := fun z => z.heap[U]? = some (.cells #[.bool true, .int .i64 next.en, .int .i64 next.far, .int .i64 next.roots, .slice na nn nc] 73 (0, 0)) ∧ Keeps (· = U) wr z) ⟨k5, hk5⟩ (fun z hz => ?_)
        clear k5 hk5 c0 c1 c2 c3 c4 g0 g1 g2 g3 g4 d0 d1 d2 d3 d4
        obtain ⟨k5, hk5⟩ := hz
        have hxw : w.heap.size ≤ U := by have := HX.out; have := HUX.out; omega
        have HUz := Lib.hid (show FoBox z U (.hit next) (.slice na nn nc) from ⟨k5, HVw.out.2.res HUc hk5⟩)
        have HVz := Lib.hid (HVw.out.other HUc hk5 (Ne.symm HUV.out.1))
        have HTz := Lib.hid (HTw.out.res HUc (Nat.le_trans H.out.base hxw) hk5)
        have HKz := Lib.hid (HKw.out.endAt hxw hk5)
        have hux := HUX.out
        have HBz := Lib.hid (show z.heap[X]? = some (.cells #[.pointer (some ⟨tb, 0, none⟩)] 65 (0, 0)) ∧ z.heap[X + 1]? = some (.cells #[.int .i64 rN] 3 (0, 0)) ∧ z.heap[X + 1 + 1]? = some (.cells #[.int .i64 p] 3 (0, 0)) ∧ z.heap[X + 1 + 1 + 1]? = some (.cells #[.bool false, .int .i64 0, .int .i64 0, .int .i64 0, .slice none 0 0] 73 (0, 0)) from ⟨hk5.obj HBw.out.1 (by omega), hk5.obj HBw.out.2.1 (by omega), hk5.obj HBw.out.2.2.1 (by omega), hk5.obj HBw.out.2.2.2 (by omega)⟩)
        clear k5 hk5 HUc hxw hux HUw HVw HTw HKw HBw
        have hS0 : z.drew.heap[X]? = some (.cells #[.pointer (some ⟨tb, 0, none⟩)] 65 (0, 0)) ∧ FoBox z.drew U (.hit next) (.slice na nn nc) ∧ z.drew.cell? ⟨tb, 6, none⟩ = some (.pointer (some ⟨C.s, 0, none⟩)) := ⟨HBz.out.1, HUz.out.later (Below.refl _ _).drew, by have := HTz.out.cells.2.2.2.2.2.2; rw [← HTb.out] at this; exact this⟩
        refine wp_region_held_drew (S := fun z => z.heap[X]? = some (.cells #[.pointer (some ⟨tb, 0, none⟩)] 65 (0, 0)) ∧ FoBox z U (.hit next) (.slice na nn nc) ∧ z.cell? ⟨tb, 6, none⟩ = some (.pointer (some ⟨C.s, 0, none⟩))) (by kernel_rfl) hS0 (fun hS => ?_)
        clear hS0
        refine wpAnyH_take (i := 0) (oi := ⟨_, _, _, _, _, _⟩) (v := ?v12) rfl (by kernel_rfl) (by kernel_rfl) (by kernel_rfl) (fun _ _ _ h => h) ?y12 hS ?_
        case y12 => first | (refine Or.inr ⟨by rfl, ?_⟩; with_reducible rfl) | (refine Or.inl ⟨by rfl, ?_⟩; intro wS hSw; have q4 := box_one hSw.1; have hcn := hSw.2.1.cells; simp only [foIs, foEn, foFar, foRt] at hcn; obtain ⟨c0, c1, c2, c3, c4⟩ := hcn; have t6 := hSw.2.2; go_simp; try with_reducible rfl)
        simp only [Act.put, List.setIfInBounds_toArray, List.set_cons_zero, List.set_cons_succ]
        refine wpAnyH_take (i := 1) (oi := ⟨_, _, _, _, _, _⟩) (v := ?v13) rfl (by kernel_rfl) (by kernel_rfl) (by kernel_rfl) (fun _ _ _ h => h) ?y13 hS ?_
        case y13 => first | (refine Or.inr ⟨by rfl, ?_⟩; with_reducible rfl) | (refine Or.inl ⟨by rfl, ?_⟩; intro wS hSw; have q4 := box_one hSw.1; have hcn := hSw.2.1.cells; simp only [foIs, foEn, foFar, foRt] at hcn; obtain ⟨c0, c1, c2, c3, c4⟩ := hcn; have t6 := hSw.2.2; go_simp; try with_reducible rfl)
        simp only [Act.put, List.setIfInBounds_toArray, List.set_cons_zero, List.set_cons_succ]
        refine wpAnyH_take (i := 2) (oi := ⟨_, _, _, _, _, _⟩) (v := ?v14) rfl (by kernel_rfl) (by kernel_rfl) (by kernel_rfl) (fun _ _ _ h => h) ?y14 hS ?_
        case y14 => first | (refine Or.inr ⟨by rfl, ?_⟩; with_reducible rfl) | (refine Or.inl ⟨by rfl, ?_⟩; intro wS hSw; have q4 := box_one hSw.1; have hcn := hSw.2.1.cells; simp only [foIs, foEn, foFar, foRt] at hcn; obtain ⟨c0, c1, c2, c3, c4⟩ := hcn; have t6 := hSw.2.2; go_simp; try with_reducible rfl)
        simp only [Act.put, List.setIfInBounds_toArray, List.set_cons_zero, List.set_cons_succ]
        refine wpAnyH_take (i := 3) (oi := ⟨_, _, _, _, _, _⟩) (v := ?v15) rfl (by kernel_rfl) (by kernel_rfl) (by kernel_rfl) (fun _ _ _ h => h) ?y15 hS ?_
        case y15 => first | (refine Or.inr ⟨by rfl, ?_⟩; with_reducible rfl) | (refine Or.inl ⟨by rfl, ?_⟩; intro wS hSw; have q4 := box_one hSw.1; have hcn := hSw.2.1.cells; simp only [foIs, foEn, foFar, foRt] at hcn; obtain ⟨c0, c1, c2, c3, c4⟩ := hcn; have t6 := hSw.2.2; go_simp; try with_reducible rfl)
        simp only [Act.put, List.setIfInBounds_toArray, List.set_cons_zero, List.set_cons_succ]
        refine wpAnyH_take (i := 4) (oi := ⟨_, _, _, _, _, _⟩) (v := ?v16) rfl (by kernel_rfl) (by kernel_rfl) (by kernel_rfl) (fun _ _ _ h => h) ?y16 hS ?_
        case y16 => first | (refine Or.inr ⟨by rfl, ?_⟩; with_reducible rfl) | (refine Or.inl ⟨by rfl, ?_⟩; intro wS hSw; have q4 := box_one hSw.1; have hcn := hSw.2.1.cells; simp only [foIs, foEn, foFar, foRt] at hcn; obtain ⟨c0, c1, c2, c3, c4⟩ := hcn; have t6 := hSw.2.2; go_simp; try with_reducible rfl)
        simp only [Act.put, List.setIfInBounds_toArray, List.set_cons_zero, List.set_cons_succ]
        refine wpAnyH_take (i := 5) (oi := ⟨_, _, _, _, _, _⟩) (v := ?v17) rfl (by kernel_rfl) (by kernel_rfl) (by kernel_rfl) (fun _ _ _ h => h) ?y17 hS ?_
        case y17 => first | (refine Or.inr ⟨by rfl, ?_⟩; with_reducible rfl) | (refine Or.inl ⟨by rfl, ?_⟩; intro wS hSw; have q4 := box_one hSw.1; have hcn := hSw.2.1.cells; simp only [foIs, foEn, foFar, foRt] at hcn; obtain ⟨c0, c1, c2, c3, c4⟩ := hcn; have t6 := hSw.2.2; go_simp; try with_reducible rfl)
        simp only [Act.put, List.setIfInBounds_toArray, List.set_cons_zero, List.set_cons_succ]
        refine wpAnyH_take (i := 6) (oi := ⟨_, _, _, _, _, _⟩) (v := ?v18) rfl (by kernel_rfl) (by kernel_rfl) (by kernel_rfl) (fun _ _ _ h => h) ?y18 hS ?_
        case y18 => first | (refine Or.inr ⟨by rfl, ?_⟩; with_reducible rfl) | (refine Or.inl ⟨by rfl, ?_⟩; intro wS hSw; have q4 := box_one hSw.1; have hcn := hSw.2.1.cells; simp only [foIs, foEn, foFar, foRt] at hcn; obtain ⟨c0, c1, c2, c3, c4⟩ := hcn; have t6 := hSw.2.2; go_simp; try with_reducible rfl)
        simp only [Act.put, List.setIfInBounds_toArray, List.set_cons_zero, List.set_cons_succ]
        refine wpAnyH_take (i := 7) (oi := ⟨_, _, _, _, _, _⟩) (v := ?v19) rfl (by kernel_rfl) (by kernel_rfl) (by kernel_rfl) (fun _ _ _ h => h) ?y19 hS ?_
        case y19 => first | (refine Or.inr ⟨by rfl, ?_⟩; with_reducible rfl) | (refine Or.inl ⟨by rfl, ?_⟩; intro wS hSw; have q4 := box_one hSw.1; have hcn := hSw.2.1.cells; simp only [foIs, foEn, foFar, foRt] at hcn; obtain ⟨c0, c1, c2, c3, c4⟩ := hcn; have t6 := hSw.2.2; go_simp; try with_reducible rfl)
        simp only [Act.put, List.setIfInBounds_toArray, List.set_cons_zero, List.set_cons_succ]
        refine wpAnyH_take (i := 8) (oi := ⟨_, _, _, _, _, _⟩) (v := ?v20) rfl (by kernel_rfl) (by kernel_rfl) (by kernel_rfl) (fun _ _ _ h => h) ?y20 hS ?_
        case y20 => first | (refine Or.inr ⟨by rfl, ?_⟩; with_reducible rfl) | (refine Or.inl ⟨by rfl, ?_⟩; intro wS hSw; have q4 := box_one hSw.1; have hcn := hSw.2.1.cells; simp only [foIs, foEn, foFar, foRt] at hcn; obtain ⟨c0, c1, c2, c3, c4⟩ := hcn; have t6 := hSw.2.2; go_simp; try with_reducible rfl)
        simp only [Act.put, List.setIfInBounds_toArray, List.set_cons_zero, List.set_cons_succ]
        refine wpAnyH_take (i := 9) (oi := ⟨_, _, _, _, _, _⟩) (v := ?v21) rfl (by kernel_rfl) (by kernel_rfl) (by kernel_rfl) (fun _ _ _ h => h) ?y21 hS ?_
        case y21 => first | (refine Or.inr ⟨by rfl, ?_⟩; with_reducible rfl) | (refine Or.inl ⟨by rfl, ?_⟩; intro wS hSw; have q4 := box_one hSw.1; have hcn := hSw.2.1.cells; simp only [foIs, foEn, foFar, foRt] at hcn; obtain ⟨c0, c1, c2, c3, c4⟩ := hcn; have t6 := hSw.2.2; go_simp; try with_reducible rfl)
        simp only [Act.put, List.setIfInBounds_toArray, List.set_cons_zero, List.set_cons_succ]
        refine wpAnyH_ready (rs := [10]) (by kernel_rfl) (by simp) ?_
        refine AllReadyH.cons (o := ⟨_, _, _, _, _, _⟩) rfl (fun K hK => ?_) AllReadyH.nil
        go_simp
        obtain ⟨sv, hst⟩ := HTz.out.sto
        refine (st_Grow (t := next.forest) _ (hst.later (Below.refl z.heap.size z).drew) (by first | exact (hS.2.1.2 : TwIn _ _ _) | (have := hS.2.1.2; simpa using this)) HO.out.2.1.2.2.2.2.1 HFd.out).mono ?_
        rintro e zg ⟨rfl, ⟨gv, hst2⟩, hk2⟩
        have hk3 : KeepT C.w0.heap.size [] true z zg := KeepT.trans (KeepT.ofBelow (Below.refl z.heap.size z).drew) hk2
        obtain ⟨htg, hkg⟩ := HTz.out.stored (by simp) hk3 ⟨_, hst2⟩
        have HTg := Lib.hid htg
        have HKg := Lib.hid (KeepT.tra HKz.out hkg)
        have HUg := Lib.hid (HUz.out.keepT hkg)
        have HVg := Lib.hid (HVz.out.keepT hkg)
        have HBg := Lib.hid (show zg.heap[X]? = some (.cells #[.pointer (some ⟨tb, 0, none⟩)] 65 (0, 0)) ∧ zg.heap[X + 1]? = some (.cells #[.int .i64 rN] 3 (0, 0)) ∧ zg.heap[X + 1 + 1]? = some (.cells #[.int .i64 p] 3 (0, 0)) ∧ zg.heap[X + 1 + 1 + 1]? = some (.cells #[.bool false, .int .i64 0, .int .i64 0, .int .i64 0, .slice none 0 0] 73 (0, 0)) from ⟨hkg.cells HBz.out.1 (by decide), hkg.cells HBz.out.2.1 (by decide), hkg.cells HBz.out.2.2.1 (by decide), hkg.cells HBz.out.2.2.2 (by decide)⟩)
        have hlv0 : lvF (F ++ [(((rN : Int), (p : Int)), ⟨true, next.en, lev, next.forest, gv⟩)]) = lvF F ++ [(((rN : Int), (p : Int)), some ⟨next.en, lev, next.forest⟩)] := by rw [lv_snoc]; simp [sdOf]
        have HLg := Lib.hid (HL.out.push HR.out HPw.out (fd := ⟨true, next.en, lev, next.forest, gv⟩) (fun sd h => by simp [sdOf] at h; subst h; exact HO.out.2.1.sd HLv.out) (fun _ => by simp) HO.out.2.1.2.2.2.2.1)
        rw [← hlv0] at hs
        have HHs := Lib.hid hs
        have ht6 : zg.cell? ⟨tb, 6, none⟩ = some (.pointer (some ⟨C.s, 0, none⟩)) := by have := htg.cells.2.2.2.2.2.2; rw [← HTb.out] at this; exact this
        clear hlv0 hs hst hst2 hk2 hk3 hkg htg
        go_wp2_with fail
        refine hK.out _ _ ⟨HBg.out.1, HUg.out, ht6⟩ (fun hS2 => ?_)
        clear hK K hS hS2 ht6
        try simp only [Act.put, List.setIfInBounds_toArray, List.set_cons_zero, List.set_cons_succ]
        refine wpAnyH_done (by kernel_rfl) ?_ _
        clear HTz HKz HUz HVz HBz
        have hs := HHs.out
        cases hE : ev false C.R C.N C.W f ru.body.toNat p (lvF (F ++ [(((rN : Int), (p : Int)), ⟨true, next.en, lev, next.forest, gv⟩)])) ⟨sl, false⟩ with
        | none => rw [hE] at hs; cases hs
        | some q1 =>
        obtain ⟨q, s1⟩ := q1
        rw [hE] at hs
        have HQ := Lib.hid (HEv.out ru.body.toNat p _ _ q s1 HPw.out HLg.out.ok hE)
        have HSl := Lib.hid (ev_left f ru.body.toNat p _ _ q s1 hE)
        have HCall := Lib.hid (HBody.out _ HLg.out X (X + 1) (X + 1 + 1) _ s1 q zg HTg.out HS.out.1 HBg.out.1 HBg.out.2.1 HBg.out.2.2.1 hE)
        have HHs2 := Lib.hid hs
        clear hs hE HHs
        go_wp2_with fail
        refine HCall.out.mono ?_
        rintro e z1 ⟨⟨v, rfl, fv, rfl, hfv⟩, htz, hkz⟩
        obtain ⟨fa, fc, rfl⟩ := hfv.1.val
        obtain ⟨m, hm⟩ : ∃ m, m = (foF q).length := ⟨_, rfl⟩
        rw [← hm] at hfv ⊢
        have HFv := Lib.hid hfv
        have HT1 := Lib.hid htz
        have HK1 := Lib.hid (KeepT.tra HKg.out hkz)
        have HU1 := Lib.hid (HUg.out.keepT hkz)
        have HV1 := Lib.hid (HVg.out.keepT hkz)
        have HB1 := Lib.hid (show z1.heap[X]? = some (.cells #[.pointer (some ⟨tb, 0, none⟩)] 65 (0, 0)) ∧ z1.heap[X + 1]? = some (.cells #[.int .i64 rN] 3 (0, 0)) ∧ z1.heap[X + 1 + 1]? = some (.cells #[.int .i64 p] 3 (0, 0)) ∧ z1.heap[X + 1 + 1 + 1]? = some (.cells #[.bool false, .int .i64 0, .int .i64 0, .int .i64 0, .slice none 0 0] 73 (0, 0)) from ⟨hkz.cells HBg.out.1 (by decide), hkz.cells HBg.out.2.1 (by decide), hkz.cells HBg.out.2.2.1 (by decide), hkz.cells HBg.out.2.2.2 (by decide)⟩)
        unfold foV foC
        clear hfv htz hkz HCall HTg HKg HUg HVg HBg hm
        obtain ⟨g0, g1, g2, g3, g4⟩ := five_frz HV1.out.1
        obtain ⟨d0, d1, d2, d3, d4⟩ := five_box HV1.out.1
        have HVc := HV1.out.1
        unfold foC at HVc
        obtain ⟨k5, hk5⟩ := set5 HVc (.bool (foIs q)) (.int .i64 (foEn q)) (.int .i64 (foFar q)) (.int .i64 (foRt q)) (.slice fa m fc)
        go_upto_region 10 with (fail)
        refine gen_world (S := fun z => z.heap[V]? = some (.cells #[.bool (foIs q), .int .i64 (foEn q), .int .i64 (foFar q), .int .i64 (foRt q), .slice fa m fc] 73 (0, 0)) ∧ Keeps (· = V) z1 z) ⟨k5, hk5⟩ (fun y hy => ?_)
        clear k5 hk5 d0 d1 d2 d3 d4 g0 g1 g2 g3 g4
        obtain ⟨k5, hk5⟩ := hy
        have hux := HUX.out
        have hvx := HUV.out.2
        have hxw : w.heap.size ≤ V := by have := HX.out; omega
        have HUy := Lib.hid (HU1.out.other HVc hk5 HUV.out.1)
        have HVy := Lib.hid (show FoBox y V q (.slice fa m fc) from ⟨k5, HFv.out.res HVc hk5⟩)
        have HTy := Lib.hid (HT1.out.res HVc (Nat.le_trans H.out.base hxw) hk5)
        have HKy := Lib.hid (HK1.out.endAt hxw hk5)
        have HBy := Lib.hid (show y.heap[X]? = some (.cells #[.pointer (some ⟨tb, 0, none⟩)] 65 (0, 0)) ∧ y.heap[X + 1]? = some (.cells #[.int .i64 rN] 3 (0, 0)) ∧ y.heap[X + 1 + 1]? = some (.cells #[.int .i64 p] 3 (0, 0)) ∧ y.heap[X + 1 + 1 + 1]? = some (.cells #[.bool false, .int .i64 0, .int .i64 0, .int .i64 0, .slice none 0 0] 73 (0, 0)) from ⟨hk5.obj HB1.out.1 (by omega), hk5.obj HB1.out.2.1 (by omega), hk5.obj HB1.out.2.2.1 (by omega), hk5.obj HB1.out.2.2.2 (by omega)⟩)
        clear k5 hk5 HVc hxw hux hvx HFv HU1 HV1 HT1 HK1 HB1
        have hs := HHs2.out
        cases q with
        | miss fr =>
          simp only [foIs, foEn, foFar, foRt] at HVy ⊢
          simp only [Option.some.injEq, Prod.mk.injEq] at hs
          obtain ⟨rfl, hfr, rfl⟩ := hs
          have HFr := Lib.hid hfr
          clear hfr
          have hcv := HVy.out.cells
          simp only [foIs, foEn, foFar, foRt] at hcv
          obtain ⟨c0, c1, c2, c3, c4⟩ := hcv
          have hcu := HUy.out.cells
          simp only [foIs, foEn, foFar, foRt] at hcu
          obtain ⟨u0, u1, u2, u3, u4⟩ := hcu
          have h0 : (0 : Int) ≤ next.en := Int.natCast_nonneg _
          go_upto_region 11 with (fail)
          rw [HFr.out]
          go_upto_region 14 with (fail)
          clear c0 c1 c2 c3 c4 u0 u1 u2 u3 u4 h0
          have q4 := box_one HBy.out.1
          obtain ⟨-, -, -, -, -, -, t6⟩ := HTy.out.cells
          rw [← HTb.out] at t6
          obtain ⟨svE, hstE⟩ := HTy.out.sto
          go_wp2_with fail
          refine (st_End y hstE).mono ?_
          rintro e wE ⟨rfl, hst5, hk5⟩
          obtain ⟨htE, hkE⟩ := HTy.out.stored (by decide) hk5 hst5
          have HTE := Lib.hid htE
          have HKE := Lib.hid (KeepT.tra HKy.out hkE)
          have HBE := Lib.hid (show wE.heap[X + 1]? = some (.cells #[.int .i64 rN] 3 (0, 0)) ∧ wE.heap[X + 1 + 1]? = some (.cells #[.int .i64 p] 3 (0, 0)) ∧ wE.heap[X + 1 + 1 + 1]? = some (.cells #[.bool false, .int .i64 0, .int .i64 0, .int .i64 0, .slice none 0 0] 73 (0, 0)) from ⟨hkE.cells HBy.out.2.1 (by decide), hkE.cells HBy.out.2.2.1 (by decide), hkE.cells HBy.out.2.2.2 (by decide)⟩)
          have HUE := Lib.hid (HUy.out.keepT hkE)
          clear q4 t6 hstE hst5 hk5 htE hkE
          obtain ⟨fvE, HUE0⟩ : ∃ fvE, FoBox wE U (.hit next) fvE := ⟨_, HUE.out⟩
          clear HUE
          obtain ⟨ua, uc, hfe⟩ := HUE0.2.val'
          subst hfe
          have HUE := Lib.hid HUE0
          clear HUE0
          obtain ⟨un, hun⟩ : ∃ un, un = (foF (.hit next)).length := ⟨_, rfl⟩
          rw [← hun] at HUE
          clear hun
          have hcu := HUE.out.cells
          simp only [foIs, foEn, foFar, foRt] at hcu
          obtain ⟨c0, c1, c2, c3, c4⟩ := hcu
          go_upto_region 17 with (fail)
          clear c0 c1 c2 c3 c4
          refine wp_region_held_drew (S := fun z => z.heap[X + 1]? = some (.cells #[.int .i64 rN] 3 (0, 0)) ∧ z.heap[X + 1 + 1]? = some (.cells #[.int .i64 p] 3 (0, 0)) ∧ FoBox z U (.hit next) (.slice ua un uc)) (by kernel_rfl) ⟨HBE.out.1, HBE.out.2.1, HUE.out.later ((Below.refl _ _).drew)⟩ (fun hS => ?_)
          refine wpAnyH_take (i := 0) (oi := ⟨_, _, _, _, _, _⟩) (v := ?v22) rfl (by kernel_rfl) (by kernel_rfl) (by kernel_rfl) (fun _ _ _ h => h) ?y22 hS ?_
          case y22 => first | (refine Or.inr ⟨by rfl, ?_⟩; with_reducible rfl) | (refine Or.inl ⟨by rfl, ?_⟩; intro wS hSw; have q5 := box_one hSw.1; have q7 := box_one hSw.2.1; have hcn := hSw.2.2.cells; simp only [foIs, foEn, foFar, foRt] at hcn; obtain ⟨c0, c1, c2, c3, c4⟩ := hcn; go_simp; try with_reducible rfl)
          simp only [Act.put, List.setIfInBounds_toArray, List.set_cons_zero, List.set_cons_succ]
          refine wpAnyH_take (i := 1) (oi := ⟨_, _, _, _, _, _⟩) (v := ?v23) rfl (by kernel_rfl) (by kernel_rfl) (by kernel_rfl) (fun _ _ _ h => h) ?y23 hS ?_
          case y23 => first | (refine Or.inr ⟨by rfl, ?_⟩; with_reducible rfl) | (refine Or.inl ⟨by rfl, ?_⟩; intro wS hSw; have q5 := box_one hSw.1; have q7 := box_one hSw.2.1; have hcn := hSw.2.2.cells; simp only [foIs, foEn, foFar, foRt] at hcn; obtain ⟨c0, c1, c2, c3, c4⟩ := hcn; go_simp; try with_reducible rfl)
          simp only [Act.put, List.setIfInBounds_toArray, List.set_cons_zero, List.set_cons_succ]
          refine wpAnyH_take (i := 3) (oi := ⟨_, _, _, _, _, _⟩) (v := ?v24) rfl (by kernel_rfl) (by kernel_rfl) (by kernel_rfl) (fun _ _ _ h => h) ?y24 hS ?_
          case y24 => first | (refine Or.inr ⟨by rfl, ?_⟩; with_reducible rfl) | (refine Or.inl ⟨by rfl, ?_⟩; intro wS hSw; have q5 := box_one hSw.1; have q7 := box_one hSw.2.1; have hcn := hSw.2.2.cells; simp only [foIs, foEn, foFar, foRt] at hcn; obtain ⟨c0, c1, c2, c3, c4⟩ := hcn; go_simp; try with_reducible rfl)
          simp only [Act.put, List.setIfInBounds_toArray, List.set_cons_zero, List.set_cons_succ]
          refine wpAnyH_take (i := 4) (oi := ⟨_, _, _, _, _, _⟩) (v := ?v25) rfl (by kernel_rfl) (by kernel_rfl) (by kernel_rfl) (fun _ _ _ h => h) ?y25 hS ?_
          case y25 => first | (refine Or.inr ⟨by rfl, ?_⟩; with_reducible rfl) | (refine Or.inl ⟨by rfl, ?_⟩; intro wS hSw; have q5 := box_one hSw.1; have q7 := box_one hSw.2.1; have hcn := hSw.2.2.cells; simp only [foIs, foEn, foFar, foRt] at hcn; obtain ⟨c0, c1, c2, c3, c4⟩ := hcn; go_simp; try with_reducible rfl)
          simp only [Act.put, List.setIfInBounds_toArray, List.set_cons_zero, List.set_cons_succ]
          refine wpAnyH_take (i := 5) (oi := ⟨_, _, _, _, _, _⟩) (v := ?v26) rfl (by kernel_rfl) (by kernel_rfl) (by kernel_rfl) (fun _ _ _ h => h) ?y26 hS ?_
          case y26 => first | (refine Or.inr ⟨by rfl, ?_⟩; with_reducible rfl) | (refine Or.inl ⟨by rfl, ?_⟩; intro wS hSw; have q5 := box_one hSw.1; have q7 := box_one hSw.2.1; have hcn := hSw.2.2.cells; simp only [foIs, foEn, foFar, foRt] at hcn; obtain ⟨c0, c1, c2, c3, c4⟩ := hcn; go_simp; try with_reducible rfl)
          simp only [Act.put, List.setIfInBounds_toArray, List.set_cons_zero, List.set_cons_succ]
          refine wpAnyH_ready (rs := [2]) (by kernel_rfl) (by simp) ?_
          refine AllReadyH.cons (o := ⟨_, _, _, _, _, _⟩) rfl (fun K hK => ?_) AllReadyH.nil
          go_simp
          refine (tried_any true next.en next.far next.roots frR ua un uc _).mono ?_
          obtain ⟨zf, hzf⟩ : ∃ zf, zf = max next.far frR := ⟨_, rfl⟩
          rw [← hzf]
          have HZf := Lib.hid hzf
          clear hzf
          rintro e z4 ⟨rfl, hb4⟩
          go_wp2_with fail
          have hb5 : Below wE.heap.size wE z4 := (Below.refl wE.heap.size wE).drew.trans hb4
          have hS4 : z4.heap[X + 1]? = some (.cells #[.int .i64 rN] 3 (0, 0)) ∧ z4.heap[X + 1 + 1]? = some (.cells #[.int .i64 p] 3 (0, 0)) ∧ FoBox z4 U (.hit next) (.slice ua un uc) := ⟨(hb5.block _ (lt_of_block HBE.out.1)).trans HBE.out.1, (hb5.block _ (lt_of_block HBE.out.2.1)).trans HBE.out.2.1, HUE.out.later hb5⟩
          refine hK.out _ _ hS4 (fun hS2 => ?_)
          clear hK K hb4 hS hS2
          try simp only [Act.put, List.setIfInBounds_toArray, List.set_cons_zero, List.set_cons_succ]
          refine wpAnyH_ready (rs := [6]) (by kernel_rfl) (by simp) ?_
          refine AllReadyH.cons (o := ⟨_, _, _, _, _, _⟩) rfl (fun K hK => ?_) AllReadyH.nil
          go_simp
          refine (called_any next.en zf next.roots (rN : Int) lev (p : Int) _ next.forest z4 hS4.2.2.2 (by have := HCd.out; unfold Ht.called at this; split at this; assumption; cases this)).mono ?_
          rintro e z5 ⟨⟨fv', rfl, hfv⟩, hb6⟩
          obtain ⟨fa', fc', rfl⟩ := hfv.1.val
          have HW5 := Lib.hid hfv
          obtain ⟨ln, hln⟩ : ∃ ln, ln = (Tw.mk (rN : Int) lev (p : Int) next.en next.roots :: next.forest).length := ⟨_, rfl⟩
          rw [← hln] at HW5 ⊢
          clear hfv hln
          go_wp2_with fail
          have hb7 := hb5.trans (hb6.mono hb5.size)
          have hS5 : z5.heap[X + 1]? = some (.cells #[.int .i64 rN] 3 (0, 0)) ∧ z5.heap[X + 1 + 1]? = some (.cells #[.int .i64 p] 3 (0, 0)) ∧ FoBox z5 U (.hit next) (.slice ua un uc) := ⟨(hb7.block _ (lt_of_block HBE.out.1)).trans HBE.out.1, (hb7.block _ (lt_of_block HBE.out.2.1)).trans HBE.out.2.1, HUE.out.later hb7⟩
          refine hK.out _ _ hS5 (fun hS2 => ?_)
          clear hK K hb6 hb5 hS4 hS2
          try simp only [Act.put, List.setIfInBounds_toArray, List.set_cons_zero, List.set_cons_succ]
          have HT5 := Lib.hid (HTE.out.later hb7)
          have HK5 := Lib.hid (KeepT.tra HKE.out (KeepT.ofBelow hb7))
          have H85 := Lib.hid ((hb7.block _ (lt_of_block HBE.out.2.2)).trans HBE.out.2.2)
          have hgr : gR' = ⟨next.en, zf, 1, ⟨(rN : Int), lev, (p : Int), next.en, next.roots⟩ :: next.forest⟩ := by
            have := HCd.out
            unfold Ht.called at this
            split at this
            · rw [HZf.out]; exact (Option.some.inj this).symm
            · cases this
          have HGr := Lib.hid hgr
          clear hgr hb7
          refine wpAnyH_ready (rs := [7]) (by kernel_rfl) (by simp) ?_
          refine AllReadyH.cons (o := ⟨_, _, _, _, _, _⟩) rfl (fun K hK => ?_) AllReadyH.nil
          obtain ⟨d0, d1, d2, d3, d4⟩ := five_box H85.out
          obtain ⟨g0, g1, g2, g3, g4⟩ := five_frz H85.out
          go_simp
          obtain ⟨k5, hk5⟩ := set5 H85.out (.bool true) (.int .i64 next.en) (.int .i64 zf) (.int .i64 1) (.slice fa' ln fc')
          have hxw : w.heap.size ≤ X + 1 + 1 + 1 := by have := HX.out; omega
          refine hK.out _ _ ⟨hk5.obj hS5.1 (by omega), hk5.obj hS5.2.1 (by omega), hS5.2.2.other H85.out hk5 (by have := HUX.out; omega)⟩ (fun hS3 => ?_)
          clear hK K hS3 hS5
          try simp only [Act.put, List.setIfInBounds_toArray, List.set_cons_zero, List.set_cons_succ]
          refine wpAnyH_done (by kernel_rfl) ?_ _
          go_wp2
          rw [← HS1.out, ← HR1.out, HGr.out]
          obtain ⟨q0, q1, q2, q3, q4⟩ := five_box k5
          exact bodyPost_ret (v := .agg #[.bool true, .int .i64 next.en, .int .i64 zf, .int .i64 1, .slice fa' ln fc']) (by simp [results, Tryz.f25, go_sem, q0, q1, q2, q3, q4]) rfl ⟨⟨_, rfl, _, rfl, HW5.out.res H85.out hk5⟩, HT5.out.res H85.out (Nat.le_trans H.out.base hxw) hk5, HK5.out.endAt hxw hk5⟩
        | hit x =>
          simp only [foIs, foEn, foFar, foRt] at HVy ⊢
          simp only at hs
          have hcv := HVy.out.cells
          simp only [foIs, foEn, foFar, foRt] at hcv
          obtain ⟨c0, c1, c2, c3, c4⟩ := hcv
          have hcu := HUy.out.cells
          simp only [foIs, foEn, foFar, foRt] at hcu
          obtain ⟨u0, u1, u2, u3, u4⟩ := hcu
          by_cases hle : x.en ≤ next.en
          · rw [if_pos hle] at hs
            simp only [Option.some.injEq, Prod.mk.injEq] at hs
            obtain ⟨rfl, hfr, rfl⟩ := hs
            have HFr := Lib.hid hfr
            clear hfr
            have hle2 : (x.en : Int) ≤ next.en := by exact_mod_cast hle
            go_upto_region 11 with (fail)
            rw [HFr.out]
            go_upto_region 14 with (fail)
            clear c0 c1 c2 c3 c4 u0 u1 u2 u3 u4 hle hle2
            have q4 := box_one HBy.out.1
            obtain ⟨-, -, -, -, -, -, t6⟩ := HTy.out.cells
            rw [← HTb.out] at t6
            obtain ⟨svE, hstE⟩ := HTy.out.sto
            go_wp2_with fail
            refine (st_End y hstE).mono ?_
            rintro e wE ⟨rfl, hst5, hk5⟩
            obtain ⟨htE, hkE⟩ := HTy.out.stored (by decide) hk5 hst5
            have HTE := Lib.hid htE
            have HKE := Lib.hid (KeepT.tra HKy.out hkE)
            have HBE := Lib.hid (show wE.heap[X + 1]? = some (.cells #[.int .i64 rN] 3 (0, 0)) ∧ wE.heap[X + 1 + 1]? = some (.cells #[.int .i64 p] 3 (0, 0)) ∧ wE.heap[X + 1 + 1 + 1]? = some (.cells #[.bool false, .int .i64 0, .int .i64 0, .int .i64 0, .slice none 0 0] 73 (0, 0)) from ⟨hkE.cells HBy.out.2.1 (by decide), hkE.cells HBy.out.2.2.1 (by decide), hkE.cells HBy.out.2.2.2 (by decide)⟩)
            have HUE := Lib.hid (HUy.out.keepT hkE)
            clear q4 t6 hstE hst5 hk5 htE hkE
            obtain ⟨fvE, HUE0⟩ : ∃ fvE, FoBox wE U (.hit next) fvE := ⟨_, HUE.out⟩
            clear HUE
            obtain ⟨ua, uc, hfe⟩ := HUE0.2.val'
            subst hfe
            have HUE := Lib.hid HUE0
            clear HUE0
            obtain ⟨un, hun⟩ : ∃ un, un = (foF (.hit next)).length := ⟨_, rfl⟩
            rw [← hun] at HUE
            clear hun
            have hcu := HUE.out.cells
            simp only [foIs, foEn, foFar, foRt] at hcu
            obtain ⟨c0, c1, c2, c3, c4⟩ := hcu
            go_upto_region 17 with (fail)
            clear c0 c1 c2 c3 c4
            refine wp_region_held_drew (S := fun z => z.heap[X + 1]? = some (.cells #[.int .i64 rN] 3 (0, 0)) ∧ z.heap[X + 1 + 1]? = some (.cells #[.int .i64 p] 3 (0, 0)) ∧ FoBox z U (.hit next) (.slice ua un uc)) (by kernel_rfl) ⟨HBE.out.1, HBE.out.2.1, HUE.out.later ((Below.refl _ _).drew)⟩ (fun hS => ?_)
            refine wpAnyH_take (i := 0) (oi := ⟨_, _, _, _, _, _⟩) (v := ?v27) rfl (by kernel_rfl) (by kernel_rfl) (by kernel_rfl) (fun _ _ _ h => h) ?y27 hS ?_
            case y27 => first | (refine Or.inr ⟨by rfl, ?_⟩; with_reducible rfl) | (refine Or.inl ⟨by rfl, ?_⟩; intro wS hSw; have q5 := box_one hSw.1; have q7 := box_one hSw.2.1; have hcn := hSw.2.2.cells; simp only [foIs, foEn, foFar, foRt] at hcn; obtain ⟨c0, c1, c2, c3, c4⟩ := hcn; go_simp; try with_reducible rfl)
            simp only [Act.put, List.setIfInBounds_toArray, List.set_cons_zero, List.set_cons_succ]
            refine wpAnyH_take (i := 1) (oi := ⟨_, _, _, _, _, _⟩) (v := ?v28) rfl (by kernel_rfl) (by kernel_rfl) (by kernel_rfl) (fun _ _ _ h => h) ?y28 hS ?_
            case y28 => first | (refine Or.inr ⟨by rfl, ?_⟩; with_reducible rfl) | (refine Or.inl ⟨by rfl, ?_⟩; intro wS hSw; have q5 := box_one hSw.1; have q7 := box_one hSw.2.1; have hcn := hSw.2.2.cells; simp only [foIs, foEn, foFar, foRt] at hcn; obtain ⟨c0, c1, c2, c3, c4⟩ := hcn; go_simp; try with_reducible rfl)
            simp only [Act.put, List.setIfInBounds_toArray, List.set_cons_zero, List.set_cons_succ]
            refine wpAnyH_take (i := 3) (oi := ⟨_, _, _, _, _, _⟩) (v := ?v29) rfl (by kernel_rfl) (by kernel_rfl) (by kernel_rfl) (fun _ _ _ h => h) ?y29 hS ?_
            case y29 => first | (refine Or.inr ⟨by rfl, ?_⟩; with_reducible rfl) | (refine Or.inl ⟨by rfl, ?_⟩; intro wS hSw; have q5 := box_one hSw.1; have q7 := box_one hSw.2.1; have hcn := hSw.2.2.cells; simp only [foIs, foEn, foFar, foRt] at hcn; obtain ⟨c0, c1, c2, c3, c4⟩ := hcn; go_simp; try with_reducible rfl)
            simp only [Act.put, List.setIfInBounds_toArray, List.set_cons_zero, List.set_cons_succ]
            refine wpAnyH_take (i := 4) (oi := ⟨_, _, _, _, _, _⟩) (v := ?v30) rfl (by kernel_rfl) (by kernel_rfl) (by kernel_rfl) (fun _ _ _ h => h) ?y30 hS ?_
            case y30 => first | (refine Or.inr ⟨by rfl, ?_⟩; with_reducible rfl) | (refine Or.inl ⟨by rfl, ?_⟩; intro wS hSw; have q5 := box_one hSw.1; have q7 := box_one hSw.2.1; have hcn := hSw.2.2.cells; simp only [foIs, foEn, foFar, foRt] at hcn; obtain ⟨c0, c1, c2, c3, c4⟩ := hcn; go_simp; try with_reducible rfl)
            simp only [Act.put, List.setIfInBounds_toArray, List.set_cons_zero, List.set_cons_succ]
            refine wpAnyH_take (i := 5) (oi := ⟨_, _, _, _, _, _⟩) (v := ?v31) rfl (by kernel_rfl) (by kernel_rfl) (by kernel_rfl) (fun _ _ _ h => h) ?y31 hS ?_
            case y31 => first | (refine Or.inr ⟨by rfl, ?_⟩; with_reducible rfl) | (refine Or.inl ⟨by rfl, ?_⟩; intro wS hSw; have q5 := box_one hSw.1; have q7 := box_one hSw.2.1; have hcn := hSw.2.2.cells; simp only [foIs, foEn, foFar, foRt] at hcn; obtain ⟨c0, c1, c2, c3, c4⟩ := hcn; go_simp; try with_reducible rfl)
            simp only [Act.put, List.setIfInBounds_toArray, List.set_cons_zero, List.set_cons_succ]
            refine wpAnyH_ready (rs := [2]) (by kernel_rfl) (by simp) ?_
            refine AllReadyH.cons (o := ⟨_, _, _, _, _, _⟩) rfl (fun K hK => ?_) AllReadyH.nil
            go_simp
            refine (tried_any true next.en next.far next.roots frR ua un uc _).mono ?_
            obtain ⟨zf, hzf⟩ : ∃ zf, zf = max next.far frR := ⟨_, rfl⟩
            rw [← hzf]
            have HZf := Lib.hid hzf
            clear hzf
            rintro e z4 ⟨rfl, hb4⟩
            go_wp2_with fail
            have hb5 : Below wE.heap.size wE z4 := (Below.refl wE.heap.size wE).drew.trans hb4
            have hS4 : z4.heap[X + 1]? = some (.cells #[.int .i64 rN] 3 (0, 0)) ∧ z4.heap[X + 1 + 1]? = some (.cells #[.int .i64 p] 3 (0, 0)) ∧ FoBox z4 U (.hit next) (.slice ua un uc) := ⟨(hb5.block _ (lt_of_block HBE.out.1)).trans HBE.out.1, (hb5.block _ (lt_of_block HBE.out.2.1)).trans HBE.out.2.1, HUE.out.later hb5⟩
            refine hK.out _ _ hS4 (fun hS2 => ?_)
            clear hK K hb4 hS hS2
            try simp only [Act.put, List.setIfInBounds_toArray, List.set_cons_zero, List.set_cons_succ]
            refine wpAnyH_ready (rs := [6]) (by kernel_rfl) (by simp) ?_
            refine AllReadyH.cons (o := ⟨_, _, _, _, _, _⟩) rfl (fun K hK => ?_) AllReadyH.nil
            go_simp
            refine (called_any next.en zf next.roots (rN : Int) lev (p : Int) _ next.forest z4 hS4.2.2.2 (by have := HCd.out; unfold Ht.called at this; split at this; assumption; cases this)).mono ?_
            rintro e z5 ⟨⟨fv', rfl, hfv⟩, hb6⟩
            obtain ⟨fa', fc', rfl⟩ := hfv.1.val
            have HW5 := Lib.hid hfv
            obtain ⟨ln, hln⟩ : ∃ ln, ln = (Tw.mk (rN : Int) lev (p : Int) next.en next.roots :: next.forest).length := ⟨_, rfl⟩
            rw [← hln] at HW5 ⊢
            clear hfv hln
            go_wp2_with fail
            have hb7 := hb5.trans (hb6.mono hb5.size)
            have hS5 : z5.heap[X + 1]? = some (.cells #[.int .i64 rN] 3 (0, 0)) ∧ z5.heap[X + 1 + 1]? = some (.cells #[.int .i64 p] 3 (0, 0)) ∧ FoBox z5 U (.hit next) (.slice ua un uc) := ⟨(hb7.block _ (lt_of_block HBE.out.1)).trans HBE.out.1, (hb7.block _ (lt_of_block HBE.out.2.1)).trans HBE.out.2.1, HUE.out.later hb7⟩
            refine hK.out _ _ hS5 (fun hS2 => ?_)
            clear hK K hb6 hb5 hS4 hS2
            try simp only [Act.put, List.setIfInBounds_toArray, List.set_cons_zero, List.set_cons_succ]
            have HT5 := Lib.hid (HTE.out.later hb7)
            have HK5 := Lib.hid (KeepT.tra HKE.out (KeepT.ofBelow hb7))
            have H85 := Lib.hid ((hb7.block _ (lt_of_block HBE.out.2.2)).trans HBE.out.2.2)
            have hgr : gR' = ⟨next.en, zf, 1, ⟨(rN : Int), lev, (p : Int), next.en, next.roots⟩ :: next.forest⟩ := by
              have := HCd.out
              unfold Ht.called at this
              split at this
              · rw [HZf.out]; exact (Option.some.inj this).symm
              · cases this
            have HGr := Lib.hid hgr
            clear hgr hb7
            refine wpAnyH_ready (rs := [7]) (by kernel_rfl) (by simp) ?_
            refine AllReadyH.cons (o := ⟨_, _, _, _, _, _⟩) rfl (fun K hK => ?_) AllReadyH.nil
            obtain ⟨d0, d1, d2, d3, d4⟩ := five_box H85.out
            obtain ⟨g0, g1, g2, g3, g4⟩ := five_frz H85.out
            go_simp
            obtain ⟨k5, hk5⟩ := set5 H85.out (.bool true) (.int .i64 next.en) (.int .i64 zf) (.int .i64 1) (.slice fa' ln fc')
            have hxw : w.heap.size ≤ X + 1 + 1 + 1 := by have := HX.out; omega
            refine hK.out _ _ ⟨hk5.obj hS5.1 (by omega), hk5.obj hS5.2.1 (by omega), hS5.2.2.other H85.out hk5 (by have := HUX.out; omega)⟩ (fun hS3 => ?_)
            clear hK K hS3 hS5
            try simp only [Act.put, List.setIfInBounds_toArray, List.set_cons_zero, List.set_cons_succ]
            refine wpAnyH_done (by kernel_rfl) ?_ _
            go_wp2
            rw [← HS1.out, ← HR1.out, HGr.out]
            obtain ⟨q0, q1, q2, q3, q4⟩ := five_box k5
            exact bodyPost_ret (v := .agg #[.bool true, .int .i64 next.en, .int .i64 zf, .int .i64 1, .slice fa' ln fc']) (by simp [results, Tryz.f25, go_sem, q0, q1, q2, q3, q4]) rfl ⟨⟨_, rfl, _, rfl, HW5.out.res H85.out hk5⟩, HT5.out.res H85.out (Nat.le_trans H.out.base hxw) hk5, HK5.out.endAt hxw hk5⟩
          · rw [if_neg hle] at hs
            have hle2 : ¬ ((x.en : Int) ≤ next.en) := by omega
            have HSg := Lib.hid hs
            obtain ⟨fx, hfx⟩ : ∃ fx, fx = max far x.far := ⟨_, rfl⟩
            rw [← hfx] at HSg
            have HFx := Lib.hid hfx
            clear hs
            go_upto_region 11 with (fail)
            rw [← hfx]
            clear hfx
            have hn := one_new y (.cells #[.bool true, .int .i64 x.en, .int .i64 x.far, .int .i64 x.roots, .slice fa m fc] 73 (0, 0))
            go_wp2
            have hb := hn.1
            have HT4 := Lib.hid (HTy.out.later hb)
            have HK4 := Lib.hid (KeepT.tra HKy.out (KeepT.ofBelow hb))
            have HB4 := Lib.hid (And.intro ((hb.block _ (lt_of_block HBy.out.1)).trans HBy.out.1) (And.intro ((hb.block _ (lt_of_block HBy.out.2.1)).trans HBy.out.2.1) (And.intro ((hb.block _ (lt_of_block HBy.out.2.2.1)).trans HBy.out.2.2.1) ((hb.block _ (lt_of_block HBy.out.2.2.2)).trans HBy.out.2.2.2))))
            have HU4 := Lib.hid (HUy.out.later hb)
            have HV4 := Lib.hid (show FoBox _ y.heap.size (.hit x) (.slice fa m fc) from ⟨hn.2, HVy.out.2.later hb⟩)
            have huy := lt_of_block HUy.out.1
            have hxx := HUX.out
            go_roundg gn
            case measure => omega
            case rel => exact ⟨next, x, fx, s1, ⟨true, next.en, lev, next.forest, gv⟩, _, _, y.heap.size, rfl, rfl, Lib.hid ⟨HO.out.2.1, HQ.out, by have := HFx.out; have h1 := HQ.out.2.2.1; have h2 := HO.out.2.2.1; omega, by have := HFx.out; have h1 := HQ.out.2.2.2.1; have h2 := HO.out.2.2.2; omega⟩, Lib.hid ⟨Nat.le_trans HSl.out.1 HS.out.1, HSg.out⟩, Lib.hid ⟨HU4.out, HV4.out, by omega, by omega⟩, HT4, Lib.hid (.inr ⟨by simp only; omega, rfl⟩), HK4, HB4⟩
end Go.Proofs.YtkimkghldilliaaGreat
