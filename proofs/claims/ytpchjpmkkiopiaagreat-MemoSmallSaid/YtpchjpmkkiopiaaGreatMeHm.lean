import Derived.Test.YtpchjpmkkiopiaaGreatMeGm
namespace Go.Proofs.YtpchjpmkkiopiaaGreat
open Go.RowKit Go.Lib

theorem EnIs.keepP [Watch] {base : Nat} {w w' : World} {em : Nat} {L : List Rec} (h : EnIs w em L) (hk : KeepX base em w w') : EnIs w' em L := h.keepX hk
set_option maxRecDepth 100000 in
set_option maxHeartbeats 8000000 in
theorem mPut0_any [Watch] {base : Nat} {p q nm km em : Nat} {next room peak : Int} {L : List Rec} {k : Ky} (x : Ent) (w : World) (h : MeIs base w p q nm km em next room peak L) (hkk : kyOk k) (ht : TwOwn 0 w x.tv x.tree) (hv : IvOwn 0 w x.kv x.tou) (hlt : x.tree.length ≤ 1000000) (hlk : x.tou.length ≤ 1000000) (hr0 : room = 0) :
    Calls Tryz.prog 13 #[.pointer (some ⟨p, 0, none⟩), kyv k, entv x] w fun e w' => e = .returned (.tuple #[.slice none 0 0, .int .i64 12]) ∧ Below w.heap.size w w' := by
  obtain ⟨xis, xen, xfar, xtree, xtou, xtv, xkv⟩ := x
  simp only at *
  obtain ⟨at1, ct, rfl⟩ := own_val ht
  obtain ⟨ak1, ck, rfl⟩ := own_val hv
  have HT := Lib.hid (show ∀ u, Below w.heap.size w u → TwOwn 0 u (.slice at1 xtree.length ct) xtree from fun u h => row_later ht h)
  have HV := Lib.hid (show ∀ u, Below w.heap.size w u → IvOwn 0 u (.slice ak1 xtou.length ck) xtou from fun u h => row_later hv h)
  have HL1 := Lib.hid hlt
  have HL2 := Lib.hid hlk
  obtain ⟨n1, hn1⟩ : ∃ n, n = xtree.length := ⟨_, rfl⟩
  obtain ⟨n2, hn2⟩ : ∃ n, n = xtou.length := ⟨_, rfl⟩
  rw [← hn1] at HT ⊢
  rw [← hn2] at HV ⊢
  have HN1 := Lib.hid hn1
  have HN2 := Lib.hid hn2
  have H := Lib.hid h
  have HOk := Lib.hid hkk
  clear h hkk ht hv hlt hlk hn1 hn2
  subst hr0
  go_enter Tryz.func13, Tryz.ntmps13
  go_upto_region 1 with (fail)
  refine gen_world (S := fun u => Below w.heap.size w u ∧ u.heap[w.heap.size]? = some (.cells #[.int .i64 k.rule, .int .i64 k.level, .int .i64 k.place] 24 (0, 0)) ∧ u.heap[w.heap.size + 1]? = some (.cells #[.bool xis, .int .i64 xen, .int .i64 xfar, .slice at1 n1 ct, .slice ak1 n2 ck] 30 (0, 0))) (two_new w _ _) (fun u hu => ?_)
  obtain ⟨hb, hx, hz⟩ := hu
  obtain ⟨X, hX⟩ : ∃ X, X = w.heap.size := ⟨_, rfl⟩
  have HXe := Lib.hid hX
  rw [← hX] at hx hz ⊢
  have HB := Lib.hid hb
  have HX := Lib.hid hx
  have HZ := Lib.hid hz
  have Hu := Lib.hid (H.out.later hb)
  clear hX hb hx hz
  obtain ⟨⟨-, -, -, -, c4, -⟩, -⟩ := seven_box Hu.out.ln.blk
  go_wp2_with fail
  refine (Hu.out.ln.made u).mono ?_
  rintro e w1 ⟨rfl, rfl⟩
  go_wp2
  go_ret2
  exact ⟨rfl, HB.out⟩
set_option maxRecDepth 100000 in
set_option maxHeartbeats 8000000 in
theorem mPutO_any [Watch] {base : Nat} {p q nm km em : Nat} {next room peak : Int} {L : List Rec} {k : Ky} (x : Ent) (w : World) (h : MeIs base w p q nm km em next room peak L) (hkk : kyOk k) (ht : TwOwn 0 w x.tv x.tree) (hv : IvOwn 0 w x.kv x.tou) (hlt : x.tree.length ≤ 1000000) (hlk : x.tou.length ≤ 1000000) (hr0 : room ≠ 0) (hr : hasK L k = true) :
    Calls Tryz.prog 13 #[.pointer (some ⟨p, 0, none⟩), kyv k, entv x] w fun e w' => e = .returned (.tuple #[.slice none 0 0, .int .i64 0]) ∧ ∃ tv kv, MeIs base w' p q nm km em next room (max peak L.length) (setK L k ⟨x.is, x.en, x.far, x.tree, x.tou, tv, kv⟩) ∧ KeepM base w w' := by
  obtain ⟨xis, xen, xfar, xtree, xtou, xtv, xkv⟩ := x
  simp only at *
  obtain ⟨at1, ct, rfl⟩ := own_val ht
  obtain ⟨ak1, ck, rfl⟩ := own_val hv
  have HT := Lib.hid (show ∀ u, Below w.heap.size w u → TwOwn 0 u (.slice at1 xtree.length ct) xtree from fun u h => row_later ht h)
  have HV := Lib.hid (show ∀ u, Below w.heap.size w u → IvOwn 0 u (.slice ak1 xtou.length ck) xtou from fun u h => row_later hv h)
  have HL1 := Lib.hid hlt
  have HL2 := Lib.hid hlk
  obtain ⟨n1, hn1⟩ : ∃ n, n = xtree.length := ⟨_, rfl⟩
  obtain ⟨n2, hn2⟩ : ∃ n, n = xtou.length := ⟨_, rfl⟩
  rw [← hn1] at HT ⊢
  rw [← hn2] at HV ⊢
  have HN1 := Lib.hid hn1
  have HN2 := Lib.hid hn2
  have H := Lib.hid h
  have HOk := Lib.hid hkk
  clear h hkk ht hv hlt hlk hn1 hn2
  obtain ⟨r, hr2⟩ := Option.isSome_iff_exists.1 (show (fndK L k).isSome = true from hr)
  have HR := Lib.hid hr
  have HLk := Lib.hid (fun (wS : World) (hw : Below w.heap.size w wS) => by have := ent_look (H.out.later hw).en HOk.out true; rw [hr2] at this; exact this)
  have hto := (H.out.en.tws r (fndK_some hr2).1).1
  have hko := (H.out.en.ivs r (fndK_some hr2).1).1
  obtain ⟨au1, cu, hau⟩ := own_val hto
  obtain ⟨al1, cl, hal⟩ := own_val hko
  obtain ⟨rk, rn, ⟨uis, uen, ufar, utree, utou, utv, ukv⟩⟩ := r
  simp only at hau hal HLk
  subst hau hal
  simp only [entv, Option.map_some, Option.getD_some, if_true, Option.isSome_some] at HLk
  clear hr hr2 hto hko
  have hr0' : (room == 0) = false := by simpa using hr0
  clear hr0
  go_enter Tryz.func13, Tryz.ntmps13
  go_upto_region 1 with (fail)
  refine gen_world (S := fun u => Below w.heap.size w u ∧ u.heap[w.heap.size]? = some (.cells #[.int .i64 k.rule, .int .i64 k.level, .int .i64 k.place] 24 (0, 0)) ∧ u.heap[w.heap.size + 1]? = some (.cells #[.bool xis, .int .i64 xen, .int .i64 xfar, .slice at1 n1 ct, .slice ak1 n2 ck] 30 (0, 0))) (two_new w _ _) (fun u hu => ?_)
  obtain ⟨hb, hx, hz⟩ := hu
  obtain ⟨X, hX⟩ : ∃ X, X = w.heap.size := ⟨_, rfl⟩
  have HXe := Lib.hid hX
  rw [← hX] at hx hz ⊢
  have HB := Lib.hid hb
  have HX := Lib.hid hx
  have HZ := Lib.hid hz
  have Hu := Lib.hid (H.out.later hb)
  clear hX hb hx hz
  obtain ⟨⟨-, -, -, -, c4, -⟩, -⟩ := seven_box Hu.out.ln.blk
  go_wp2_with fail
  refine (Hu.out.ln.made u).mono ?_
  rintro e w1 ⟨rfl, rfl⟩
  go_upto_region 5 with (fail)
  clear c4
  have HBlk := Lib.hid (fun (wS : World) (hw : Below u.heap.size u wS) => (Hu.out.later hw).ln.blk)
  refine wp_region_held_drew (S := fun v => Below u.heap.size u v) (by kernel_rfl) (Below.refl u.heap.size u).drew (fun hS => ?_)
  refine wpAnyH_take (i := 0) (oi := ⟨_, _, _, _, _, _⟩) (v := ?v1) rfl (by kernel_rfl) (by kernel_rfl) (by kernel_rfl) (fun _ _ _ h => h) ?y1 hS ?_
  case y1 => first | (refine Or.inr ⟨by rfl, ?_⟩; with_reducible rfl) | (refine Or.inl ⟨by rfl, ?_⟩; intro wS hSw; obtain ⟨⟨-, -, -, -, -, -, a6⟩, -⟩ := seven_box (HBlk.out wS hSw); obtain ⟨b0, b1, b2, -⟩ := three_box ((hSw.block _ (lt_of_block HX.out)).trans HX.out); have lk := HLk.out wS (HB.out.trans (hSw.mono HB.out.size)); go_simp; try with_reducible rfl)
  simp only [Act.put, List.setIfInBounds_toArray, List.set_cons_zero, List.set_cons_succ]
  refine wpAnyH_take (i := 1) (oi := ⟨_, _, _, _, _, _⟩) (v := ?v2) rfl (by kernel_rfl) (by kernel_rfl) (by kernel_rfl) (fun _ _ _ h => h) ?y2 hS ?_
  case y2 => first | (refine Or.inr ⟨by rfl, ?_⟩; with_reducible rfl) | (refine Or.inl ⟨by rfl, ?_⟩; intro wS hSw; obtain ⟨⟨-, -, -, -, -, -, a6⟩, -⟩ := seven_box (HBlk.out wS hSw); obtain ⟨b0, b1, b2, -⟩ := three_box ((hSw.block _ (lt_of_block HX.out)).trans HX.out); have lk := HLk.out wS (HB.out.trans (hSw.mono HB.out.size)); go_simp; try with_reducible rfl)
  simp only [Act.put, List.setIfInBounds_toArray, List.set_cons_zero, List.set_cons_succ]
  refine wpAnyH_take (i := 2) (oi := ⟨_, _, _, _, _, _⟩) (v := ?v3) rfl (by kernel_rfl) (by kernel_rfl) (by kernel_rfl) (fun _ _ _ h => h) ?y3 hS ?_
  case y3 => first | (refine Or.inr ⟨by rfl, ?_⟩; with_reducible rfl) | (refine Or.inl ⟨by rfl, ?_⟩; intro wS hSw; obtain ⟨⟨-, -, -, -, -, -, a6⟩, -⟩ := seven_box (HBlk.out wS hSw); obtain ⟨b0, b1, b2, -⟩ := three_box ((hSw.block _ (lt_of_block HX.out)).trans HX.out); have lk := HLk.out wS (HB.out.trans (hSw.mono HB.out.size)); go_simp; try with_reducible rfl)
  simp only [Act.put, List.setIfInBounds_toArray, List.set_cons_zero, List.set_cons_succ]
  refine wpAnyH_take (i := 3) (oi := ⟨_, _, _, _, _, _⟩) (v := ?v4) rfl (by kernel_rfl) (by kernel_rfl) (by kernel_rfl) (fun _ _ _ h => h) ?y4 hS ?_
  case y4 => first | (refine Or.inr ⟨by rfl, ?_⟩; with_reducible rfl) | (refine Or.inl ⟨by rfl, ?_⟩; intro wS hSw; obtain ⟨⟨-, -, -, -, -, -, a6⟩, -⟩ := seven_box (HBlk.out wS hSw); obtain ⟨b0, b1, b2, -⟩ := three_box ((hSw.block _ (lt_of_block HX.out)).trans HX.out); have lk := HLk.out wS (HB.out.trans (hSw.mono HB.out.size)); go_simp; try with_reducible rfl)
  simp only [Act.put, List.setIfInBounds_toArray, List.set_cons_zero, List.set_cons_succ]
  refine wpAnyH_take (i := 4) (oi := ⟨_, _, _, _, _, _⟩) (v := ?v5) rfl (by kernel_rfl) (by kernel_rfl) (by kernel_rfl) (fun _ _ _ h => h) ?y5 hS ?_
  case y5 => first | (refine Or.inr ⟨by rfl, ?_⟩; with_reducible rfl) | (refine Or.inl ⟨by rfl, ?_⟩; intro wS hSw; obtain ⟨⟨-, -, -, -, -, -, a6⟩, -⟩ := seven_box (HBlk.out wS hSw); obtain ⟨b0, b1, b2, -⟩ := three_box ((hSw.block _ (lt_of_block HX.out)).trans HX.out); have lk := HLk.out wS (HB.out.trans (hSw.mono HB.out.size)); go_simp; try with_reducible rfl)
  simp only [Act.put, List.setIfInBounds_toArray, List.set_cons_zero, List.set_cons_succ]
  refine wpAnyH_take (i := 5) (oi := ⟨_, _, _, _, _, _⟩) (v := ?v6) rfl (by kernel_rfl) (by kernel_rfl) (by kernel_rfl) (fun _ _ _ h => h) ?y6 hS ?_
  case y6 => first | (refine Or.inr ⟨by rfl, ?_⟩; with_reducible rfl) | (refine Or.inl ⟨by rfl, ?_⟩; intro wS hSw; obtain ⟨⟨-, -, -, -, -, -, a6⟩, -⟩ := seven_box (HBlk.out wS hSw); obtain ⟨b0, b1, b2, -⟩ := three_box ((hSw.block _ (lt_of_block HX.out)).trans HX.out); have lk := HLk.out wS (HB.out.trans (hSw.mono HB.out.size)); go_simp; try with_reducible rfl)
  simp only [Act.put, List.setIfInBounds_toArray, List.set_cons_zero, List.set_cons_succ]
  refine wpAnyH_take (i := 6) (oi := ⟨_, _, _, _, _, _⟩) (v := ?v7) rfl (by kernel_rfl) (by kernel_rfl) (by kernel_rfl) (fun _ _ _ h => h) ?y7 hS ?_
  case y7 => first | (refine Or.inr ⟨by rfl, ?_⟩; with_reducible rfl) | (refine Or.inl ⟨by rfl, ?_⟩; intro wS hSw; obtain ⟨⟨-, -, -, -, -, -, a6⟩, -⟩ := seven_box (HBlk.out wS hSw); obtain ⟨b0, b1, b2, -⟩ := three_box ((hSw.block _ (lt_of_block HX.out)).trans HX.out); have lk := HLk.out wS (HB.out.trans (hSw.mono HB.out.size)); go_simp; try with_reducible rfl)
  simp only [Act.put, List.setIfInBounds_toArray, List.set_cons_zero, List.set_cons_succ]
  refine wpAnyH_take (i := 7) (oi := ⟨_, _, _, _, _, _⟩) (v := ?v8) rfl (by kernel_rfl) (by kernel_rfl) (by kernel_rfl) (fun _ _ _ h => h) ?y8 hS ?_
  case y8 => first | (refine Or.inr ⟨by rfl, ?_⟩; with_reducible rfl) | (refine Or.inl ⟨by rfl, ?_⟩; intro wS hSw; obtain ⟨⟨-, -, -, -, -, -, a6⟩, -⟩ := seven_box (HBlk.out wS hSw); obtain ⟨b0, b1, b2, -⟩ := three_box ((hSw.block _ (lt_of_block HX.out)).trans HX.out); have lk := HLk.out wS (HB.out.trans (hSw.mono HB.out.size)); go_simp; try with_reducible rfl)
  simp only [Act.put, List.setIfInBounds_toArray, List.set_cons_zero, List.set_cons_succ]
  refine wpAnyH_take (i := 8) (oi := ⟨_, _, _, _, _, _⟩) (v := ?v9) rfl (by kernel_rfl) (by kernel_rfl) (by kernel_rfl) (fun _ _ _ h => h) ?y9 hS ?_
  case y9 => first | (refine Or.inr ⟨by rfl, ?_⟩; with_reducible rfl) | (refine Or.inl ⟨by rfl, ?_⟩; intro wS hSw; obtain ⟨⟨-, -, -, -, -, -, a6⟩, -⟩ := seven_box (HBlk.out wS hSw); obtain ⟨b0, b1, b2, -⟩ := three_box ((hSw.block _ (lt_of_block HX.out)).trans HX.out); have lk := HLk.out wS (HB.out.trans (hSw.mono HB.out.size)); go_simp; try with_reducible rfl)
  simp only [Act.put, List.setIfInBounds_toArray, List.set_cons_zero, List.set_cons_succ]
  refine wpAnyH_ready (rs := [9]) (by kernel_rfl) (by simp) ?_
  refine AllReadyH.cons (o := ⟨_, _, _, _, _, _⟩) rfl (fun K hK => ?_) AllReadyH.nil
  go_simp
  have hS2 := hS.alloc hS.size (.cells #[.bool false, .int .i64 0, .int .i64 0, .slice none 0 0, .slice none 0 0] 30 (0, 0))
  refine hK.out _ _ hS2 (fun hSd => ?_)
  clear hSd hK K
  try simp only [Act.put, List.setIfInBounds_toArray, List.set_cons_zero, List.set_cons_succ]
  refine wpAnyH_ready (rs := [10]) (by kernel_rfl) (by simp) ?_
  refine AllReadyH.cons (o := ⟨_, _, _, _, _, _⟩) rfl (fun K hK => ?_) AllReadyH.nil
  go_simp
  refine hK.out _ _ (hS.alloc hS.size _) (fun hS3 => ?_)
  clear hK K
  try simp only [Act.put, List.setIfInBounds_toArray, List.set_cons_zero, List.set_cons_succ]
  refine wpAnyH_take (i := 11) (oi := ⟨_, _, _, _, _, _⟩) (v := ?v10) rfl (by kernel_rfl) (by kernel_rfl) (by kernel_rfl) (fun _ _ _ h => h) ?y10 hS3 ?_
  case y10 => first | (refine Or.inr ⟨by rfl, ?_⟩; with_reducible rfl) | (refine Or.inl ⟨by rfl, ?_⟩; intro wS hSw; go_simp; try with_reducible rfl)
  simp only [Act.put, List.setIfInBounds_toArray, List.set_cons_zero, List.set_cons_succ]
  refine gen_anyH (S2 := fun v => Below u.heap.size u v) hS3 (fun v hS => ?_)
  refine wpAnyH_done (by kernel_rfl) ?_ _
  clear hS3 hS2
  have HL := Lib.hid (Hu.out.later hS)
  have HLn := Lib.hid (HL.out.ln)
  have HEn := Lib.hid (HL.out.en)
  have HXv := Lib.hid ((hS.block _ (lt_of_block HX.out)).trans HX.out)
  have HZv := Lib.hid ((hS.block _ (lt_of_block HZ.out)).trans HZ.out)
  have HBv := Lib.hid (HB.out.trans (hS.mono HB.out.size))
  have HKv := Lib.hid (show KeepM base w v from Keeps.ofNew HBv.out _)
  clear hS HB HX HZ Hu HLk HBlk
  have HTv := Lib.hid (HT.out v HBv.out)
  have HVv := Lib.hid (HV.out v HBv.out)
  have HLx := Lib.hid (fun x => HLn.out.set k x)
  clear HL hr0'
  go_upto_region 11 with (fail)
  have HBk := Lib.hid (HLx.out ⟨false, 0, 0, [], [], .slice none 0 0, .slice none 0 0⟩).blk
  refine wp_region_held_drew (S := fun z => z.heap[p]? = some (.cells #[.pointer (some ⟨q, 0, none⟩), .map (some nm), .map (some km), .int .i64 (next), .int .i64 room, .int .i64 (peak), .map (some em)] 74 (0, 0)) ∧ z.heap[X]? = some (.cells #[.int .i64 k.rule, .int .i64 k.level, .int .i64 k.place] 24 (0, 0)) ∧ z.heap[X + 1]? = some (.cells #[.bool xis, .int .i64 xen, .int .i64 xfar, .slice at1 n1 ct, .slice ak1 n2 ck] 30 (0, 0))) (by kernel_rfl) ⟨HBk.out, HXv.out, HZv.out⟩ (fun hS => ?_)
  refine wpAnyH_take (i := 0) (oi := ⟨_, _, _, _, _, _⟩) (v := ?v11) rfl (by kernel_rfl) (by kernel_rfl) (by kernel_rfl) (fun _ _ _ h => h) ?y11 hS ?_
  case y11 => first | (refine Or.inr ⟨by rfl, ?_⟩; with_reducible rfl) | (refine Or.inl ⟨by rfl, ?_⟩; intro wS hSw; obtain ⟨⟨-, -, -, -, -, -, a6⟩, -⟩ := seven_box hSw.1; obtain ⟨b0, b1, b2, -⟩ := three_box hSw.2.1; obtain ⟨⟨d0, d1, d2, d3, d4⟩, -⟩ := five_box hSw.2.2; go_simp; try with_reducible rfl)
  simp only [Act.put, List.setIfInBounds_toArray, List.set_cons_zero, List.set_cons_succ]
  refine wpAnyH_take (i := 1) (oi := ⟨_, _, _, _, _, _⟩) (v := ?v12) rfl (by kernel_rfl) (by kernel_rfl) (by kernel_rfl) (fun _ _ _ h => h) ?y12 hS ?_
  case y12 => first | (refine Or.inr ⟨by rfl, ?_⟩; with_reducible rfl) | (refine Or.inl ⟨by rfl, ?_⟩; intro wS hSw; obtain ⟨⟨-, -, -, -, -, -, a6⟩, -⟩ := seven_box hSw.1; obtain ⟨b0, b1, b2, -⟩ := three_box hSw.2.1; obtain ⟨⟨d0, d1, d2, d3, d4⟩, -⟩ := five_box hSw.2.2; go_simp; try with_reducible rfl)
  simp only [Act.put, List.setIfInBounds_toArray, List.set_cons_zero, List.set_cons_succ]
  refine wpAnyH_take (i := 2) (oi := ⟨_, _, _, _, _, _⟩) (v := ?v13) rfl (by kernel_rfl) (by kernel_rfl) (by kernel_rfl) (fun _ _ _ h => h) ?y13 hS ?_
  case y13 => first | (refine Or.inr ⟨by rfl, ?_⟩; with_reducible rfl) | (refine Or.inl ⟨by rfl, ?_⟩; intro wS hSw; obtain ⟨⟨-, -, -, -, -, -, a6⟩, -⟩ := seven_box hSw.1; obtain ⟨b0, b1, b2, -⟩ := three_box hSw.2.1; obtain ⟨⟨d0, d1, d2, d3, d4⟩, -⟩ := five_box hSw.2.2; go_simp; try with_reducible rfl)
  simp only [Act.put, List.setIfInBounds_toArray, List.set_cons_zero, List.set_cons_succ]
  refine wpAnyH_take (i := 3) (oi := ⟨_, _, _, _, _, _⟩) (v := ?v14) rfl (by kernel_rfl) (by kernel_rfl) (by kernel_rfl) (fun _ _ _ h => h) ?y14 hS ?_
  case y14 => first | (refine Or.inr ⟨by rfl, ?_⟩; with_reducible rfl) | (refine Or.inl ⟨by rfl, ?_⟩; intro wS hSw; obtain ⟨⟨-, -, -, -, -, -, a6⟩, -⟩ := seven_box hSw.1; obtain ⟨b0, b1, b2, -⟩ := three_box hSw.2.1; obtain ⟨⟨d0, d1, d2, d3, d4⟩, -⟩ := five_box hSw.2.2; go_simp; try with_reducible rfl)
  simp only [Act.put, List.setIfInBounds_toArray, List.set_cons_zero, List.set_cons_succ]
  refine wpAnyH_take (i := 4) (oi := ⟨_, _, _, _, _, _⟩) (v := ?v15) rfl (by kernel_rfl) (by kernel_rfl) (by kernel_rfl) (fun _ _ _ h => h) ?y15 hS ?_
  case y15 => first | (refine Or.inr ⟨by rfl, ?_⟩; with_reducible rfl) | (refine Or.inl ⟨by rfl, ?_⟩; intro wS hSw; obtain ⟨⟨-, -, -, -, -, -, a6⟩, -⟩ := seven_box hSw.1; obtain ⟨b0, b1, b2, -⟩ := three_box hSw.2.1; obtain ⟨⟨d0, d1, d2, d3, d4⟩, -⟩ := five_box hSw.2.2; go_simp; try with_reducible rfl)
  simp only [Act.put, List.setIfInBounds_toArray, List.set_cons_zero, List.set_cons_succ]
  refine wpAnyH_take (i := 5) (oi := ⟨_, _, _, _, _, _⟩) (v := ?v16) rfl (by kernel_rfl) (by kernel_rfl) (by kernel_rfl) (fun _ _ _ h => h) ?y16 hS ?_
  case y16 => first | (refine Or.inr ⟨by rfl, ?_⟩; with_reducible rfl) | (refine Or.inl ⟨by rfl, ?_⟩; intro wS hSw; obtain ⟨⟨-, -, -, -, -, -, a6⟩, -⟩ := seven_box hSw.1; obtain ⟨b0, b1, b2, -⟩ := three_box hSw.2.1; obtain ⟨⟨d0, d1, d2, d3, d4⟩, -⟩ := five_box hSw.2.2; go_simp; try with_reducible rfl)
  simp only [Act.put, List.setIfInBounds_toArray, List.set_cons_zero, List.set_cons_succ]
  refine wpAnyH_ready (rs := [6]) (by kernel_rfl) (by simp) ?_
  refine AllReadyH.cons (o := ⟨_, _, _, _, _, _⟩) rfl (fun K hK => ?_) AllReadyH.nil
  go_simp
  have hdr := (Below.refl v.heap.size v).drew
  refine (copied_any ⟨xis, xen, xfar, xtree, xtou, .slice at1 n1 ct, .slice ak1 n2 ck⟩ v.drew (by have h5 := row_later HTv.out hdr; rw [HN1.out] at h5 ⊢; exact TwOwn.got h5) (by have h5 := row_later HVv.out hdr; rw [HN2.out] at h5 ⊢; exact IvOwn.got h5) HL1.out HL2.out).mono ?_
  rintro e v2 ⟨tv, kv, rfl, ho1, ho2, hb⟩
  have hb : Below v.heap.size v v2 := hdr.trans hb
  simp only at ho1 ho2
  obtain ⟨a1, c1, rfl⟩ := own_val ho1
  obtain ⟨a2, c2, rfl⟩ := own_val ho2
  rw [← HN1.out] at ho1 ⊢
  rw [← HN2.out] at ho2 ⊢
  have HLx2 := Lib.hid (fun x => (HLx.out x).later hb)
  have HEn2 := Lib.hid (HEn.out.later hb)
  have HX2 := Lib.hid ((hb.block _ (lt_of_block HXv.out)).trans HXv.out)
  have HZ2 := Lib.hid ((hb.block _ (lt_of_block HZv.out)).trans HZv.out)
  have HK2 := Lib.hid (KeepM.trans HKv.out (Keeps.ofNew hb _))
  have hlim := (HLx.out ⟨false, 0, 0, [], [], .slice none 0 0, .slice none 0 0⟩).lim
  have HO1 := Lib.hid (And.intro (ownsRow_base ho1 (Nat.zero_le _)) (not_watched ho1 hlim))
  have HO2 := Lib.hid (And.intro (ownsRow_base ho2 (Nat.zero_le _)) (not_watched ho2 hlim))

  obtain ⟨v3, hrun, hm3, hk3⟩ := HEn2.out.map.put Tryz.underlying72 (by have := (H.out.ln).le; have := (H.out.ln).nle; omega) HOk.out (.agg #[.bool xis, .int .i64 xen, .int .i64 xfar, .slice a1 n1 c1, .slice a2 n2 c2])
  have HRun := Lib.hid hrun
  have HEn3 := Lib.hid (EnIs.set (x := ⟨xis, xen, xfar, xtree, xtou, .slice a1 n1 c1, .slice a2 n2 c2⟩) HEn2.out HR.out ⟨by have := HO1.out.1; rw [HN1.out] at this ⊢; exact this, HO1.out.2⟩ ⟨by have := HO2.out.1; rw [HN2.out] at this ⊢; exact this, HO2.out.2⟩ hm3 hk3)
  have HLx3 := Lib.hid (fun x => (HLx2.out x).keepE hk3)
  have HK3 := Lib.hid (KeepM.trans HK2.out (keepM_map hk3 (HLx2.out ⟨false, 0, 0, [], [], .slice none 0 0, .slice none 0 0⟩).be (HLx2.out ⟨false, 0, 0, [], [], .slice none 0 0, .slice none 0 0⟩).we HEn2.out.map.blk))
  have hx3 := hk3.obj HX2.out (fun e => by obtain ⟨es, ck, h1⟩ := HEn2.out.map.blk; have := HX2.out; rw [e, h1] at this; simp at this)
  have hz3 := hk3.obj HZ2.out (fun e => by obtain ⟨es, ck, h1⟩ := HEn2.out.map.blk; have := HZ2.out; rw [e, h1] at this; simp at this)

  go_wp2_with fail
  refine hK.out _ _ ⟨(HLx2.out ⟨false, 0, 0, [], [], .slice none 0 0, .slice none 0 0⟩).blk, HX2.out, HZ2.out⟩ (fun hSd => ?_)
  clear hSd hK K hdr hb ho1 ho2 hlim hrun hm3
  try simp only [Act.put, List.setIfInBounds_toArray, List.set_cons_zero, List.set_cons_succ]
  refine wpAnyH_ready (rs := [7]) (by kernel_rfl) (by simp) ?_
  refine AllReadyH.cons (o := ⟨_, _, _, _, _, _⟩) rfl (fun K hK => ?_) AllReadyH.nil
  have hrun : (Instr.mapUpdate 72 (.map (some em)) (.agg #[.int .i64 k.rule, .int .i64 k.level, .int .i64 k.place]) (.agg #[.bool xis, .int .i64 xen, .int .i64 xfar, .slice a1 n1 c1, .slice a2 n2 c2])).run Tryz.prog v2 = .ok () v3 := HRun.out
  go_simp
  refine hK.out _ _ ⟨(HLx3.out ⟨false, 0, 0, [], [], .slice none 0 0, .slice none 0 0⟩).blk, hx3, hz3⟩ (fun hSd => ?_)
  clear hSd hK K hrun hx3 hz3 hk3
  try simp only [Act.put, List.setIfInBounds_toArray, List.set_cons_zero, List.set_cons_succ]
  refine wpAnyH_done (by kernel_rfl) ?_ _
  clear hS
  go_upto_region 12 with (fail)
  have HLy := Lib.hid (HLx3.out ⟨xis, xen, xfar, xtree, xtou, .slice a1 n1 c1, .slice a2 n2 c2⟩)
  obtain ⟨n, hn⟩ : ∃ n, n = (setK L k ⟨xis, xen, xfar, xtree, xtou, .slice a1 n1 c1, .slice a2 n2 c2⟩).length := ⟨_, rfl⟩
  have HNn := Lib.hid hn
  clear hn
  refine wp_region_held_drew (S := fun z => (∃ pk, z.heap[p]? = some (.cells #[.pointer (some ⟨q, 0, none⟩), .map (some nm), .map (some km), .int .i64 (next), .int .i64 room, .int .i64 (pk), .map (some em)] 74 (0, 0))) ∧ EnIs z em (setK L k ⟨xis, xen, xfar, xtree, xtou, .slice a1 n1 c1, .slice a2 n2 c2⟩)) (by kernel_rfl) ⟨⟨_, HLy.out.blk⟩, HEn3.out.later (Below.refl v3.heap.size v3).drew⟩ (fun hS => ?_)
  refine wpAnyH_take (i := 0) (oi := ⟨_, _, _, _, _, _⟩) (v := ?v17) rfl (by kernel_rfl) (by kernel_rfl) (by kernel_rfl) (fun _ _ _ h => h) ?y17 hS ?_
  case y17 => first | (refine Or.inr ⟨by rfl, ?_⟩; with_reducible rfl) | (refine Or.inl ⟨by rfl, ?_⟩; intro wS hSw; obtain ⟨⟨pkS, hpS⟩, heS⟩ := hSw; obtain ⟨⟨-, -, -, -, -, -, a6⟩, -⟩ := seven_box hpS; have hl := heS.map.size Tryz.underlying72 3; rw [← HNn.out] at hl; go_simp; try with_reducible rfl)
  simp only [Act.put, List.setIfInBounds_toArray, List.set_cons_zero, List.set_cons_succ]
  refine wpAnyH_take (i := 1) (oi := ⟨_, _, _, _, _, _⟩) (v := ?v18) rfl (by kernel_rfl) (by kernel_rfl) (by kernel_rfl) (fun _ _ _ h => h) ?y18 hS ?_
  case y18 => first | (refine Or.inr ⟨by rfl, ?_⟩; with_reducible rfl) | (refine Or.inl ⟨by rfl, ?_⟩; intro wS hSw; obtain ⟨⟨pkS, hpS⟩, heS⟩ := hSw; obtain ⟨⟨-, -, -, -, -, -, a6⟩, -⟩ := seven_box hpS; have hl := heS.map.size Tryz.underlying72 3; rw [← HNn.out] at hl; go_simp; try with_reducible rfl)
  simp only [Act.put, List.setIfInBounds_toArray, List.set_cons_zero, List.set_cons_succ]
  refine wpAnyH_take (i := 2) (oi := ⟨_, _, _, _, _, _⟩) (v := ?v19) rfl (by kernel_rfl) (by kernel_rfl) (by kernel_rfl) (fun _ _ _ h => h) ?y19 hS ?_
  case y19 => first | (refine Or.inr ⟨by rfl, ?_⟩; with_reducible rfl) | (refine Or.inl ⟨by rfl, ?_⟩; intro wS hSw; obtain ⟨⟨pkS, hpS⟩, heS⟩ := hSw; obtain ⟨⟨-, -, -, -, -, -, a6⟩, -⟩ := seven_box hpS; have hl := heS.map.size Tryz.underlying72 3; rw [← HNn.out] at hl; go_simp; try with_reducible rfl)
  simp only [Act.put, List.setIfInBounds_toArray, List.set_cons_zero, List.set_cons_succ]
  refine wpAnyH_take (i := 3) (oi := ⟨_, _, _, _, _, _⟩) (v := ?v20) rfl (by kernel_rfl) (by kernel_rfl) (by kernel_rfl) (fun _ _ _ h => h) ?y20 hS ?_
  case y20 => first | (refine Or.inr ⟨by rfl, ?_⟩; with_reducible rfl) | (refine Or.inl ⟨by rfl, ?_⟩; intro wS hSw; obtain ⟨⟨pkS, hpS⟩, heS⟩ := hSw; obtain ⟨⟨-, -, -, -, -, -, a6⟩, -⟩ := seven_box hpS; have hl := heS.map.size Tryz.underlying72 3; rw [← HNn.out] at hl; go_simp; try with_reducible rfl)
  simp only [Act.put, List.setIfInBounds_toArray, List.set_cons_zero, List.set_cons_succ]
  refine wpAnyH_take (i := 5) (oi := ⟨_, _, _, _, _, _⟩) (v := ?v21) rfl (by kernel_rfl) (by kernel_rfl) (by kernel_rfl) (fun _ _ _ h => h) ?y21 hS ?_
  case y21 => first | (refine Or.inr ⟨by rfl, ?_⟩; with_reducible rfl) | (refine Or.inl ⟨by rfl, ?_⟩; intro wS hSw; obtain ⟨⟨pkS, hpS⟩, heS⟩ := hSw; obtain ⟨⟨-, -, -, -, -, -, a6⟩, -⟩ := seven_box hpS; have hl := heS.map.size Tryz.underlying72 3; rw [← HNn.out] at hl; go_simp; try with_reducible rfl)
  simp only [Act.put, List.setIfInBounds_toArray, List.set_cons_zero, List.set_cons_succ]
  refine wpAnyH_take (i := 6) (oi := ⟨_, _, _, _, _, _⟩) (v := ?v22) rfl (by kernel_rfl) (by kernel_rfl) (by kernel_rfl) (fun _ _ _ h => h) ?y22 hS ?_
  case y22 => first | (refine Or.inr ⟨by rfl, ?_⟩; with_reducible rfl) | (refine Or.inl ⟨by rfl, ?_⟩; intro wS hSw; obtain ⟨⟨pkS, hpS⟩, heS⟩ := hSw; obtain ⟨⟨-, -, -, -, -, -, a6⟩, -⟩ := seven_box hpS; have hl := heS.map.size Tryz.underlying72 3; rw [← HNn.out] at hl; go_simp; try with_reducible rfl)
  simp only [Act.put, List.setIfInBounds_toArray, List.set_cons_zero, List.set_cons_succ]
  refine wpAnyH_take (i := 7) (oi := ⟨_, _, _, _, _, _⟩) (v := ?v23) rfl (by kernel_rfl) (by kernel_rfl) (by kernel_rfl) (fun _ _ _ h => h) ?y23 hS ?_
  case y23 => first | (refine Or.inr ⟨by rfl, ?_⟩; with_reducible rfl) | (refine Or.inl ⟨by rfl, ?_⟩; intro wS hSw; obtain ⟨⟨pkS, hpS⟩, heS⟩ := hSw; obtain ⟨⟨-, -, -, -, -, -, a6⟩, -⟩ := seven_box hpS; have hl := heS.map.size Tryz.underlying72 3; rw [← HNn.out] at hl; go_simp; try with_reducible rfl)
  simp only [Act.put, List.setIfInBounds_toArray, List.set_cons_zero, List.set_cons_succ]
  refine wpAnyH_take (i := 8) (oi := ⟨_, _, _, _, _, _⟩) (v := ?v24) rfl (by kernel_rfl) (by kernel_rfl) (by kernel_rfl) (fun _ _ _ h => h) ?y24 hS ?_
  case y24 => first | (refine Or.inr ⟨by rfl, ?_⟩; with_reducible rfl) | (refine Or.inl ⟨by rfl, ?_⟩; intro wS hSw; obtain ⟨⟨pkS, hpS⟩, heS⟩ := hSw; obtain ⟨⟨-, -, -, -, -, -, a6⟩, -⟩ := seven_box hpS; have hl := heS.map.size Tryz.underlying72 3; rw [← HNn.out] at hl; go_simp; try with_reducible rfl)
  simp only [Act.put, List.setIfInBounds_toArray, List.set_cons_zero, List.set_cons_succ]
  refine wpAnyH_take (i := 9) (oi := ⟨_, _, _, _, _, _⟩) (v := ?v25) rfl (by kernel_rfl) (by kernel_rfl) (by kernel_rfl) (fun _ _ _ h => h) ?y25 hS ?_
  case y25 => first | (refine Or.inr ⟨by rfl, ?_⟩; with_reducible rfl) | (refine Or.inl ⟨by rfl, ?_⟩; intro wS hSw; obtain ⟨⟨pkS, hpS⟩, heS⟩ := hSw; obtain ⟨⟨-, -, -, -, -, -, a6⟩, -⟩ := seven_box hpS; have hl := heS.map.size Tryz.underlying72 3; rw [← HNn.out] at hl; go_simp; try with_reducible rfl)
  simp only [Act.put, List.setIfInBounds_toArray, List.set_cons_zero, List.set_cons_succ]
  refine wpAnyH_ready (rs := [4]) (by kernel_rfl) (by simp) ?_
  refine AllReadyH.cons (o := ⟨_, _, _, _, _, _⟩) rfl (fun K hK => ?_) AllReadyH.nil
  obtain ⟨⟨-, -, -, -, -, a5, -⟩, -⟩ := seven_box HLy.out.blk
  go_simp
  refine hK.out _ _ hS (fun hSd => ?_)
  clear hSd hK K a5
  try simp only [Act.put, List.setIfInBounds_toArray, List.set_cons_zero, List.set_cons_succ]
  obtain ⟨pk, hpk⟩ : ∃ pk, pk = max peak (n : Int) := ⟨_, rfl⟩
  have hm1 : max peak (n : Int) = pk := hpk.symm
  have hm2 : max (n : Int) peak = pk := by omega
  have HPk := Lib.hid hpk
  clear hpk
  refine wpAnyH_take (i := 10) (oi := ⟨_, _, _, _, _, _⟩) (v := ?v26) rfl (by kernel_rfl) (by kernel_rfl) (by kernel_rfl) (fun _ _ _ h => h) ?y26 hS ?_
  case y26 => first | (refine Or.inr ⟨by rfl, ?_⟩; with_reducible rfl) | (refine Or.inl ⟨by rfl, ?_⟩; intro wS hSw; go_simp; try with_reducible rfl)
  simp only [Act.put, List.setIfInBounds_toArray, List.set_cons_zero, List.set_cons_succ]
  clear hm1 hm2
  refine wpAnyH_take (i := 11) (oi := ⟨_, _, _, _, _, _⟩) (v := ?v27) rfl (by kernel_rfl) (by kernel_rfl) (by kernel_rfl) (fun _ _ _ h => h) ?y27 hS ?_
  case y27 => first | (refine Or.inr ⟨by rfl, ?_⟩; with_reducible rfl) | (refine Or.inl ⟨by rfl, ?_⟩; intro wS hSw; obtain ⟨⟨pkS, hpS⟩, heS⟩ := hSw; obtain ⟨⟨-, -, -, -, -, -, a6⟩, -⟩ := seven_box hpS; have hl := heS.map.size Tryz.underlying72 3; rw [← HNn.out] at hl; go_simp; try with_reducible rfl)
  simp only [Act.put, List.setIfInBounds_toArray, List.set_cons_zero, List.set_cons_succ]
  refine wpAnyH_take (i := 12) (oi := ⟨_, _, _, _, _, _⟩) (v := ?v28) rfl (by kernel_rfl) (by kernel_rfl) (by kernel_rfl) (fun _ _ _ h => h) ?y28 hS ?_
  case y28 => first | (refine Or.inr ⟨by rfl, ?_⟩; with_reducible rfl) | (refine Or.inl ⟨by rfl, ?_⟩; intro wS hSw; obtain ⟨⟨pkS, hpS⟩, heS⟩ := hSw; obtain ⟨⟨-, -, -, -, -, -, a6⟩, -⟩ := seven_box hpS; have hl := heS.map.size Tryz.underlying72 3; rw [← HNn.out] at hl; go_simp; try with_reducible rfl)
  simp only [Act.put, List.setIfInBounds_toArray, List.set_cons_zero, List.set_cons_succ]
  refine wpAnyH_ready (rs := [13]) (by kernel_rfl) (by simp) ?_
  refine AllReadyH.cons (o := ⟨_, _, _, _, _, _⟩) rfl (fun K hK => ?_) AllReadyH.nil
  obtain ⟨⟨-, -, -, -, -, a5, -⟩, ⟨-, -, -, -, -, g5, -⟩⟩ := seven_box HLy.out.blk
  obtain ⟨hl4, hk4⟩ := HLy.out.setPeak pk
  go_simp
  refine hK.out _ _ ⟨⟨_, hl4.blk⟩, (HEn3.out.keepX hk4).later (Below.refl _ _).drew⟩ (fun hSd => ?_)
  clear hSd hK K a5 g5
  try simp only [Act.put, List.setIfInBounds_toArray, List.set_cons_zero, List.set_cons_succ]
  refine wpAnyH_done (by kernel_rfl) ?_ _
  clear hS
  have HF0 : MeIs base (v3.setCell ⟨p, 5, none⟩ (.int .i64 pk)) p q nm km em (next) room pk (setK L k ⟨xis, xen, xfar, xtree, xtou, .slice a1 n1 c1, .slice a2 n2 c2⟩) := ⟨hl4, HEn3.out.keepX hk4⟩
  have HF := Lib.hid (HF0.later (Below.refl _ _).drew)
  have HFk := Lib.hid (KeepM.trans (KeepM.trans HK3.out hk4.keepM) (Keeps.ofNew (Below.refl _ _).drew _))
  clear HF0

  clear hl4 hk4
  go_wp2
  go_ret2
  refine ⟨rfl, .slice a1 n1 c1, .slice a2 n2 c2, ?_, HFk.out⟩
  have hp := HPk.out
  rw [HNn.out, setK_len] at hp
  rw [← hp]
  exact HF.out
set_option maxRecDepth 100000 in
set_option maxHeartbeats 8000000 in
theorem mPutN_any [Watch] {base : Nat} {p q nm km em : Nat} {next room peak : Int} {L : List Rec} {k : Ky} (x : Ent) (w : World) (h : MeIs base w p q nm km em next room peak L) (hkk : kyOk k) (ht : TwOwn 0 w x.tv x.tree) (hv : IvOwn 0 w x.kv x.tou) (hlt : x.tree.length ≤ 1000000) (hlk : x.tou.length ≤ 1000000) (hr0 : room ≠ 0) (hn : fndK L k = none) (hnx : next < 100000) (hroom : (L.length : Int) ≠ room) :
    Calls Tryz.prog 13 #[.pointer (some ⟨p, 0, none⟩), kyv k, entv x] w fun e w' => e = .returned (.tuple #[.slice none 0 0, .int .i64 0]) ∧ ∃ tv kv, MeIs base w' p q nm km em (next + 1) room (max peak (L.length + 1)) (L ++ [⟨k, next, x.is, x.en, x.far, x.tree, x.tou, tv, kv⟩]) ∧ KeepM base w w' := by
  obtain ⟨xis, xen, xfar, xtree, xtou, xtv, xkv⟩ := x
  simp only at *
  obtain ⟨at1, ct, rfl⟩ := own_val ht
  obtain ⟨ak1, ck, rfl⟩ := own_val hv
  have HT := Lib.hid (show ∀ u, Below w.heap.size w u → TwOwn 0 u (.slice at1 xtree.length ct) xtree from fun u h => row_later ht h)
  have HV := Lib.hid (show ∀ u, Below w.heap.size w u → IvOwn 0 u (.slice ak1 xtou.length ck) xtou from fun u h => row_later hv h)
  have HL1 := Lib.hid hlt
  have HL2 := Lib.hid hlk
  obtain ⟨n1, hn1⟩ : ∃ n, n = xtree.length := ⟨_, rfl⟩
  obtain ⟨n2, hn2⟩ : ∃ n, n = xtou.length := ⟨_, rfl⟩
  rw [← hn1] at HT ⊢
  rw [← hn2] at HV ⊢
  have HN1 := Lib.hid hn1
  have HN2 := Lib.hid hn2
  have H := Lib.hid h
  have HOk := Lib.hid hkk
  clear h hkk ht hv hlt hlk hn1 hn2
  have HRm := Lib.hid hroom
  clear hroom
  have HN := Lib.hid hn
  have HLk := Lib.hid (fun (wS : World) (hw : Below w.heap.size w wS) => by have := ent_look (H.out.later hw).en HOk.out true; rw [hn] at this; exact this)
  have HNx := Lib.hid hnx
  have hr0' : (room == 0) = false := by simpa using hr0
  clear hr0 hn hnx
  go_enter Tryz.func13, Tryz.ntmps13
  go_upto_region 1 with (fail)
  refine gen_world (S := fun u => Below w.heap.size w u ∧ u.heap[w.heap.size]? = some (.cells #[.int .i64 k.rule, .int .i64 k.level, .int .i64 k.place] 24 (0, 0)) ∧ u.heap[w.heap.size + 1]? = some (.cells #[.bool xis, .int .i64 xen, .int .i64 xfar, .slice at1 n1 ct, .slice ak1 n2 ck] 30 (0, 0))) (two_new w _ _) (fun u hu => ?_)
  obtain ⟨hb, hx, hz⟩ := hu
  obtain ⟨X, hX⟩ : ∃ X, X = w.heap.size := ⟨_, rfl⟩
  have HXe := Lib.hid hX
  rw [← hX] at hx hz ⊢
  have HB := Lib.hid hb
  have HX := Lib.hid hx
  have HZ := Lib.hid hz
  have Hu := Lib.hid (H.out.later hb)
  clear hX hb hx hz
  obtain ⟨⟨-, -, -, -, c4, -⟩, -⟩ := seven_box Hu.out.ln.blk
  go_wp2_with fail
  refine (Hu.out.ln.made u).mono ?_
  rintro e w1 ⟨rfl, rfl⟩
  go_upto_region 5 with (fail)
  clear c4
  have HBlk := Lib.hid (fun (wS : World) (hw : Below u.heap.size u wS) => (Hu.out.later hw).ln.blk)
  refine wp_region_held_drew (S := fun v => Below u.heap.size u v) (by kernel_rfl) (Below.refl u.heap.size u).drew (fun hS => ?_)
  refine wpAnyH_take (i := 0) (oi := ⟨_, _, _, _, _, _⟩) (v := ?v29) rfl (by kernel_rfl) (by kernel_rfl) (by kernel_rfl) (fun _ _ _ h => h) ?y29 hS ?_
  case y29 => first | (refine Or.inr ⟨by rfl, ?_⟩; with_reducible rfl) | (refine Or.inl ⟨by rfl, ?_⟩; intro wS hSw; obtain ⟨⟨-, -, -, -, -, -, a6⟩, -⟩ := seven_box (HBlk.out wS hSw); obtain ⟨b0, b1, b2, -⟩ := three_box ((hSw.block _ (lt_of_block HX.out)).trans HX.out); have lk := HLk.out wS (HB.out.trans (hSw.mono HB.out.size)); go_simp; try with_reducible rfl)
  simp only [Act.put, List.setIfInBounds_toArray, List.set_cons_zero, List.set_cons_succ]
  refine wpAnyH_take (i := 1) (oi := ⟨_, _, _, _, _, _⟩) (v := ?v30) rfl (by kernel_rfl) (by kernel_rfl) (by kernel_rfl) (fun _ _ _ h => h) ?y30 hS ?_
  case y30 => first | (refine Or.inr ⟨by rfl, ?_⟩; with_reducible rfl) | (refine Or.inl ⟨by rfl, ?_⟩; intro wS hSw; obtain ⟨⟨-, -, -, -, -, -, a6⟩, -⟩ := seven_box (HBlk.out wS hSw); obtain ⟨b0, b1, b2, -⟩ := three_box ((hSw.block _ (lt_of_block HX.out)).trans HX.out); have lk := HLk.out wS (HB.out.trans (hSw.mono HB.out.size)); go_simp; try with_reducible rfl)
  simp only [Act.put, List.setIfInBounds_toArray, List.set_cons_zero, List.set_cons_succ]
  refine wpAnyH_take (i := 2) (oi := ⟨_, _, _, _, _, _⟩) (v := ?v31) rfl (by kernel_rfl) (by kernel_rfl) (by kernel_rfl) (fun _ _ _ h => h) ?y31 hS ?_
  case y31 => first | (refine Or.inr ⟨by rfl, ?_⟩; with_reducible rfl) | (refine Or.inl ⟨by rfl, ?_⟩; intro wS hSw; obtain ⟨⟨-, -, -, -, -, -, a6⟩, -⟩ := seven_box (HBlk.out wS hSw); obtain ⟨b0, b1, b2, -⟩ := three_box ((hSw.block _ (lt_of_block HX.out)).trans HX.out); have lk := HLk.out wS (HB.out.trans (hSw.mono HB.out.size)); go_simp; try with_reducible rfl)
  simp only [Act.put, List.setIfInBounds_toArray, List.set_cons_zero, List.set_cons_succ]
  refine wpAnyH_take (i := 3) (oi := ⟨_, _, _, _, _, _⟩) (v := ?v32) rfl (by kernel_rfl) (by kernel_rfl) (by kernel_rfl) (fun _ _ _ h => h) ?y32 hS ?_
  case y32 => first | (refine Or.inr ⟨by rfl, ?_⟩; with_reducible rfl) | (refine Or.inl ⟨by rfl, ?_⟩; intro wS hSw; obtain ⟨⟨-, -, -, -, -, -, a6⟩, -⟩ := seven_box (HBlk.out wS hSw); obtain ⟨b0, b1, b2, -⟩ := three_box ((hSw.block _ (lt_of_block HX.out)).trans HX.out); have lk := HLk.out wS (HB.out.trans (hSw.mono HB.out.size)); go_simp; try with_reducible rfl)
  simp only [Act.put, List.setIfInBounds_toArray, List.set_cons_zero, List.set_cons_succ]
  refine wpAnyH_take (i := 4) (oi := ⟨_, _, _, _, _, _⟩) (v := ?v33) rfl (by kernel_rfl) (by kernel_rfl) (by kernel_rfl) (fun _ _ _ h => h) ?y33 hS ?_
  case y33 => first | (refine Or.inr ⟨by rfl, ?_⟩; with_reducible rfl) | (refine Or.inl ⟨by rfl, ?_⟩; intro wS hSw; obtain ⟨⟨-, -, -, -, -, -, a6⟩, -⟩ := seven_box (HBlk.out wS hSw); obtain ⟨b0, b1, b2, -⟩ := three_box ((hSw.block _ (lt_of_block HX.out)).trans HX.out); have lk := HLk.out wS (HB.out.trans (hSw.mono HB.out.size)); go_simp; try with_reducible rfl)
  simp only [Act.put, List.setIfInBounds_toArray, List.set_cons_zero, List.set_cons_succ]
  refine wpAnyH_take (i := 5) (oi := ⟨_, _, _, _, _, _⟩) (v := ?v34) rfl (by kernel_rfl) (by kernel_rfl) (by kernel_rfl) (fun _ _ _ h => h) ?y34 hS ?_
  case y34 => first | (refine Or.inr ⟨by rfl, ?_⟩; with_reducible rfl) | (refine Or.inl ⟨by rfl, ?_⟩; intro wS hSw; obtain ⟨⟨-, -, -, -, -, -, a6⟩, -⟩ := seven_box (HBlk.out wS hSw); obtain ⟨b0, b1, b2, -⟩ := three_box ((hSw.block _ (lt_of_block HX.out)).trans HX.out); have lk := HLk.out wS (HB.out.trans (hSw.mono HB.out.size)); go_simp; try with_reducible rfl)
  simp only [Act.put, List.setIfInBounds_toArray, List.set_cons_zero, List.set_cons_succ]
  refine wpAnyH_take (i := 6) (oi := ⟨_, _, _, _, _, _⟩) (v := ?v35) rfl (by kernel_rfl) (by kernel_rfl) (by kernel_rfl) (fun _ _ _ h => h) ?y35 hS ?_
  case y35 => first | (refine Or.inr ⟨by rfl, ?_⟩; with_reducible rfl) | (refine Or.inl ⟨by rfl, ?_⟩; intro wS hSw; obtain ⟨⟨-, -, -, -, -, -, a6⟩, -⟩ := seven_box (HBlk.out wS hSw); obtain ⟨b0, b1, b2, -⟩ := three_box ((hSw.block _ (lt_of_block HX.out)).trans HX.out); have lk := HLk.out wS (HB.out.trans (hSw.mono HB.out.size)); go_simp; try with_reducible rfl)
  simp only [Act.put, List.setIfInBounds_toArray, List.set_cons_zero, List.set_cons_succ]
  refine wpAnyH_take (i := 7) (oi := ⟨_, _, _, _, _, _⟩) (v := ?v36) rfl (by kernel_rfl) (by kernel_rfl) (by kernel_rfl) (fun _ _ _ h => h) ?y36 hS ?_
  case y36 => first | (refine Or.inr ⟨by rfl, ?_⟩; with_reducible rfl) | (refine Or.inl ⟨by rfl, ?_⟩; intro wS hSw; obtain ⟨⟨-, -, -, -, -, -, a6⟩, -⟩ := seven_box (HBlk.out wS hSw); obtain ⟨b0, b1, b2, -⟩ := three_box ((hSw.block _ (lt_of_block HX.out)).trans HX.out); have lk := HLk.out wS (HB.out.trans (hSw.mono HB.out.size)); go_simp; try with_reducible rfl)
  simp only [Act.put, List.setIfInBounds_toArray, List.set_cons_zero, List.set_cons_succ]
  refine wpAnyH_take (i := 8) (oi := ⟨_, _, _, _, _, _⟩) (v := ?v37) rfl (by kernel_rfl) (by kernel_rfl) (by kernel_rfl) (fun _ _ _ h => h) ?y37 hS ?_
  case y37 => first | (refine Or.inr ⟨by rfl, ?_⟩; with_reducible rfl) | (refine Or.inl ⟨by rfl, ?_⟩; intro wS hSw; obtain ⟨⟨-, -, -, -, -, -, a6⟩, -⟩ := seven_box (HBlk.out wS hSw); obtain ⟨b0, b1, b2, -⟩ := three_box ((hSw.block _ (lt_of_block HX.out)).trans HX.out); have lk := HLk.out wS (HB.out.trans (hSw.mono HB.out.size)); go_simp; try with_reducible rfl)
  simp only [Act.put, List.setIfInBounds_toArray, List.set_cons_zero, List.set_cons_succ]
  refine wpAnyH_ready (rs := [9]) (by kernel_rfl) (by simp) ?_
  refine AllReadyH.cons (o := ⟨_, _, _, _, _, _⟩) rfl (fun K hK => ?_) AllReadyH.nil
  go_simp
  have hS2 := hS.alloc hS.size (.cells #[.bool false, .int .i64 0, .int .i64 0, .slice none 0 0, .slice none 0 0] 30 (0, 0))
  refine hK.out _ _ hS2 (fun hSd => ?_)
  clear hSd hK K
  try simp only [Act.put, List.setIfInBounds_toArray, List.set_cons_zero, List.set_cons_succ]
  refine wpAnyH_ready (rs := [10]) (by kernel_rfl) (by simp) ?_
  refine AllReadyH.cons (o := ⟨_, _, _, _, _, _⟩) rfl (fun K hK => ?_) AllReadyH.nil
  go_simp
  refine hK.out _ _ (hS.alloc hS.size _) (fun hS3 => ?_)
  clear hK K
  try simp only [Act.put, List.setIfInBounds_toArray, List.set_cons_zero, List.set_cons_succ]
  refine wpAnyH_take (i := 11) (oi := ⟨_, _, _, _, _, _⟩) (v := ?v38) rfl (by kernel_rfl) (by kernel_rfl) (by kernel_rfl) (fun _ _ _ h => h) ?y38 hS3 ?_
  case y38 => first | (refine Or.inr ⟨by rfl, ?_⟩; with_reducible rfl) | (refine Or.inl ⟨by rfl, ?_⟩; intro wS hSw; go_simp; try with_reducible rfl)
  simp only [Act.put, List.setIfInBounds_toArray, List.set_cons_zero, List.set_cons_succ]
  refine gen_anyH (S2 := fun v => Below u.heap.size u v) hS3 (fun v hS => ?_)
  refine wpAnyH_done (by kernel_rfl) ?_ _
  clear hS3 hS2
  have HL := Lib.hid (Hu.out.later hS)
  have HLn := Lib.hid (HL.out.ln)
  have HEn := Lib.hid (HL.out.en)
  have HXv := Lib.hid ((hS.block _ (lt_of_block HX.out)).trans HX.out)
  have HZv := Lib.hid ((hS.block _ (lt_of_block HZ.out)).trans HZ.out)
  have HBv := Lib.hid (HB.out.trans (hS.mono HB.out.size))
  have HKv := Lib.hid (show KeepM base w v from Keeps.ofNew HBv.out _)
  clear hS HB HX HZ Hu HLk HBlk
  clear hr0'
  have HBl := Lib.hid (fun (wS : World) (hw : Below v.heap.size v wS) => And.intro (HLn.out.later hw).blk ((HEn.out.later hw).map.size Tryz.underlying72 3))
  go_upto_region 7 with (fail)
  refine wp_region_held_drew (S := fun z => Below v.heap.size v z) (by kernel_rfl) (Below.refl v.heap.size v).drew (fun hS => ?_)
  obtain ⟨nl, hnl⟩ : ∃ nl, nl = L.length := ⟨_, rfl⟩
  have HNl := Lib.hid hnl
  have hq1 : ((nl : Int) == room) = false := by rw [hnl]; simpa using HRm.out
  have hq2 : decide ((nl : Int) = room) = false := by rw [hnl]; simpa using HRm.out
  clear hnl
  refine wpAnyH_take (i := 0) (oi := ⟨_, _, _, _, _, _⟩) (v := ?v39) rfl (by kernel_rfl) (by kernel_rfl) (by kernel_rfl) (fun _ _ _ h => h) ?y39 hS ?_
  case y39 => first | (refine Or.inr ⟨by rfl, ?_⟩; with_reducible rfl) | (refine Or.inl ⟨by rfl, ?_⟩; intro wS hSw; obtain ⟨hbS, hlS⟩ := HBl.out wS hSw; rw [← HNl.out] at hlS; obtain ⟨⟨-, -, -, -, a4, -, a6⟩, -⟩ := seven_box hbS; go_simp; try with_reducible rfl)
  simp only [Act.put, List.setIfInBounds_toArray, List.set_cons_zero, List.set_cons_succ]
  refine wpAnyH_take (i := 1) (oi := ⟨_, _, _, _, _, _⟩) (v := ?v40) rfl (by kernel_rfl) (by kernel_rfl) (by kernel_rfl) (fun _ _ _ h => h) ?y40 hS ?_
  case y40 => first | (refine Or.inr ⟨by rfl, ?_⟩; with_reducible rfl) | (refine Or.inl ⟨by rfl, ?_⟩; intro wS hSw; obtain ⟨hbS, hlS⟩ := HBl.out wS hSw; rw [← HNl.out] at hlS; obtain ⟨⟨-, -, -, -, a4, -, a6⟩, -⟩ := seven_box hbS; go_simp; try with_reducible rfl)
  simp only [Act.put, List.setIfInBounds_toArray, List.set_cons_zero, List.set_cons_succ]
  refine wpAnyH_take (i := 2) (oi := ⟨_, _, _, _, _, _⟩) (v := ?v41) rfl (by kernel_rfl) (by kernel_rfl) (by kernel_rfl) (fun _ _ _ h => h) ?y41 hS ?_
  case y41 => first | (refine Or.inr ⟨by rfl, ?_⟩; with_reducible rfl) | (refine Or.inl ⟨by rfl, ?_⟩; intro wS hSw; obtain ⟨hbS, hlS⟩ := HBl.out wS hSw; rw [← HNl.out] at hlS; obtain ⟨⟨-, -, -, -, a4, -, a6⟩, -⟩ := seven_box hbS; go_simp; try with_reducible rfl)
  simp only [Act.put, List.setIfInBounds_toArray, List.set_cons_zero, List.set_cons_succ]
  refine wpAnyH_take (i := 3) (oi := ⟨_, _, _, _, _, _⟩) (v := ?v42) rfl (by kernel_rfl) (by kernel_rfl) (by kernel_rfl) (fun _ _ _ h => h) ?y42 hS ?_
  case y42 => first | (refine Or.inr ⟨by rfl, ?_⟩; with_reducible rfl) | (refine Or.inl ⟨by rfl, ?_⟩; intro wS hSw; obtain ⟨hbS, hlS⟩ := HBl.out wS hSw; rw [← HNl.out] at hlS; obtain ⟨⟨-, -, -, -, a4, -, a6⟩, -⟩ := seven_box hbS; go_simp; try with_reducible rfl)
  simp only [Act.put, List.setIfInBounds_toArray, List.set_cons_zero, List.set_cons_succ]
  refine wpAnyH_take (i := 4) (oi := ⟨_, _, _, _, _, _⟩) (v := ?v43) rfl (by kernel_rfl) (by kernel_rfl) (by kernel_rfl) (fun _ _ _ h => h) ?y43 hS ?_
  case y43 => first | (refine Or.inr ⟨by rfl, ?_⟩; with_reducible rfl) | (refine Or.inl ⟨by rfl, ?_⟩; intro wS hSw; obtain ⟨hbS, hlS⟩ := HBl.out wS hSw; rw [← HNl.out] at hlS; obtain ⟨⟨-, -, -, -, a4, -, a6⟩, -⟩ := seven_box hbS; go_simp; try with_reducible rfl)
  simp only [Act.put, List.setIfInBounds_toArray, List.set_cons_zero, List.set_cons_succ]
  refine wpAnyH_take (i := 5) (oi := ⟨_, _, _, _, _, _⟩) (v := ?v44) rfl (by kernel_rfl) (by kernel_rfl) (by kernel_rfl) (fun _ _ _ h => h) ?y44 hS ?_
  case y44 => first | (refine Or.inr ⟨by rfl, ?_⟩; with_reducible rfl) | (refine Or.inl ⟨by rfl, ?_⟩; intro wS hSw; obtain ⟨hbS, hlS⟩ := HBl.out wS hSw; rw [← HNl.out] at hlS; obtain ⟨⟨-, -, -, -, a4, -, a6⟩, -⟩ := seven_box hbS; go_simp; try with_reducible rfl)
  simp only [Act.put, List.setIfInBounds_toArray, List.set_cons_zero, List.set_cons_succ]
  refine wpAnyH_take (i := 6) (oi := ⟨_, _, _, _, _, _⟩) (v := ?v45) rfl (by kernel_rfl) (by kernel_rfl) (by kernel_rfl) (fun _ _ _ h => h) ?y45 hS ?_
  case y45 => first | (refine Or.inr ⟨by rfl, ?_⟩; with_reducible rfl) | (refine Or.inl ⟨by rfl, ?_⟩; intro wS hSw; obtain ⟨hbS, hlS⟩ := HBl.out wS hSw; rw [← HNl.out] at hlS; obtain ⟨⟨-, -, -, -, a4, -, a6⟩, -⟩ := seven_box hbS; go_simp; try with_reducible rfl)
  simp only [Act.put, List.setIfInBounds_toArray, List.set_cons_zero, List.set_cons_succ]
  refine wpAnyH_take (i := 7) (oi := ⟨_, _, _, _, _, _⟩) (v := ?v46) rfl (by kernel_rfl) (by kernel_rfl) (by kernel_rfl) (fun _ _ _ h => h) ?y46 hS ?_
  case y46 => first | (refine Or.inr ⟨by rfl, ?_⟩; with_reducible rfl) | (refine Or.inl ⟨by rfl, ?_⟩; intro wS hSw; obtain ⟨hbS, hlS⟩ := HBl.out wS hSw; rw [← HNl.out] at hlS; obtain ⟨⟨-, -, -, -, a4, -, a6⟩, -⟩ := seven_box hbS; go_simp; try with_reducible rfl)
  simp only [Act.put, List.setIfInBounds_toArray, List.set_cons_zero, List.set_cons_succ]
  refine wpAnyH_take (i := 8) (oi := ⟨_, _, _, _, _, _⟩) (v := ?v47) rfl (by kernel_rfl) (by kernel_rfl) (by kernel_rfl) (fun _ _ _ h => h) ?y47 hS ?_
  case y47 => first | (refine Or.inr ⟨by rfl, ?_⟩; with_reducible rfl) | (refine Or.inl ⟨by rfl, ?_⟩; intro wS hSw; obtain ⟨hbS, hlS⟩ := HBl.out wS hSw; rw [← HNl.out] at hlS; obtain ⟨⟨-, -, -, -, a4, -, a6⟩, -⟩ := seven_box hbS; go_simp; try with_reducible rfl)
  simp only [Act.put, List.setIfInBounds_toArray, List.set_cons_zero, List.set_cons_succ]
  refine wpAnyH_take (i := 9) (oi := ⟨_, _, _, _, _, _⟩) (v := ?v48) rfl (by kernel_rfl) (by kernel_rfl) (by kernel_rfl) (fun _ _ _ h => h) ?y48 hS ?_
  case y48 => first | (refine Or.inr ⟨by rfl, ?_⟩; with_reducible rfl) | (refine Or.inl ⟨by rfl, ?_⟩; intro wS hSw; obtain ⟨hbS, hlS⟩ := HBl.out wS hSw; rw [← HNl.out] at hlS; obtain ⟨⟨-, -, -, -, a4, -, a6⟩, -⟩ := seven_box hbS; go_simp; try with_reducible rfl)
  simp only [Act.put, List.setIfInBounds_toArray, List.set_cons_zero, List.set_cons_succ]
  refine wpAnyH_done (by kernel_rfl) ?_ _
  replace HLn := Lib.hid (HLn.out.later hS)
  replace HEn := Lib.hid (HEn.out.later hS)
  replace HXv := Lib.hid ((hS.block _ (lt_of_block HXv.out)).trans HXv.out)
  replace HZv := Lib.hid ((hS.block _ (lt_of_block HZv.out)).trans HZv.out)
  replace HBv := Lib.hid (HBv.out.trans (hS.mono HBv.out.size))
  replace HKv := Lib.hid (show KeepM base w _ from Keeps.ofNew HBv.out _)
  clear hS HBl hq1 hq2 HNl HL
  generalize v.drew = v at *
  have HTv := Lib.hid (HT.out v HBv.out)
  have HVv := Lib.hid (HV.out v HBv.out)
  go_upto_region 10 with (fail)
  refine wp_region_held_drew (S := fun z => z.heap[X]? = some (.cells #[.int .i64 k.rule, .int .i64 k.level, .int .i64 k.place] 24 (0, 0))) (by kernel_rfl) HXv.out (fun hS => ?_)
  refine wpAnyH_take (i := 0) (oi := ⟨_, _, _, _, _, _⟩) (v := ?v49) rfl (by kernel_rfl) (by kernel_rfl) (by kernel_rfl) (fun _ _ _ h => h) ?y49 hS ?_
  case y49 => first | (refine Or.inr ⟨by rfl, ?_⟩; with_reducible rfl) | (refine Or.inl ⟨by rfl, ?_⟩; intro wS hSw; obtain ⟨b0, b1, b2, -⟩ := three_box hSw; go_simp; try with_reducible rfl)
  simp only [Act.put, List.setIfInBounds_toArray, List.set_cons_zero, List.set_cons_succ]
  refine wpAnyH_take (i := 1) (oi := ⟨_, _, _, _, _, _⟩) (v := ?v50) rfl (by kernel_rfl) (by kernel_rfl) (by kernel_rfl) (fun _ _ _ h => h) ?y50 hS ?_
  case y50 => first | (refine Or.inr ⟨by rfl, ?_⟩; with_reducible rfl) | (refine Or.inl ⟨by rfl, ?_⟩; intro wS hSw; obtain ⟨b0, b1, b2, -⟩ := three_box hSw; go_simp; try with_reducible rfl)
  simp only [Act.put, List.setIfInBounds_toArray, List.set_cons_zero, List.set_cons_succ]
  refine wpAnyH_take (i := 2) (oi := ⟨_, _, _, _, _, _⟩) (v := ?v51) rfl (by kernel_rfl) (by kernel_rfl) (by kernel_rfl) (fun _ _ _ h => h) ?y51 hS ?_
  case y51 => first | (refine Or.inr ⟨by rfl, ?_⟩; with_reducible rfl) | (refine Or.inl ⟨by rfl, ?_⟩; intro wS hSw; obtain ⟨b0, b1, b2, -⟩ := three_box hSw; go_simp; try with_reducible rfl)
  simp only [Act.put, List.setIfInBounds_toArray, List.set_cons_zero, List.set_cons_succ]
  refine wpAnyH_take (i := 3) (oi := ⟨_, _, _, _, _, _⟩) (v := ?v52) rfl (by kernel_rfl) (by kernel_rfl) (by kernel_rfl) (fun _ _ _ h => h) ?y52 hS ?_
  case y52 => first | (refine Or.inr ⟨by rfl, ?_⟩; with_reducible rfl) | (refine Or.inl ⟨by rfl, ?_⟩; intro wS hSw; obtain ⟨b0, b1, b2, -⟩ := three_box hSw; go_simp; try with_reducible rfl)
  simp only [Act.put, List.setIfInBounds_toArray, List.set_cons_zero, List.set_cons_succ]
  refine wpAnyH_ready (rs := [4]) (by kernel_rfl) (by simp) ?_
  refine AllReadyH.cons (o := ⟨_, _, _, _, _, _⟩) rfl (fun K hK => ?_) AllReadyH.nil
  have hdr := (Below.refl v.heap.size v).drew
  go_simp
  refine (join_any v.drew (HLn.out.later hdr) HN.out HOk.out HNx.out).mono ?_
  rintro e v1 ⟨rfl, hl, hk⟩
  have HLx := Lib.hid hl
  have HEn1 := Lib.hid ((HEn.out.later hdr).keepX hk)
  have HX1 := Lib.hid (hk.keepM.cells (show v.drew.heap[X]? = _ from HXv.out) (by decide))
  have HZ1 := Lib.hid (hk.keepM.cells (show v.drew.heap[X + 1]? = _ from HZv.out) (by decide))
  have HK1 := Lib.hid (KeepM.trans HKv.out (KeepM.trans (Keeps.ofNew hdr _) hk.keepM))
  have HTv1 := Lib.hid (hk.keepM.row (row_later HTv.out hdr) (by decide))
  have HVv1 := Lib.hid (hk.keepM.row (row_later HVv.out hdr) (by decide))

  clear hl hk hdr
  go_wp2_with fail
  refine hK.out _ _ HX1.out (fun hSd => ?_)
  clear hSd hK K
  try simp only [Act.put, List.setIfInBounds_toArray, List.set_cons_zero, List.set_cons_succ]
  refine wpAnyH_done (by kernel_rfl) ?_ _
  clear hS HLn HEn HXv HZv HKv HTv HVv
  have HEn := HEn1
  have HTv := HTv1
  have HVv := HVv1
  have HXv := HX1
  have HZv := HZ1
  have HKv := HK1
  clear HEn1 HX1 HZ1 HK1 HTv1 HVv1
  generalize v1 = v at *
  go_upto_region 11 with (fail)
  have HBk := Lib.hid (HLx.out ⟨false, 0, 0, [], [], .slice none 0 0, .slice none 0 0⟩).blk
  refine wp_region_held_drew (S := fun z => z.heap[p]? = some (.cells #[.pointer (some ⟨q, 0, none⟩), .map (some nm), .map (some km), .int .i64 (next + 1), .int .i64 room, .int .i64 (peak), .map (some em)] 74 (0, 0)) ∧ z.heap[X]? = some (.cells #[.int .i64 k.rule, .int .i64 k.level, .int .i64 k.place] 24 (0, 0)) ∧ z.heap[X + 1]? = some (.cells #[.bool xis, .int .i64 xen, .int .i64 xfar, .slice at1 n1 ct, .slice ak1 n2 ck] 30 (0, 0))) (by kernel_rfl) ⟨HBk.out, HXv.out, HZv.out⟩ (fun hS => ?_)
  refine wpAnyH_take (i := 0) (oi := ⟨_, _, _, _, _, _⟩) (v := ?v53) rfl (by kernel_rfl) (by kernel_rfl) (by kernel_rfl) (fun _ _ _ h => h) ?y53 hS ?_
  case y53 => first | (refine Or.inr ⟨by rfl, ?_⟩; with_reducible rfl) | (refine Or.inl ⟨by rfl, ?_⟩; intro wS hSw; obtain ⟨⟨-, -, -, -, -, -, a6⟩, -⟩ := seven_box hSw.1; obtain ⟨b0, b1, b2, -⟩ := three_box hSw.2.1; obtain ⟨⟨d0, d1, d2, d3, d4⟩, -⟩ := five_box hSw.2.2; go_simp; try with_reducible rfl)
  simp only [Act.put, List.setIfInBounds_toArray, List.set_cons_zero, List.set_cons_succ]
  refine wpAnyH_take (i := 1) (oi := ⟨_, _, _, _, _, _⟩) (v := ?v54) rfl (by kernel_rfl) (by kernel_rfl) (by kernel_rfl) (fun _ _ _ h => h) ?y54 hS ?_
  case y54 => first | (refine Or.inr ⟨by rfl, ?_⟩; with_reducible rfl) | (refine Or.inl ⟨by rfl, ?_⟩; intro wS hSw; obtain ⟨⟨-, -, -, -, -, -, a6⟩, -⟩ := seven_box hSw.1; obtain ⟨b0, b1, b2, -⟩ := three_box hSw.2.1; obtain ⟨⟨d0, d1, d2, d3, d4⟩, -⟩ := five_box hSw.2.2; go_simp; try with_reducible rfl)
  simp only [Act.put, List.setIfInBounds_toArray, List.set_cons_zero, List.set_cons_succ]
  refine wpAnyH_take (i := 2) (oi := ⟨_, _, _, _, _, _⟩) (v := ?v55) rfl (by kernel_rfl) (by kernel_rfl) (by kernel_rfl) (fun _ _ _ h => h) ?y55 hS ?_
  case y55 => first | (refine Or.inr ⟨by rfl, ?_⟩; with_reducible rfl) | (refine Or.inl ⟨by rfl, ?_⟩; intro wS hSw; obtain ⟨⟨-, -, -, -, -, -, a6⟩, -⟩ := seven_box hSw.1; obtain ⟨b0, b1, b2, -⟩ := three_box hSw.2.1; obtain ⟨⟨d0, d1, d2, d3, d4⟩, -⟩ := five_box hSw.2.2; go_simp; try with_reducible rfl)
  simp only [Act.put, List.setIfInBounds_toArray, List.set_cons_zero, List.set_cons_succ]
  refine wpAnyH_take (i := 3) (oi := ⟨_, _, _, _, _, _⟩) (v := ?v56) rfl (by kernel_rfl) (by kernel_rfl) (by kernel_rfl) (fun _ _ _ h => h) ?y56 hS ?_
  case y56 => first | (refine Or.inr ⟨by rfl, ?_⟩; with_reducible rfl) | (refine Or.inl ⟨by rfl, ?_⟩; intro wS hSw; obtain ⟨⟨-, -, -, -, -, -, a6⟩, -⟩ := seven_box hSw.1; obtain ⟨b0, b1, b2, -⟩ := three_box hSw.2.1; obtain ⟨⟨d0, d1, d2, d3, d4⟩, -⟩ := five_box hSw.2.2; go_simp; try with_reducible rfl)
  simp only [Act.put, List.setIfInBounds_toArray, List.set_cons_zero, List.set_cons_succ]
  refine wpAnyH_take (i := 4) (oi := ⟨_, _, _, _, _, _⟩) (v := ?v57) rfl (by kernel_rfl) (by kernel_rfl) (by kernel_rfl) (fun _ _ _ h => h) ?y57 hS ?_
  case y57 => first | (refine Or.inr ⟨by rfl, ?_⟩; with_reducible rfl) | (refine Or.inl ⟨by rfl, ?_⟩; intro wS hSw; obtain ⟨⟨-, -, -, -, -, -, a6⟩, -⟩ := seven_box hSw.1; obtain ⟨b0, b1, b2, -⟩ := three_box hSw.2.1; obtain ⟨⟨d0, d1, d2, d3, d4⟩, -⟩ := five_box hSw.2.2; go_simp; try with_reducible rfl)
  simp only [Act.put, List.setIfInBounds_toArray, List.set_cons_zero, List.set_cons_succ]
  refine wpAnyH_take (i := 5) (oi := ⟨_, _, _, _, _, _⟩) (v := ?v58) rfl (by kernel_rfl) (by kernel_rfl) (by kernel_rfl) (fun _ _ _ h => h) ?y58 hS ?_
  case y58 => first | (refine Or.inr ⟨by rfl, ?_⟩; with_reducible rfl) | (refine Or.inl ⟨by rfl, ?_⟩; intro wS hSw; obtain ⟨⟨-, -, -, -, -, -, a6⟩, -⟩ := seven_box hSw.1; obtain ⟨b0, b1, b2, -⟩ := three_box hSw.2.1; obtain ⟨⟨d0, d1, d2, d3, d4⟩, -⟩ := five_box hSw.2.2; go_simp; try with_reducible rfl)
  simp only [Act.put, List.setIfInBounds_toArray, List.set_cons_zero, List.set_cons_succ]
  refine wpAnyH_ready (rs := [6]) (by kernel_rfl) (by simp) ?_
  refine AllReadyH.cons (o := ⟨_, _, _, _, _, _⟩) rfl (fun K hK => ?_) AllReadyH.nil
  go_simp
  have hdr := (Below.refl v.heap.size v).drew
  refine (copied_any ⟨xis, xen, xfar, xtree, xtou, .slice at1 n1 ct, .slice ak1 n2 ck⟩ v.drew (by have h5 := row_later HTv.out hdr; rw [HN1.out] at h5 ⊢; exact TwOwn.got h5) (by have h5 := row_later HVv.out hdr; rw [HN2.out] at h5 ⊢; exact IvOwn.got h5) HL1.out HL2.out).mono ?_
  rintro e v2 ⟨tv, kv, rfl, ho1, ho2, hb⟩
  have hb : Below v.heap.size v v2 := hdr.trans hb
  simp only at ho1 ho2
  obtain ⟨a1, c1, rfl⟩ := own_val ho1
  obtain ⟨a2, c2, rfl⟩ := own_val ho2
  rw [← HN1.out] at ho1 ⊢
  rw [← HN2.out] at ho2 ⊢
  have HLx2 := Lib.hid (fun x => (HLx.out x).later hb)
  have HEn2 := Lib.hid (HEn.out.later hb)
  have HX2 := Lib.hid ((hb.block _ (lt_of_block HXv.out)).trans HXv.out)
  have HZ2 := Lib.hid ((hb.block _ (lt_of_block HZv.out)).trans HZv.out)
  have HK2 := Lib.hid (KeepM.trans HKv.out (Keeps.ofNew hb _))
  have hlim := (HLx.out ⟨false, 0, 0, [], [], .slice none 0 0, .slice none 0 0⟩).lim
  have HO1 := Lib.hid (And.intro (ownsRow_base ho1 (Nat.zero_le _)) (not_watched ho1 hlim))
  have HO2 := Lib.hid (And.intro (ownsRow_base ho2 (Nat.zero_le _)) (not_watched ho2 hlim))

  obtain ⟨v3, hrun, hm3, hk3⟩ := HEn2.out.map.put Tryz.underlying72 (by have := (H.out.ln).le; have := (H.out.ln).nle; omega) HOk.out (.agg #[.bool xis, .int .i64 xen, .int .i64 xfar, .slice a1 n1 c1, .slice a2 n2 c2])
  have HRun := Lib.hid hrun
  have HEn3 := Lib.hid (EnIs.add (n := next) (x := ⟨xis, xen, xfar, xtree, xtou, .slice a1 n1 c1, .slice a2 n2 c2⟩) HEn2.out HN.out ⟨by have := HO1.out.1; rw [HN1.out] at this ⊢; exact this, HO1.out.2⟩ ⟨by have := HO2.out.1; rw [HN2.out] at this ⊢; exact this, HO2.out.2⟩ hm3 hk3)
  have HLx3 := Lib.hid (fun x => (HLx2.out x).keepE hk3)
  have HK3 := Lib.hid (KeepM.trans HK2.out (keepM_map hk3 (HLx2.out ⟨false, 0, 0, [], [], .slice none 0 0, .slice none 0 0⟩).be (HLx2.out ⟨false, 0, 0, [], [], .slice none 0 0, .slice none 0 0⟩).we HEn2.out.map.blk))
  have hx3 := hk3.obj HX2.out (fun e => by obtain ⟨es, ck, h1⟩ := HEn2.out.map.blk; have := HX2.out; rw [e, h1] at this; simp at this)
  have hz3 := hk3.obj HZ2.out (fun e => by obtain ⟨es, ck, h1⟩ := HEn2.out.map.blk; have := HZ2.out; rw [e, h1] at this; simp at this)

  go_wp2_with fail
  refine hK.out _ _ ⟨(HLx2.out ⟨false, 0, 0, [], [], .slice none 0 0, .slice none 0 0⟩).blk, HX2.out, HZ2.out⟩ (fun hSd => ?_)
  clear hSd hK K hdr hb ho1 ho2 hlim hrun hm3
  try simp only [Act.put, List.setIfInBounds_toArray, List.set_cons_zero, List.set_cons_succ]
  refine wpAnyH_ready (rs := [7]) (by kernel_rfl) (by simp) ?_
  refine AllReadyH.cons (o := ⟨_, _, _, _, _, _⟩) rfl (fun K hK => ?_) AllReadyH.nil
  have hrun : (Instr.mapUpdate 72 (.map (some em)) (.agg #[.int .i64 k.rule, .int .i64 k.level, .int .i64 k.place]) (.agg #[.bool xis, .int .i64 xen, .int .i64 xfar, .slice a1 n1 c1, .slice a2 n2 c2])).run Tryz.prog v2 = .ok () v3 := HRun.out
  go_simp
  refine hK.out _ _ ⟨(HLx3.out ⟨false, 0, 0, [], [], .slice none 0 0, .slice none 0 0⟩).blk, hx3, hz3⟩ (fun hSd => ?_)
  clear hSd hK K hrun hx3 hz3 hk3
  try simp only [Act.put, List.setIfInBounds_toArray, List.set_cons_zero, List.set_cons_succ]
  refine wpAnyH_done (by kernel_rfl) ?_ _
  clear hS
  go_upto_region 12 with (fail)
  have HLy := Lib.hid (HLx3.out ⟨xis, xen, xfar, xtree, xtou, .slice a1 n1 c1, .slice a2 n2 c2⟩)
  obtain ⟨n, hn⟩ : ∃ n, n = (L ++ [(⟨k, next, ⟨xis, xen, xfar, xtree, xtou, .slice a1 n1 c1, .slice a2 n2 c2⟩⟩ : Rec)]).length := ⟨_, rfl⟩
  have HNn := Lib.hid hn
  clear hn
  refine wp_region_held_drew (S := fun z => (∃ pk, z.heap[p]? = some (.cells #[.pointer (some ⟨q, 0, none⟩), .map (some nm), .map (some km), .int .i64 (next + 1), .int .i64 room, .int .i64 (pk), .map (some em)] 74 (0, 0))) ∧ EnIs z em (L ++ [(⟨k, next, ⟨xis, xen, xfar, xtree, xtou, .slice a1 n1 c1, .slice a2 n2 c2⟩⟩ : Rec)])) (by kernel_rfl) ⟨⟨_, HLy.out.blk⟩, HEn3.out.later (Below.refl v3.heap.size v3).drew⟩ (fun hS => ?_)
  refine wpAnyH_take (i := 0) (oi := ⟨_, _, _, _, _, _⟩) (v := ?v59) rfl (by kernel_rfl) (by kernel_rfl) (by kernel_rfl) (fun _ _ _ h => h) ?y59 hS ?_
  case y59 => first | (refine Or.inr ⟨by rfl, ?_⟩; with_reducible rfl) | (refine Or.inl ⟨by rfl, ?_⟩; intro wS hSw; obtain ⟨⟨pkS, hpS⟩, heS⟩ := hSw; obtain ⟨⟨-, -, -, -, -, -, a6⟩, -⟩ := seven_box hpS; have hl := heS.map.size Tryz.underlying72 3; rw [← HNn.out] at hl; go_simp; try with_reducible rfl)
  simp only [Act.put, List.setIfInBounds_toArray, List.set_cons_zero, List.set_cons_succ]
  refine wpAnyH_take (i := 1) (oi := ⟨_, _, _, _, _, _⟩) (v := ?v60) rfl (by kernel_rfl) (by kernel_rfl) (by kernel_rfl) (fun _ _ _ h => h) ?y60 hS ?_
  case y60 => first | (refine Or.inr ⟨by rfl, ?_⟩; with_reducible rfl) | (refine Or.inl ⟨by rfl, ?_⟩; intro wS hSw; obtain ⟨⟨pkS, hpS⟩, heS⟩ := hSw; obtain ⟨⟨-, -, -, -, -, -, a6⟩, -⟩ := seven_box hpS; have hl := heS.map.size Tryz.underlying72 3; rw [← HNn.out] at hl; go_simp; try with_reducible rfl)
  simp only [Act.put, List.setIfInBounds_toArray, List.set_cons_zero, List.set_cons_succ]
  refine wpAnyH_take (i := 2) (oi := ⟨_, _, _, _, _, _⟩) (v := ?v61) rfl (by kernel_rfl) (by kernel_rfl) (by kernel_rfl) (fun _ _ _ h => h) ?y61 hS ?_
  case y61 => first | (refine Or.inr ⟨by rfl, ?_⟩; with_reducible rfl) | (refine Or.inl ⟨by rfl, ?_⟩; intro wS hSw; obtain ⟨⟨pkS, hpS⟩, heS⟩ := hSw; obtain ⟨⟨-, -, -, -, -, -, a6⟩, -⟩ := seven_box hpS; have hl := heS.map.size Tryz.underlying72 3; rw [← HNn.out] at hl; go_simp; try with_reducible rfl)
  simp only [Act.put, List.setIfInBounds_toArray, List.set_cons_zero, List.set_cons_succ]
  refine wpAnyH_take (i := 3) (oi := ⟨_, _, _, _, _, _⟩) (v := ?v62) rfl (by kernel_rfl) (by kernel_rfl) (by kernel_rfl) (fun _ _ _ h => h) ?y62 hS ?_
  case y62 => first | (refine Or.inr ⟨by rfl, ?_⟩; with_reducible rfl) | (refine Or.inl ⟨by rfl, ?_⟩; intro wS hSw; obtain ⟨⟨pkS, hpS⟩, heS⟩ := hSw; obtain ⟨⟨-, -, -, -, -, -, a6⟩, -⟩ := seven_box hpS; have hl := heS.map.size Tryz.underlying72 3; rw [← HNn.out] at hl; go_simp; try with_reducible rfl)
  simp only [Act.put, List.setIfInBounds_toArray, List.set_cons_zero, List.set_cons_succ]
  refine wpAnyH_take (i := 5) (oi := ⟨_, _, _, _, _, _⟩) (v := ?v63) rfl (by kernel_rfl) (by kernel_rfl) (by kernel_rfl) (fun _ _ _ h => h) ?y63 hS ?_
  case y63 => first | (refine Or.inr ⟨by rfl, ?_⟩; with_reducible rfl) | (refine Or.inl ⟨by rfl, ?_⟩; intro wS hSw; obtain ⟨⟨pkS, hpS⟩, heS⟩ := hSw; obtain ⟨⟨-, -, -, -, -, -, a6⟩, -⟩ := seven_box hpS; have hl := heS.map.size Tryz.underlying72 3; rw [← HNn.out] at hl; go_simp; try with_reducible rfl)
  simp only [Act.put, List.setIfInBounds_toArray, List.set_cons_zero, List.set_cons_succ]
  refine wpAnyH_take (i := 6) (oi := ⟨_, _, _, _, _, _⟩) (v := ?v64) rfl (by kernel_rfl) (by kernel_rfl) (by kernel_rfl) (fun _ _ _ h => h) ?y64 hS ?_
  case y64 => first | (refine Or.inr ⟨by rfl, ?_⟩; with_reducible rfl) | (refine Or.inl ⟨by rfl, ?_⟩; intro wS hSw; obtain ⟨⟨pkS, hpS⟩, heS⟩ := hSw; obtain ⟨⟨-, -, -, -, -, -, a6⟩, -⟩ := seven_box hpS; have hl := heS.map.size Tryz.underlying72 3; rw [← HNn.out] at hl; go_simp; try with_reducible rfl)
  simp only [Act.put, List.setIfInBounds_toArray, List.set_cons_zero, List.set_cons_succ]
  refine wpAnyH_take (i := 7) (oi := ⟨_, _, _, _, _, _⟩) (v := ?v65) rfl (by kernel_rfl) (by kernel_rfl) (by kernel_rfl) (fun _ _ _ h => h) ?y65 hS ?_
  case y65 => first | (refine Or.inr ⟨by rfl, ?_⟩; with_reducible rfl) | (refine Or.inl ⟨by rfl, ?_⟩; intro wS hSw; obtain ⟨⟨pkS, hpS⟩, heS⟩ := hSw; obtain ⟨⟨-, -, -, -, -, -, a6⟩, -⟩ := seven_box hpS; have hl := heS.map.size Tryz.underlying72 3; rw [← HNn.out] at hl; go_simp; try with_reducible rfl)
  simp only [Act.put, List.setIfInBounds_toArray, List.set_cons_zero, List.set_cons_succ]
  refine wpAnyH_take (i := 8) (oi := ⟨_, _, _, _, _, _⟩) (v := ?v66) rfl (by kernel_rfl) (by kernel_rfl) (by kernel_rfl) (fun _ _ _ h => h) ?y66 hS ?_
  case y66 => first | (refine Or.inr ⟨by rfl, ?_⟩; with_reducible rfl) | (refine Or.inl ⟨by rfl, ?_⟩; intro wS hSw; obtain ⟨⟨pkS, hpS⟩, heS⟩ := hSw; obtain ⟨⟨-, -, -, -, -, -, a6⟩, -⟩ := seven_box hpS; have hl := heS.map.size Tryz.underlying72 3; rw [← HNn.out] at hl; go_simp; try with_reducible rfl)
  simp only [Act.put, List.setIfInBounds_toArray, List.set_cons_zero, List.set_cons_succ]
  refine wpAnyH_take (i := 9) (oi := ⟨_, _, _, _, _, _⟩) (v := ?v67) rfl (by kernel_rfl) (by kernel_rfl) (by kernel_rfl) (fun _ _ _ h => h) ?y67 hS ?_
  case y67 => first | (refine Or.inr ⟨by rfl, ?_⟩; with_reducible rfl) | (refine Or.inl ⟨by rfl, ?_⟩; intro wS hSw; obtain ⟨⟨pkS, hpS⟩, heS⟩ := hSw; obtain ⟨⟨-, -, -, -, -, -, a6⟩, -⟩ := seven_box hpS; have hl := heS.map.size Tryz.underlying72 3; rw [← HNn.out] at hl; go_simp; try with_reducible rfl)
  simp only [Act.put, List.setIfInBounds_toArray, List.set_cons_zero, List.set_cons_succ]
  refine wpAnyH_ready (rs := [4]) (by kernel_rfl) (by simp) ?_
  refine AllReadyH.cons (o := ⟨_, _, _, _, _, _⟩) rfl (fun K hK => ?_) AllReadyH.nil
  obtain ⟨⟨-, -, -, -, -, a5, -⟩, -⟩ := seven_box HLy.out.blk
  go_simp
  refine hK.out _ _ hS (fun hSd => ?_)
  clear hSd hK K a5
  try simp only [Act.put, List.setIfInBounds_toArray, List.set_cons_zero, List.set_cons_succ]
  obtain ⟨pk, hpk⟩ : ∃ pk, pk = max peak (n : Int) := ⟨_, rfl⟩
  have hm1 : max peak (n : Int) = pk := hpk.symm
  have hm2 : max (n : Int) peak = pk := by omega
  have HPk := Lib.hid hpk
  clear hpk
  refine wpAnyH_take (i := 10) (oi := ⟨_, _, _, _, _, _⟩) (v := ?v68) rfl (by kernel_rfl) (by kernel_rfl) (by kernel_rfl) (fun _ _ _ h => h) ?y68 hS ?_
  case y68 => first | (refine Or.inr ⟨by rfl, ?_⟩; with_reducible rfl) | (refine Or.inl ⟨by rfl, ?_⟩; intro wS hSw; go_simp; try with_reducible rfl)
  simp only [Act.put, List.setIfInBounds_toArray, List.set_cons_zero, List.set_cons_succ]
  clear hm1 hm2
  refine wpAnyH_take (i := 11) (oi := ⟨_, _, _, _, _, _⟩) (v := ?v69) rfl (by kernel_rfl) (by kernel_rfl) (by kernel_rfl) (fun _ _ _ h => h) ?y69 hS ?_
  case y69 => first | (refine Or.inr ⟨by rfl, ?_⟩; with_reducible rfl) | (refine Or.inl ⟨by rfl, ?_⟩; intro wS hSw; obtain ⟨⟨pkS, hpS⟩, heS⟩ := hSw; obtain ⟨⟨-, -, -, -, -, -, a6⟩, -⟩ := seven_box hpS; have hl := heS.map.size Tryz.underlying72 3; rw [← HNn.out] at hl; go_simp; try with_reducible rfl)
  simp only [Act.put, List.setIfInBounds_toArray, List.set_cons_zero, List.set_cons_succ]
  refine wpAnyH_take (i := 12) (oi := ⟨_, _, _, _, _, _⟩) (v := ?v70) rfl (by kernel_rfl) (by kernel_rfl) (by kernel_rfl) (fun _ _ _ h => h) ?y70 hS ?_
  case y70 => first | (refine Or.inr ⟨by rfl, ?_⟩; with_reducible rfl) | (refine Or.inl ⟨by rfl, ?_⟩; intro wS hSw; obtain ⟨⟨pkS, hpS⟩, heS⟩ := hSw; obtain ⟨⟨-, -, -, -, -, -, a6⟩, -⟩ := seven_box hpS; have hl := heS.map.size Tryz.underlying72 3; rw [← HNn.out] at hl; go_simp; try with_reducible rfl)
  simp only [Act.put, List.setIfInBounds_toArray, List.set_cons_zero, List.set_cons_succ]
  refine wpAnyH_ready (rs := [13]) (by kernel_rfl) (by simp) ?_
  refine AllReadyH.cons (o := ⟨_, _, _, _, _, _⟩) rfl (fun K hK => ?_) AllReadyH.nil
  obtain ⟨⟨-, -, -, -, -, a5, -⟩, ⟨-, -, -, -, -, g5, -⟩⟩ := seven_box HLy.out.blk
  obtain ⟨hl4, hk4⟩ := HLy.out.setPeak pk
  go_simp
  refine hK.out _ _ ⟨⟨_, hl4.blk⟩, (HEn3.out.keepX hk4).later (Below.refl _ _).drew⟩ (fun hSd => ?_)
  clear hSd hK K a5 g5
  try simp only [Act.put, List.setIfInBounds_toArray, List.set_cons_zero, List.set_cons_succ]
  refine wpAnyH_done (by kernel_rfl) ?_ _
  clear hS
  have HF0 : MeIs base (v3.setCell ⟨p, 5, none⟩ (.int .i64 pk)) p q nm km em (next + 1) room pk (L ++ [(⟨k, next, ⟨xis, xen, xfar, xtree, xtou, .slice a1 n1 c1, .slice a2 n2 c2⟩⟩ : Rec)]) := ⟨hl4, HEn3.out.keepX hk4⟩
  have HF := Lib.hid (HF0.later (Below.refl _ _).drew)
  have HFk := Lib.hid (KeepM.trans (KeepM.trans HK3.out hk4.keepM) (Keeps.ofNew (Below.refl _ _).drew _))
  clear HF0

  clear hl4 hk4
  go_wp2
  go_ret2
  refine ⟨rfl, .slice a1 n1 c1, .slice a2 n2 c2, ?_, HFk.out⟩
  have hp := HPk.out
  rw [HNn.out, List.length_append, List.length_singleton, Int.natCast_add, Int.natCast_one] at hp
  rw [← hp]
  exact HF.out
end Go.Proofs.YtpchjpmkkiopiaaGreat
