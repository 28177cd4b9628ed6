import Derived.Test.YtpchjpmkkiopiaaGreatMeHm
namespace Go.Proofs.YtpchjpmkkiopiaaGreat
open Go.RowKit Go.Lib

set_option maxRecDepth 100000 in
set_option maxHeartbeats 8000000 in
theorem mPutF_any [Watch] {base : Nat} {p q nm km em : Nat} {next room peak : Int} {L : List Rec} {k : Ky} (x : Ent) (w : World) (h : MeIs base w p q nm km em next room peak L) (hkk : kyOk k) (ht : TwOwn 0 w x.tv x.tree) (hv : IvOwn 0 w x.kv x.tou) (hlt : x.tree.length ≤ 1000000) (hlk : x.tou.length ≤ 1000000) (hr0 : room ≠ 0) (hn : fndK L k = none) (hnx : next < 100000) (hroom : (L.length : Int) = room) :
    Calls Tryz.prog 13 #[.pointer (some ⟨p, 0, none⟩), kyv k, entv x] w fun e w' => ∃ r g c, FirstK L r ∧ e = .returned (.tuple #[.slice (some ⟨g, 0, none⟩) 1 c, .int .i64 0]) ∧ w'.ownsRow w.heap.size 24 3 (.slice (some ⟨g, 0, none⟩) 1 c) 1 (kyc r.k) ∧ ∃ tv kv, MeIs base w' p q nm km em (next + 1) room (max peak L.length) (dropK L r.k ++ [⟨k, next, x.is, x.en, x.far, x.tree, x.tou, tv, kv⟩]) ∧ KeepM base w w' := by
  obtain ⟨xis, xen, xfar, xtree, xtou, xtv, xkv⟩ := x
  simp only at *
  obtain ⟨at1, ct, rfl⟩ := own_val ht
  obtain ⟨ak1, ck, rfl⟩ := own_val hv
  have HT := Lib.hid (show ∀ u, Below w.heap.size w u → TwOwn 0 u (.slice at1 xtree.length ct) xtree from fun u h => row_later ht h)
  have HV := Lib.hid (show ∀ u, Below w.heap.size w u → IvOwn 0 u (.slice ak1 xtou.length ck) xtou from fun u h => row_later hv h)
  have HL1 := Lib.hid hlt
  have HL2 := Lib.hid hlk
  obtain ⟨n1, hn1⟩ : ∃ n, n = xtree.length := ⟨_, rfl⟩
  obtain ⟨n2, hn2⟩ : ∃ n, n = xtou.length := ⟨_, rfl⟩
  rw [← hn1] at HT ⊢
  rw [← hn2] at HV ⊢
  have HN1 := Lib.hid hn1
  have HN2 := Lib.hid hn2
  have H := Lib.hid h
  have HOk := Lib.hid hkk
  clear h hkk ht hv hlt hlk hn1 hn2
  have HRm := Lib.hid hroom
  have HNe := Lib.hid (show L ≠ [] from fun e => by rw [e] at hroom; exact hr0 hroom.symm)
  clear hroom
  have HN := Lib.hid hn
  have HLk := Lib.hid (fun (wS : World) (hw : Below w.heap.size w wS) => by have := ent_look (H.out.later hw).en HOk.out true; rw [hn] at this; exact this)
  have HNx := Lib.hid hnx
  have hr0' : (room == 0) = false := by simpa using hr0
  clear hr0 hn hnx
  go_enter Tryz.func13, Tryz.ntmps13
  go_upto_region 1 with (fail)
  refine gen_world (S := fun u => Below w.heap.size w u ∧ u.heap[w.heap.size]? = some (.cells #[.int .i64 k.rule, .int .i64 k.level, .int .i64 k.place] 24 (0, 0)) ∧ u.heap[w.heap.size + 1]? = some (.cells #[.bool xis, .int .i64 xen, .int .i64 xfar, .slice at1 n1 ct, .slice ak1 n2 ck] 30 (0, 0))) (two_new w _ _) (fun u hu => ?_)
  obtain ⟨hb, hx, hz⟩ := hu
  obtain ⟨X, hX⟩ : ∃ X, X = w.heap.size := ⟨_, rfl⟩
  have HXe := Lib.hid hX
  rw [← hX] at hx hz ⊢
  have HB := Lib.hid hb
  have HX := Lib.hid hx
  have HZ := Lib.hid hz
  have Hu := Lib.hid (H.out.later hb)
  clear hX hb hx hz
  obtain ⟨⟨-, -, -, -, c4, -⟩, -⟩ := seven_box Hu.out.ln.blk
  go_wp2_with fail
  refine (Hu.out.ln.made u).mono ?_
  rintro e w1 ⟨rfl, rfl⟩
  go_upto_region 5 with (fail)
  clear c4
  have HBlk := Lib.hid (fun (wS : World) (hw : Below u.heap.size u wS) => (Hu.out.later hw).ln.blk)
  refine wp_region_held_drew (S := fun v => Below u.heap.size u v) (by kernel_rfl) (Below.refl u.heap.size u).drew (fun hS => ?_)
  refine wpAnyH_take (i := 0) (oi := ⟨_, _, _, _, _, _⟩) (v := ?v71) rfl (by kernel_rfl) (by kernel_rfl) (by kernel_rfl) (fun _ _ _ h => h) ?y71 hS ?_
  case y71 => first | (refine Or.inr ⟨by rfl, ?_⟩; with_reducible rfl) | (refine Or.inl ⟨by rfl, ?_⟩; intro wS hSw; obtain ⟨⟨-, -, -, -, -, -, a6⟩, -⟩ := seven_box (HBlk.out wS hSw); obtain ⟨b0, b1, b2, -⟩ := three_box ((hSw.block _ (lt_of_block HX.out)).trans HX.out); have lk := HLk.out wS (HB.out.trans (hSw.mono HB.out.size)); go_simp; try with_reducible rfl)
  simp only [Act.put, List.setIfInBounds_toArray, List.set_cons_zero, List.set_cons_succ]
  refine wpAnyH_take (i := 1) (oi := ⟨_, _, _, _, _, _⟩) (v := ?v72) rfl (by kernel_rfl) (by kernel_rfl) (by kernel_rfl) (fun _ _ _ h => h) ?y72 hS ?_
  case y72 => first | (refine Or.inr ⟨by rfl, ?_⟩; with_reducible rfl) | (refine Or.inl ⟨by rfl, ?_⟩; intro wS hSw; obtain ⟨⟨-, -, -, -, -, -, a6⟩, -⟩ := seven_box (HBlk.out wS hSw); obtain ⟨b0, b1, b2, -⟩ := three_box ((hSw.block _ (lt_of_block HX.out)).trans HX.out); have lk := HLk.out wS (HB.out.trans (hSw.mono HB.out.size)); go_simp; try with_reducible rfl)
  simp only [Act.put, List.setIfInBounds_toArray, List.set_cons_zero, List.set_cons_succ]
  refine wpAnyH_take (i := 2) (oi := ⟨_, _, _, _, _, _⟩) (v := ?v73) rfl (by kernel_rfl) (by kernel_rfl) (by kernel_rfl) (fun _ _ _ h => h) ?y73 hS ?_
  case y73 => first | (refine Or.inr ⟨by rfl, ?_⟩; with_reducible rfl) | (refine Or.inl ⟨by rfl, ?_⟩; intro wS hSw; obtain ⟨⟨-, -, -, -, -, -, a6⟩, -⟩ := seven_box (HBlk.out wS hSw); obtain ⟨b0, b1, b2, -⟩ := three_box ((hSw.block _ (lt_of_block HX.out)).trans HX.out); have lk := HLk.out wS (HB.out.trans (hSw.mono HB.out.size)); go_simp; try with_reducible rfl)
  simp only [Act.put, List.setIfInBounds_toArray, List.set_cons_zero, List.set_cons_succ]
  refine wpAnyH_take (i := 3) (oi := ⟨_, _, _, _, _, _⟩) (v := ?v74) rfl (by kernel_rfl) (by kernel_rfl) (by kernel_rfl) (fun _ _ _ h => h) ?y74 hS ?_
  case y74 => first | (refine Or.inr ⟨by rfl, ?_⟩; with_reducible rfl) | (refine Or.inl ⟨by rfl, ?_⟩; intro wS hSw; obtain ⟨⟨-, -, -, -, -, -, a6⟩, -⟩ := seven_box (HBlk.out wS hSw); obtain ⟨b0, b1, b2, -⟩ := three_box ((hSw.block _ (lt_of_block HX.out)).trans HX.out); have lk := HLk.out wS (HB.out.trans (hSw.mono HB.out.size)); go_simp; try with_reducible rfl)
  simp only [Act.put, List.setIfInBounds_toArray, List.set_cons_zero, List.set_cons_succ]
  refine wpAnyH_take (i := 4) (oi := ⟨_, _, _, _, _, _⟩) (v := ?v75) rfl (by kernel_rfl) (by kernel_rfl) (by kernel_rfl) (fun _ _ _ h => h) ?y75 hS ?_
  case y75 => first | (refine Or.inr ⟨by rfl, ?_⟩; with_reducible rfl) | (refine Or.inl ⟨by rfl, ?_⟩; intro wS hSw; obtain ⟨⟨-, -, -, -, -, -, a6⟩, -⟩ := seven_box (HBlk.out wS hSw); obtain ⟨b0, b1, b2, -⟩ := three_box ((hSw.block _ (lt_of_block HX.out)).trans HX.out); have lk := HLk.out wS (HB.out.trans (hSw.mono HB.out.size)); go_simp; try with_reducible rfl)
  simp only [Act.put, List.setIfInBounds_toArray, List.set_cons_zero, List.set_cons_succ]
  refine wpAnyH_take (i := 5) (oi := ⟨_, _, _, _, _, _⟩) (v := ?v76) rfl (by kernel_rfl) (by kernel_rfl) (by kernel_rfl) (fun _ _ _ h => h) ?y76 hS ?_
  case y76 => first | (refine Or.inr ⟨by rfl, ?_⟩; with_reducible rfl) | (refine Or.inl ⟨by rfl, ?_⟩; intro wS hSw; obtain ⟨⟨-, -, -, -, -, -, a6⟩, -⟩ := seven_box (HBlk.out wS hSw); obtain ⟨b0, b1, b2, -⟩ := three_box ((hSw.block _ (lt_of_block HX.out)).trans HX.out); have lk := HLk.out wS (HB.out.trans (hSw.mono HB.out.size)); go_simp; try with_reducible rfl)
  simp only [Act.put, List.setIfInBounds_toArray, List.set_cons_zero, List.set_cons_succ]
  refine wpAnyH_take (i := 6) (oi := ⟨_, _, _, _, _, _⟩) (v := ?v77) rfl (by kernel_rfl) (by kernel_rfl) (by kernel_rfl) (fun _ _ _ h => h) ?y77 hS ?_
  case y77 => first | (refine Or.inr ⟨by rfl, ?_⟩; with_reducible rfl) | (refine Or.inl ⟨by rfl, ?_⟩; intro wS hSw; obtain ⟨⟨-, -, -, -, -, -, a6⟩, -⟩ := seven_box (HBlk.out wS hSw); obtain ⟨b0, b1, b2, -⟩ := three_box ((hSw.block _ (lt_of_block HX.out)).trans HX.out); have lk := HLk.out wS (HB.out.trans (hSw.mono HB.out.size)); go_simp; try with_reducible rfl)
  simp only [Act.put, List.setIfInBounds_toArray, List.set_cons_zero, List.set_cons_succ]
  refine wpAnyH_take (i := 7) (oi := ⟨_, _, _, _, _, _⟩) (v := ?v78) rfl (by kernel_rfl) (by kernel_rfl) (by kernel_rfl) (fun _ _ _ h => h) ?y78 hS ?_
  case y78 => first | (refine Or.inr ⟨by rfl, ?_⟩; with_reducible rfl) | (refine Or.inl ⟨by rfl, ?_⟩; intro wS hSw; obtain ⟨⟨-, -, -, -, -, -, a6⟩, -⟩ := seven_box (HBlk.out wS hSw); obtain ⟨b0, b1, b2, -⟩ := three_box ((hSw.block _ (lt_of_block HX.out)).trans HX.out); have lk := HLk.out wS (HB.out.trans (hSw.mono HB.out.size)); go_simp; try with_reducible rfl)
  simp only [Act.put, List.setIfInBounds_toArray, List.set_cons_zero, List.set_cons_succ]
  refine wpAnyH_take (i := 8) (oi := ⟨_, _, _, _, _, _⟩) (v := ?v79) rfl (by kernel_rfl) (by kernel_rfl) (by kernel_rfl) (fun _ _ _ h => h) ?y79 hS ?_
  case y79 => first | (refine Or.inr ⟨by rfl, ?_⟩; with_reducible rfl) | (refine Or.inl ⟨by rfl, ?_⟩; intro wS hSw; obtain ⟨⟨-, -, -, -, -, -, a6⟩, -⟩ := seven_box (HBlk.out wS hSw); obtain ⟨b0, b1, b2, -⟩ := three_box ((hSw.block _ (lt_of_block HX.out)).trans HX.out); have lk := HLk.out wS (HB.out.trans (hSw.mono HB.out.size)); go_simp; try with_reducible rfl)
  simp only [Act.put, List.setIfInBounds_toArray, List.set_cons_zero, List.set_cons_succ]
  refine wpAnyH_ready (rs := [9]) (by kernel_rfl) (by simp) ?_
  refine AllReadyH.cons (o := ⟨_, _, _, _, _, _⟩) rfl (fun K hK => ?_) AllReadyH.nil
  go_simp
  have hS2 := hS.alloc hS.size (.cells #[.bool false, .int .i64 0, .int .i64 0, .slice none 0 0, .slice none 0 0] 30 (0, 0))
  refine hK.out _ _ hS2 (fun hSd => ?_)
  clear hSd hK K
  try simp only [Act.put, List.setIfInBounds_toArray, List.set_cons_zero, List.set_cons_succ]
  refine wpAnyH_ready (rs := [10]) (by kernel_rfl) (by simp) ?_
  refine AllReadyH.cons (o := ⟨_, _, _, _, _, _⟩) rfl (fun K hK => ?_) AllReadyH.nil
  go_simp
  refine hK.out _ _ (hS.alloc hS.size _) (fun hS3 => ?_)
  clear hK K
  try simp only [Act.put, List.setIfInBounds_toArray, List.set_cons_zero, List.set_cons_succ]
  refine wpAnyH_take (i := 11) (oi := ⟨_, _, _, _, _, _⟩) (v := ?v80) rfl (by kernel_rfl) (by kernel_rfl) (by kernel_rfl) (fun _ _ _ h => h) ?y80 hS3 ?_
  case y80 => first | (refine Or.inr ⟨by rfl, ?_⟩; with_reducible rfl) | (refine Or.inl ⟨by rfl, ?_⟩; intro wS hSw; go_simp; try with_reducible rfl)
  simp only [Act.put, List.setIfInBounds_toArray, List.set_cons_zero, List.set_cons_succ]
  refine gen_anyH (S2 := fun v => Below u.heap.size u v) hS3 (fun v hS => ?_)
  refine wpAnyH_done (by kernel_rfl) ?_ _
  clear hS3 hS2
  have HL := Lib.hid (Hu.out.later hS)
  have HLn := Lib.hid (HL.out.ln)
  have HEn := Lib.hid (HL.out.en)
  have HXv := Lib.hid ((hS.block _ (lt_of_block HX.out)).trans HX.out)
  have HZv := Lib.hid ((hS.block _ (lt_of_block HZ.out)).trans HZ.out)
  have HBv := Lib.hid (HB.out.trans (hS.mono HB.out.size))
  have HKv := Lib.hid (show KeepM base w v from Keeps.ofNew HBv.out _)
  clear hS HB HX HZ Hu HLk HBlk
  clear hr0'
  have HBl := Lib.hid (fun (wS : World) (hw : Below v.heap.size v wS) => And.intro (HLn.out.later hw).blk ((HEn.out.later hw).map.size Tryz.underlying72 3))
  go_upto_region 7 with (fail)
  refine wp_region_held_drew (S := fun z => Below v.heap.size v z) (by kernel_rfl) (Below.refl v.heap.size v).drew (fun hS => ?_)
  obtain ⟨nl, hnl⟩ : ∃ nl, nl = L.length := ⟨_, rfl⟩
  have HNl := Lib.hid hnl
  have hq1 : ((nl : Int) == room) = true := by rw [hnl]; simpa using HRm.out
  have hq2 : decide ((nl : Int) = room) = true := by rw [hnl]; simpa using HRm.out
  clear hnl
  refine wpAnyH_take (i := 0) (oi := ⟨_, _, _, _, _, _⟩) (v := ?v81) rfl (by kernel_rfl) (by kernel_rfl) (by kernel_rfl) (fun _ _ _ h => h) ?y81 hS ?_
  case y81 => first | (refine Or.inr ⟨by rfl, ?_⟩; with_reducible rfl) | (refine Or.inl ⟨by rfl, ?_⟩; intro wS hSw; obtain ⟨hbS, hlS⟩ := HBl.out wS hSw; rw [← HNl.out] at hlS; obtain ⟨⟨-, -, -, -, a4, -, a6⟩, -⟩ := seven_box hbS; go_simp; try with_reducible rfl)
  simp only [Act.put, List.setIfInBounds_toArray, List.set_cons_zero, List.set_cons_succ]
  refine wpAnyH_take (i := 1) (oi := ⟨_, _, _, _, _, _⟩) (v := ?v82) rfl (by kernel_rfl) (by kernel_rfl) (by kernel_rfl) (fun _ _ _ h => h) ?y82 hS ?_
  case y82 => first | (refine Or.inr ⟨by rfl, ?_⟩; with_reducible rfl) | (refine Or.inl ⟨by rfl, ?_⟩; intro wS hSw; obtain ⟨hbS, hlS⟩ := HBl.out wS hSw; rw [← HNl.out] at hlS; obtain ⟨⟨-, -, -, -, a4, -, a6⟩, -⟩ := seven_box hbS; go_simp; try with_reducible rfl)
  simp only [Act.put, List.setIfInBounds_toArray, List.set_cons_zero, List.set_cons_succ]
  refine wpAnyH_take (i := 2) (oi := ⟨_, _, _, _, _, _⟩) (v := ?v83) rfl (by kernel_rfl) (by kernel_rfl) (by kernel_rfl) (fun _ _ _ h => h) ?y83 hS ?_
  case y83 => first | (refine Or.inr ⟨by rfl, ?_⟩; with_reducible rfl) | (refine Or.inl ⟨by rfl, ?_⟩; intro wS hSw; obtain ⟨hbS, hlS⟩ := HBl.out wS hSw; rw [← HNl.out] at hlS; obtain ⟨⟨-, -, -, -, a4, -, a6⟩, -⟩ := seven_box hbS; go_simp; try with_reducible rfl)
  simp only [Act.put, List.setIfInBounds_toArray, List.set_cons_zero, List.set_cons_succ]
  refine wpAnyH_take (i := 3) (oi := ⟨_, _, _, _, _, _⟩) (v := ?v84) rfl (by kernel_rfl) (by kernel_rfl) (by kernel_rfl) (fun _ _ _ h => h) ?y84 hS ?_
  case y84 => first | (refine Or.inr ⟨by rfl, ?_⟩; with_reducible rfl) | (refine Or.inl ⟨by rfl, ?_⟩; intro wS hSw; obtain ⟨hbS, hlS⟩ := HBl.out wS hSw; rw [← HNl.out] at hlS; obtain ⟨⟨-, -, -, -, a4, -, a6⟩, -⟩ := seven_box hbS; go_simp; try with_reducible rfl)
  simp only [Act.put, List.setIfInBounds_toArray, List.set_cons_zero, List.set_cons_succ]
  refine wpAnyH_take (i := 4) (oi := ⟨_, _, _, _, _, _⟩) (v := ?v85) rfl (by kernel_rfl) (by kernel_rfl) (by kernel_rfl) (fun _ _ _ h => h) ?y85 hS ?_
  case y85 => first | (refine Or.inr ⟨by rfl, ?_⟩; with_reducible rfl) | (refine Or.inl ⟨by rfl, ?_⟩; intro wS hSw; obtain ⟨hbS, hlS⟩ := HBl.out wS hSw; rw [← HNl.out] at hlS; obtain ⟨⟨-, -, -, -, a4, -, a6⟩, -⟩ := seven_box hbS; go_simp; try with_reducible rfl)
  simp only [Act.put, List.setIfInBounds_toArray, List.set_cons_zero, List.set_cons_succ]
  refine wpAnyH_take (i := 5) (oi := ⟨_, _, _, _, _, _⟩) (v := ?v86) rfl (by kernel_rfl) (by kernel_rfl) (by kernel_rfl) (fun _ _ _ h => h) ?y86 hS ?_
  case y86 => first | (refine Or.inr ⟨by rfl, ?_⟩; with_reducible rfl) | (refine Or.inl ⟨by rfl, ?_⟩; intro wS hSw; obtain ⟨hbS, hlS⟩ := HBl.out wS hSw; rw [← HNl.out] at hlS; obtain ⟨⟨-, -, -, -, a4, -, a6⟩, -⟩ := seven_box hbS; go_simp; try with_reducible rfl)
  simp only [Act.put, List.setIfInBounds_toArray, List.set_cons_zero, List.set_cons_succ]
  refine wpAnyH_take (i := 6) (oi := ⟨_, _, _, _, _, _⟩) (v := ?v87) rfl (by kernel_rfl) (by kernel_rfl) (by kernel_rfl) (fun _ _ _ h => h) ?y87 hS ?_
  case y87 => first | (refine Or.inr ⟨by rfl, ?_⟩; with_reducible rfl) | (refine Or.inl ⟨by rfl, ?_⟩; intro wS hSw; obtain ⟨hbS, hlS⟩ := HBl.out wS hSw; rw [← HNl.out] at hlS; obtain ⟨⟨-, -, -, -, a4, -, a6⟩, -⟩ := seven_box hbS; go_simp; try with_reducible rfl)
  simp only [Act.put, List.setIfInBounds_toArray, List.set_cons_zero, List.set_cons_succ]
  refine wpAnyH_take (i := 7) (oi := ⟨_, _, _, _, _, _⟩) (v := ?v88) rfl (by kernel_rfl) (by kernel_rfl) (by kernel_rfl) (fun _ _ _ h => h) ?y88 hS ?_
  case y88 => first | (refine Or.inr ⟨by rfl, ?_⟩; with_reducible rfl) | (refine Or.inl ⟨by rfl, ?_⟩; intro wS hSw; obtain ⟨hbS, hlS⟩ := HBl.out wS hSw; rw [← HNl.out] at hlS; obtain ⟨⟨-, -, -, -, a4, -, a6⟩, -⟩ := seven_box hbS; go_simp; try with_reducible rfl)
  simp only [Act.put, List.setIfInBounds_toArray, List.set_cons_zero, List.set_cons_succ]
  refine wpAnyH_take (i := 8) (oi := ⟨_, _, _, _, _, _⟩) (v := ?v89) rfl (by kernel_rfl) (by kernel_rfl) (by kernel_rfl) (fun _ _ _ h => h) ?y89 hS ?_
  case y89 => first | (refine Or.inr ⟨by rfl, ?_⟩; with_reducible rfl) | (refine Or.inl ⟨by rfl, ?_⟩; intro wS hSw; obtain ⟨hbS, hlS⟩ := HBl.out wS hSw; rw [← HNl.out] at hlS; obtain ⟨⟨-, -, -, -, a4, -, a6⟩, -⟩ := seven_box hbS; go_simp; try with_reducible rfl)
  simp only [Act.put, List.setIfInBounds_toArray, List.set_cons_zero, List.set_cons_succ]
  refine wpAnyH_take (i := 9) (oi := ⟨_, _, _, _, _, _⟩) (v := ?v90) rfl (by kernel_rfl) (by kernel_rfl) (by kernel_rfl) (fun _ _ _ h => h) ?y90 hS ?_
  case y90 => first | (refine Or.inr ⟨by rfl, ?_⟩; with_reducible rfl) | (refine Or.inl ⟨by rfl, ?_⟩; intro wS hSw; obtain ⟨hbS, hlS⟩ := HBl.out wS hSw; rw [← HNl.out] at hlS; obtain ⟨⟨-, -, -, -, a4, -, a6⟩, -⟩ := seven_box hbS; go_simp; try with_reducible rfl)
  simp only [Act.put, List.setIfInBounds_toArray, List.set_cons_zero, List.set_cons_succ]
  refine wpAnyH_done (by kernel_rfl) ?_ _
  replace HLn := Lib.hid (HLn.out.later hS)
  replace HEn := Lib.hid (HEn.out.later hS)
  replace HXv := Lib.hid ((hS.block _ (lt_of_block HXv.out)).trans HXv.out)
  replace HZv := Lib.hid ((hS.block _ (lt_of_block HZv.out)).trans HZv.out)
  replace HBv := Lib.hid (HBv.out.trans (hS.mono HBv.out.size))
  replace HKv := Lib.hid (show KeepM base w _ from Keeps.ofNew HBv.out _)
  clear hS HBl hq1 hq2 HNl HL
  generalize v.drew = v at *
  have HTv := Lib.hid (HT.out v HBv.out)
  have HVv := Lib.hid (HV.out v HBv.out)
  go_wp2_with fail
  refine (first_any v HLn.out HNe.out).mono ?_
  rintro e v1 ⟨r, hfr, rfl, hb⟩
  have HFr := Lib.hid hfr
  have hrk := fndK_is HLn.out.ord.once hfr.1
  have HRk := Lib.hid hrk
  have HLn1 := Lib.hid (HLn.out.later hb)
  have HEn1 := Lib.hid (HEn.out.later hb)
  have HX1 := Lib.hid ((hb.block _ (lt_of_block HXv.out)).trans HXv.out)
  have HZ1 := Lib.hid ((hb.block _ (lt_of_block HZv.out)).trans HZv.out)
  have HB1 := Lib.hid (HBv.out.trans (hb.mono HBv.out.size))
  clear hfr hrk hb HLn HEn HXv HZv HBv HKv HTv HVv
  obtain ⟨i0, hi0, hz0, hz1, hz2⟩ := info_parts Tryz.infoKy
  go_wp2_with (at_builtin; refine wpList_append_own _ rfl (.tmp 41) (.tmp 46) 50 rfl w.heap.size 24 i0 _ 3 24 Tryz.underlying50 hi0 hz0 hz1 hz2 rfl (by decide) _ 0 [] rfl (World.ownsRow_nil _ _ _ _) ⟨v1.heap.size, 0, none⟩ 1 1 [.int .i64 r.k.rule, .int .i64 r.k.level, .int .i64 r.k.place] rfl rfl (World.news_of_block (cs := #[.int .i64 r.k.rule, .int .i64 r.k.level, .int .i64 r.k.place]) (t := 24) (fr := (0, 0)) (heap_alloc_new v1 _)) (by simp [Value.oneCell']) (by unfold maxLen; omega) (by omega) (by have := HB1.out.size; simp; omega) ?_; intro v' v2 hown hgrow _; obtain ⟨g, cap, rfl⟩ := own_shape hown (by omega); have hb2 : Below v1.heap.size v1 v2 := ((Below.refl _ v1).alloc (Nat.le_refl _) _).grown hgrow (by simp) (fun k hk => by cases hk); have g0 := hown.cellAt 0 (by omega); have g1 := hown.cellAt 1 (by omega); have g2 := hown.cellAt 2 (by omega); simp only [List.nil_append, Nat.zero_add, List.getElem?_cons_zero, List.getElem?_cons_succ] at g0 g1 g2 hown; have HG := Lib.hid hown; have HB2 := Lib.hid hb2; clear hown hgrow hb2)
  refine (mDrop_any (k := r.k) v2 ⟨HLn1.out.later HB2.out, HEn1.out.later HB2.out⟩ HRk.out).mono ?_
  rintro e v3 ⟨rfl, hm, hk⟩
  have hB2 := HB1.out.trans (HB2.out.mono HB1.out.size)
  have HLn := Lib.hid hm.ln
  have HEn := Lib.hid hm.en
  have HXv := Lib.hid (hk.cells ((HB2.out.block _ (lt_of_block HX1.out)).trans HX1.out) (by decide))
  have HZv := Lib.hid (hk.cells ((HB2.out.block _ (lt_of_block HZ1.out)).trans HZ1.out) (by decide))
  have HKv := Lib.hid (KeepM.trans (Keeps.ofNew hB2 _) hk)
  have HTv := Lib.hid (hk.row (HT.out v2 hB2) (by decide))
  have HVv := Lib.hid (hk.row (HV.out v2 hB2) (by decide))
  replace HG := Lib.hid (hk.row HG.out (by decide))
  have HNk := Lib.hid (show fndK (dropK L r.k) k = none from by rw [fndK_drop H.out.ln.ord.once]; split; rfl; exact HN.out)
  have HLen := Lib.hid (show (dropK L r.k).length + 1 = L.length from dropK_len H.out.ln.ord.once (by unfold hasK; rw [HRk.out]; rfl))
  clear hm hk hB2 g0 g1 g2 HLn1 HEn1 HX1 HZ1 HB1 HB2 hi0 hz0 hz1 hz2
  generalize v3 = v at *
  go_upto_region 10 with (fail)
  refine wp_region_held_drew (S := fun z => z.heap[X]? = some (.cells #[.int .i64 k.rule, .int .i64 k.level, .int .i64 k.place] 24 (0, 0))) (by kernel_rfl) HXv.out (fun hS => ?_)
  refine wpAnyH_take (i := 0) (oi := ⟨_, _, _, _, _, _⟩) (v := ?v91) rfl (by kernel_rfl) (by kernel_rfl) (by kernel_rfl) (fun _ _ _ h => h) ?y91 hS ?_
  case y91 => first | (refine Or.inr ⟨by rfl, ?_⟩; with_reducible rfl) | (refine Or.inl ⟨by rfl, ?_⟩; intro wS hSw; obtain ⟨b0, b1, b2, -⟩ := three_box hSw; go_simp; try with_reducible rfl)
  simp only [Act.put, List.setIfInBounds_toArray, List.set_cons_zero, List.set_cons_succ]
  refine wpAnyH_take (i := 1) (oi := ⟨_, _, _, _, _, _⟩) (v := ?v92) rfl (by kernel_rfl) (by kernel_rfl) (by kernel_rfl) (fun _ _ _ h => h) ?y92 hS ?_
  case y92 => first | (refine Or.inr ⟨by rfl, ?_⟩; with_reducible rfl) | (refine Or.inl ⟨by rfl, ?_⟩; intro wS hSw; obtain ⟨b0, b1, b2, -⟩ := three_box hSw; go_simp; try with_reducible rfl)
  simp only [Act.put, List.setIfInBounds_toArray, List.set_cons_zero, List.set_cons_succ]
  refine wpAnyH_take (i := 2) (oi := ⟨_, _, _, _, _, _⟩) (v := ?v93) rfl (by kernel_rfl) (by kernel_rfl) (by kernel_rfl) (fun _ _ _ h => h) ?y93 hS ?_
  case y93 => first | (refine Or.inr ⟨by rfl, ?_⟩; with_reducible rfl) | (refine Or.inl ⟨by rfl, ?_⟩; intro wS hSw; obtain ⟨b0, b1, b2, -⟩ := three_box hSw; go_simp; try with_reducible rfl)
  simp only [Act.put, List.setIfInBounds_toArray, List.set_cons_zero, List.set_cons_succ]
  refine wpAnyH_take (i := 3) (oi := ⟨_, _, _, _, _, _⟩) (v := ?v94) rfl (by kernel_rfl) (by kernel_rfl) (by kernel_rfl) (fun _ _ _ h => h) ?y94 hS ?_
  case y94 => first | (refine Or.inr ⟨by rfl, ?_⟩; with_reducible rfl) | (refine Or.inl ⟨by rfl, ?_⟩; intro wS hSw; obtain ⟨b0, b1, b2, -⟩ := three_box hSw; go_simp; try with_reducible rfl)
  simp only [Act.put, List.setIfInBounds_toArray, List.set_cons_zero, List.set_cons_succ]
  refine wpAnyH_ready (rs := [4]) (by kernel_rfl) (by simp) ?_
  refine AllReadyH.cons (o := ⟨_, _, _, _, _, _⟩) rfl (fun K hK => ?_) AllReadyH.nil
  have hdr := (Below.refl v.heap.size v).drew
  go_simp
  refine (join_any v.drew (HLn.out.later hdr) HNk.out HOk.out HNx.out).mono ?_
  rintro e v1 ⟨rfl, hl, hk⟩
  have HLx := Lib.hid hl
  have HEn1 := Lib.hid ((HEn.out.later hdr).keepX hk)
  have HX1 := Lib.hid (hk.keepM.cells (show v.drew.heap[X]? = _ from HXv.out) (by decide))
  have HZ1 := Lib.hid (hk.keepM.cells (show v.drew.heap[X + 1]? = _ from HZv.out) (by decide))
  have HK1 := Lib.hid (KeepM.trans HKv.out (KeepM.trans (Keeps.ofNew hdr _) hk.keepM))
  have HTv1 := Lib.hid (hk.keepM.row (row_later HTv.out hdr) (by decide))
  have HVv1 := Lib.hid (hk.keepM.row (row_later HVv.out hdr) (by decide))
  replace HG := Lib.hid (hk.keepM.row (row_later HG.out hdr) (by decide))
  clear hl hk hdr
  go_wp2_with fail
  refine hK.out _ _ HX1.out (fun hSd => ?_)
  clear hSd hK K
  try simp only [Act.put, List.setIfInBounds_toArray, List.set_cons_zero, List.set_cons_succ]
  refine wpAnyH_done (by kernel_rfl) ?_ _
  clear hS HLn HEn HXv HZv HKv HTv HVv
  have HEn := HEn1
  have HTv := HTv1
  have HVv := HVv1
  have HXv := HX1
  have HZv := HZ1
  have HKv := HK1
  clear HEn1 HX1 HZ1 HK1 HTv1 HVv1
  generalize v1 = v at *
  go_upto_region 11 with (fail)
  have HBk := Lib.hid (HLx.out ⟨false, 0, 0, [], [], .slice none 0 0, .slice none 0 0⟩).blk
  refine wp_region_held_drew (S := fun z => z.heap[p]? = some (.cells #[.pointer (some ⟨q, 0, none⟩), .map (some nm), .map (some km), .int .i64 (next + 1), .int .i64 room, .int .i64 (peak), .map (some em)] 74 (0, 0)) ∧ z.heap[X]? = some (.cells #[.int .i64 k.rule, .int .i64 k.level, .int .i64 k.place] 24 (0, 0)) ∧ z.heap[X + 1]? = some (.cells #[.bool xis, .int .i64 xen, .int .i64 xfar, .slice at1 n1 ct, .slice ak1 n2 ck] 30 (0, 0))) (by kernel_rfl) ⟨HBk.out, HXv.out, HZv.out⟩ (fun hS => ?_)
  refine wpAnyH_take (i := 0) (oi := ⟨_, _, _, _, _, _⟩) (v := ?v95) rfl (by kernel_rfl) (by kernel_rfl) (by kernel_rfl) (fun _ _ _ h => h) ?y95 hS ?_
  case y95 => first | (refine Or.inr ⟨by rfl, ?_⟩; with_reducible rfl) | (refine Or.inl ⟨by rfl, ?_⟩; intro wS hSw; obtain ⟨⟨-, -, -, -, -, -, a6⟩, -⟩ := seven_box hSw.1; obtain ⟨b0, b1, b2, -⟩ := three_box hSw.2.1; obtain ⟨⟨d0, d1, d2, d3, d4⟩, -⟩ := five_box hSw.2.2; go_simp; try with_reducible rfl)
  simp only [Act.put, List.setIfInBounds_toArray, List.set_cons_zero, List.set_cons_succ]
  refine wpAnyH_take (i := 1) (oi := ⟨_, _, _, _, _, _⟩) (v := ?v96) rfl (by kernel_rfl) (by kernel_rfl) (by kernel_rfl) (fun _ _ _ h => h) ?y96 hS ?_
  case y96 => first | (refine Or.inr ⟨by rfl, ?_⟩; with_reducible rfl) | (refine Or.inl ⟨by rfl, ?_⟩; intro wS hSw; obtain ⟨⟨-, -, -, -, -, -, a6⟩, -⟩ := seven_box hSw.1; obtain ⟨b0, b1, b2, -⟩ := three_box hSw.2.1; obtain ⟨⟨d0, d1, d2, d3, d4⟩, -⟩ := five_box hSw.2.2; go_simp; try with_reducible rfl)
  simp only [Act.put, List.setIfInBounds_toArray, List.set_cons_zero, List.set_cons_succ]
  refine wpAnyH_take (i := 2) (oi := ⟨_, _, _, _, _, _⟩) (v := ?v97) rfl (by kernel_rfl) (by kernel_rfl) (by kernel_rfl) (fun _ _ _ h => h) ?y97 hS ?_
  case y97 => first | (refine Or.inr ⟨by rfl, ?_⟩; with_reducible rfl) | (refine Or.inl ⟨by rfl, ?_⟩; intro wS hSw; obtain ⟨⟨-, -, -, -, -, -, a6⟩, -⟩ := seven_box hSw.1; obtain ⟨b0, b1, b2, -⟩ := three_box hSw.2.1; obtain ⟨⟨d0, d1, d2, d3, d4⟩, -⟩ := five_box hSw.2.2; go_simp; try with_reducible rfl)
  simp only [Act.put, List.setIfInBounds_toArray, List.set_cons_zero, List.set_cons_succ]
  refine wpAnyH_take (i := 3) (oi := ⟨_, _, _, _, _, _⟩) (v := ?v98) rfl (by kernel_rfl) (by kernel_rfl) (by kernel_rfl) (fun _ _ _ h => h) ?y98 hS ?_
  case y98 => first | (refine Or.inr ⟨by rfl, ?_⟩; with_reducible rfl) | (refine Or.inl ⟨by rfl, ?_⟩; intro wS hSw; obtain ⟨⟨-, -, -, -, -, -, a6⟩, -⟩ := seven_box hSw.1; obtain ⟨b0, b1, b2, -⟩ := three_box hSw.2.1; obtain ⟨⟨d0, d1, d2, d3, d4⟩, -⟩ := five_box hSw.2.2; go_simp; try with_reducible rfl)
  simp only [Act.put, List.setIfInBounds_toArray, List.set_cons_zero, List.set_cons_succ]
  refine wpAnyH_take (i := 4) (oi := ⟨_, _, _, _, _, _⟩) (v := ?v99) rfl (by kernel_rfl) (by kernel_rfl) (by kernel_rfl) (fun _ _ _ h => h) ?y99 hS ?_
  case y99 => first | (refine Or.inr ⟨by rfl, ?_⟩; with_reducible rfl) | (refine Or.inl ⟨by rfl, ?_⟩; intro wS hSw; obtain ⟨⟨-, -, -, -, -, -, a6⟩, -⟩ := seven_box hSw.1; obtain ⟨b0, b1, b2, -⟩ := three_box hSw.2.1; obtain ⟨⟨d0, d1, d2, d3, d4⟩, -⟩ := five_box hSw.2.2; go_simp; try with_reducible rfl)
  simp only [Act.put, List.setIfInBounds_toArray, List.set_cons_zero, List.set_cons_succ]
  refine wpAnyH_take (i := 5) (oi := ⟨_, _, _, _, _, _⟩) (v := ?v100) rfl (by kernel_rfl) (by kernel_rfl) (by kernel_rfl) (fun _ _ _ h => h) ?y100 hS ?_
  case y100 => first | (refine Or.inr ⟨by rfl, ?_⟩; with_reducible rfl) | (refine Or.inl ⟨by rfl, ?_⟩; intro wS hSw; obtain ⟨⟨-, -, -, -, -, -, a6⟩, -⟩ := seven_box hSw.1; obtain ⟨b0, b1, b2, -⟩ := three_box hSw.2.1; obtain ⟨⟨d0, d1, d2, d3, d4⟩, -⟩ := five_box hSw.2.2; go_simp; try with_reducible rfl)
  simp only [Act.put, List.setIfInBounds_toArray, List.set_cons_zero, List.set_cons_succ]
  refine wpAnyH_ready (rs := [6]) (by kernel_rfl) (by simp) ?_
  refine AllReadyH.cons (o := ⟨_, _, _, _, _, _⟩) rfl (fun K hK => ?_) AllReadyH.nil
  go_simp
  have hdr := (Below.refl v.heap.size v).drew
  refine (copied_any ⟨xis, xen, xfar, xtree, xtou, .slice at1 n1 ct, .slice ak1 n2 ck⟩ v.drew (by have h5 := row_later HTv.out hdr; rw [HN1.out] at h5 ⊢; exact TwOwn.got h5) (by have h5 := row_later HVv.out hdr; rw [HN2.out] at h5 ⊢; exact IvOwn.got h5) HL1.out HL2.out).mono ?_
  rintro e v2 ⟨tv, kv, rfl, ho1, ho2, hb⟩
  have hb : Below v.heap.size v v2 := hdr.trans hb
  simp only at ho1 ho2
  obtain ⟨a1, c1, rfl⟩ := own_val ho1
  obtain ⟨a2, c2, rfl⟩ := own_val ho2
  rw [← HN1.out] at ho1 ⊢
  rw [← HN2.out] at ho2 ⊢
  have HLx2 := Lib.hid (fun x => (HLx.out x).later hb)
  have HEn2 := Lib.hid (HEn.out.later hb)
  have HX2 := Lib.hid ((hb.block _ (lt_of_block HXv.out)).trans HXv.out)
  have HZ2 := Lib.hid ((hb.block _ (lt_of_block HZv.out)).trans HZv.out)
  have HK2 := Lib.hid (KeepM.trans HKv.out (Keeps.ofNew hb _))
  have hlim := (HLx.out ⟨false, 0, 0, [], [], .slice none 0 0, .slice none 0 0⟩).lim
  have HO1 := Lib.hid (And.intro (ownsRow_base ho1 (Nat.zero_le _)) (not_watched ho1 hlim))
  have HO2 := Lib.hid (And.intro (ownsRow_base ho2 (Nat.zero_le _)) (not_watched ho2 hlim))

  obtain ⟨v3, hrun, hm3, hk3⟩ := HEn2.out.map.put Tryz.underlying72 (by have := (H.out.ln).le; have := (H.out.ln).nle; have := HLen.out; omega) HOk.out (.agg #[.bool xis, .int .i64 xen, .int .i64 xfar, .slice a1 n1 c1, .slice a2 n2 c2])
  have HRun := Lib.hid hrun
  have HEn3 := Lib.hid (EnIs.add (n := next) (x := ⟨xis, xen, xfar, xtree, xtou, .slice a1 n1 c1, .slice a2 n2 c2⟩) HEn2.out HNk.out ⟨by have := HO1.out.1; rw [HN1.out] at this ⊢; exact this, HO1.out.2⟩ ⟨by have := HO2.out.1; rw [HN2.out] at this ⊢; exact this, HO2.out.2⟩ hm3 hk3)
  have HLx3 := Lib.hid (fun x => (HLx2.out x).keepE hk3)
  have HK3 := Lib.hid (KeepM.trans HK2.out (keepM_map hk3 (HLx2.out ⟨false, 0, 0, [], [], .slice none 0 0, .slice none 0 0⟩).be (HLx2.out ⟨false, 0, 0, [], [], .slice none 0 0, .slice none 0 0⟩).we HEn2.out.map.blk))
  have hx3 := hk3.obj HX2.out (fun e => by obtain ⟨es, ck, h1⟩ := HEn2.out.map.blk; have := HX2.out; rw [e, h1] at this; simp at this)
  have hz3 := hk3.obj HZ2.out (fun e => by obtain ⟨es, ck, h1⟩ := HEn2.out.map.blk; have := HZ2.out; rw [e, h1] at this; simp at this)
  have hem := HEn2.out.map.blk
  replace HG := Lib.hid (row_kept (row_later HG.out hb) hk3 (fun k cs hc e => by obtain ⟨es, ck, h1⟩ := hem; rw [e, h1] at hc; simp at hc))
  clear hem
  go_wp2_with fail
  refine hK.out _ _ ⟨(HLx2.out ⟨false, 0, 0, [], [], .slice none 0 0, .slice none 0 0⟩).blk, HX2.out, HZ2.out⟩ (fun hSd => ?_)
  clear hSd hK K hdr hb ho1 ho2 hlim hrun hm3
  try simp only [Act.put, List.setIfInBounds_toArray, List.set_cons_zero, List.set_cons_succ]
  refine wpAnyH_ready (rs := [7]) (by kernel_rfl) (by simp) ?_
  refine AllReadyH.cons (o := ⟨_, _, _, _, _, _⟩) rfl (fun K hK => ?_) AllReadyH.nil
  have hrun : (Instr.mapUpdate 72 (.map (some em)) (.agg #[.int .i64 k.rule, .int .i64 k.level, .int .i64 k.place]) (.agg #[.bool xis, .int .i64 xen, .int .i64 xfar, .slice a1 n1 c1, .slice a2 n2 c2])).run Tryz.prog v2 = .ok () v3 := HRun.out
  go_simp
  refine hK.out _ _ ⟨(HLx3.out ⟨false, 0, 0, [], [], .slice none 0 0, .slice none 0 0⟩).blk, hx3, hz3⟩ (fun hSd => ?_)
  clear hSd hK K hrun hx3 hz3 hk3
  try simp only [Act.put, List.setIfInBounds_toArray, List.set_cons_zero, List.set_cons_succ]
  refine wpAnyH_done (by kernel_rfl) ?_ _
  clear hS
  go_upto_region 12 with (fail)
  have HLy := Lib.hid (HLx3.out ⟨xis, xen, xfar, xtree, xtou, .slice a1 n1 c1, .slice a2 n2 c2⟩)
  obtain ⟨n, hn⟩ : ∃ n, n = (dropK L r.k ++ [(⟨k, next, ⟨xis, xen, xfar, xtree, xtou, .slice a1 n1 c1, .slice a2 n2 c2⟩⟩ : Rec)]).length := ⟨_, rfl⟩
  have HNn := Lib.hid hn
  clear hn
  refine wp_region_held_drew (S := fun z => (∃ pk, z.heap[p]? = some (.cells #[.pointer (some ⟨q, 0, none⟩), .map (some nm), .map (some km), .int .i64 (next + 1), .int .i64 room, .int .i64 (pk), .map (some em)] 74 (0, 0))) ∧ EnIs z em (dropK L r.k ++ [(⟨k, next, ⟨xis, xen, xfar, xtree, xtou, .slice a1 n1 c1, .slice a2 n2 c2⟩⟩ : Rec)])) (by kernel_rfl) ⟨⟨_, HLy.out.blk⟩, HEn3.out.later (Below.refl v3.heap.size v3).drew⟩ (fun hS => ?_)
  refine wpAnyH_take (i := 0) (oi := ⟨_, _, _, _, _, _⟩) (v := ?v101) rfl (by kernel_rfl) (by kernel_rfl) (by kernel_rfl) (fun _ _ _ h => h) ?y101 hS ?_
  case y101 => first | (refine Or.inr ⟨by rfl, ?_⟩; with_reducible rfl) | (refine Or.inl ⟨by rfl, ?_⟩; intro wS hSw; obtain ⟨⟨pkS, hpS⟩, heS⟩ := hSw; obtain ⟨⟨-, -, -, -, -, -, a6⟩, -⟩ := seven_box hpS; have hl := heS.map.size Tryz.underlying72 3; rw [← HNn.out] at hl; go_simp; try with_reducible rfl)
  simp only [Act.put, List.setIfInBounds_toArray, List.set_cons_zero, List.set_cons_succ]
  refine wpAnyH_take (i := 1) (oi := ⟨_, _, _, _, _, _⟩) (v := ?v102) rfl (by kernel_rfl) (by kernel_rfl) (by kernel_rfl) (fun _ _ _ h => h) ?y102 hS ?_
  case y102 => first | (refine Or.inr ⟨by rfl, ?_⟩; with_reducible rfl) | (refine Or.inl ⟨by rfl, ?_⟩; intro wS hSw; obtain ⟨⟨pkS, hpS⟩, heS⟩ := hSw; obtain ⟨⟨-, -, -, -, -, -, a6⟩, -⟩ := seven_box hpS; have hl := heS.map.size Tryz.underlying72 3; rw [← HNn.out] at hl; go_simp; try with_reducible rfl)
  simp only [Act.put, List.setIfInBounds_toArray, List.set_cons_zero, List.set_cons_succ]
  refine wpAnyH_take (i := 2) (oi := ⟨_, _, _, _, _, _⟩) (v := ?v103) rfl (by kernel_rfl) (by kernel_rfl) (by kernel_rfl) (fun _ _ _ h => h) ?y103 hS ?_
  case y103 => first | (refine Or.inr ⟨by rfl, ?_⟩; with_reducible rfl) | (refine Or.inl ⟨by rfl, ?_⟩; intro wS hSw; obtain ⟨⟨pkS, hpS⟩, heS⟩ := hSw; obtain ⟨⟨-, -, -, -, -, -, a6⟩, -⟩ := seven_box hpS; have hl := heS.map.size Tryz.underlying72 3; rw [← HNn.out] at hl; go_simp; try with_reducible rfl)
  simp only [Act.put, List.setIfInBounds_toArray, List.set_cons_zero, List.set_cons_succ]
  refine wpAnyH_take (i := 3) (oi := ⟨_, _, _, _, _, _⟩) (v := ?v104) rfl (by kernel_rfl) (by kernel_rfl) (by kernel_rfl) (fun _ _ _ h => h) ?y104 hS ?_
  case y104 => first | (refine Or.inr ⟨by rfl, ?_⟩; with_reducible rfl) | (refine Or.inl ⟨by rfl, ?_⟩; intro wS hSw; obtain ⟨⟨pkS, hpS⟩, heS⟩ := hSw; obtain ⟨⟨-, -, -, -, -, -, a6⟩, -⟩ := seven_box hpS; have hl := heS.map.size Tryz.underlying72 3; rw [← HNn.out] at hl; go_simp; try with_reducible rfl)
  simp only [Act.put, List.setIfInBounds_toArray, List.set_cons_zero, List.set_cons_succ]
  refine wpAnyH_take (i := 5) (oi := ⟨_, _, _, _, _, _⟩) (v := ?v105) rfl (by kernel_rfl) (by kernel_rfl) (by kernel_rfl) (fun _ _ _ h => h) ?y105 hS ?_
  case y105 => first | (refine Or.inr ⟨by rfl, ?_⟩; with_reducible rfl) | (refine Or.inl ⟨by rfl, ?_⟩; intro wS hSw; obtain ⟨⟨pkS, hpS⟩, heS⟩ := hSw; obtain ⟨⟨-, -, -, -, -, -, a6⟩, -⟩ := seven_box hpS; have hl := heS.map.size Tryz.underlying72 3; rw [← HNn.out] at hl; go_simp; try with_reducible rfl)
  simp only [Act.put, List.setIfInBounds_toArray, List.set_cons_zero, List.set_cons_succ]
  refine wpAnyH_take (i := 6) (oi := ⟨_, _, _, _, _, _⟩) (v := ?v106) rfl (by kernel_rfl) (by kernel_rfl) (by kernel_rfl) (fun _ _ _ h => h) ?y106 hS ?_
  case y106 => first | (refine Or.inr ⟨by rfl, ?_⟩; with_reducible rfl) | (refine Or.inl ⟨by rfl, ?_⟩; intro wS hSw; obtain ⟨⟨pkS, hpS⟩, heS⟩ := hSw; obtain ⟨⟨-, -, -, -, -, -, a6⟩, -⟩ := seven_box hpS; have hl := heS.map.size Tryz.underlying72 3; rw [← HNn.out] at hl; go_simp; try with_reducible rfl)
  simp only [Act.put, List.setIfInBounds_toArray, List.set_cons_zero, List.set_cons_succ]
  refine wpAnyH_take (i := 7) (oi := ⟨_, _, _, _, _, _⟩) (v := ?v107) rfl (by kernel_rfl) (by kernel_rfl) (by kernel_rfl) (fun _ _ _ h => h) ?y107 hS ?_
  case y107 => first | (refine Or.inr ⟨by rfl, ?_⟩; with_reducible rfl) | (refine Or.inl ⟨by rfl, ?_⟩; intro wS hSw; obtain ⟨⟨pkS, hpS⟩, heS⟩ := hSw; obtain ⟨⟨-, -, -, -, -, -, a6⟩, -⟩ := seven_box hpS; have hl := heS.map.size Tryz.underlying72 3; rw [← HNn.out] at hl; go_simp; try with_reducible rfl)
  simp only [Act.put, List.setIfInBounds_toArray, List.set_cons_zero, List.set_cons_succ]
  refine wpAnyH_take (i := 8) (oi := ⟨_, _, _, _, _, _⟩) (v := ?v108) rfl (by kernel_rfl) (by kernel_rfl) (by kernel_rfl) (fun _ _ _ h => h) ?y108 hS ?_
  case y108 => first | (refine Or.inr ⟨by rfl, ?_⟩; with_reducible rfl) | (refine Or.inl ⟨by rfl, ?_⟩; intro wS hSw; obtain ⟨⟨pkS, hpS⟩, heS⟩ := hSw; obtain ⟨⟨-, -, -, -, -, -, a6⟩, -⟩ := seven_box hpS; have hl := heS.map.size Tryz.underlying72 3; rw [← HNn.out] at hl; go_simp; try with_reducible rfl)
  simp only [Act.put, List.setIfInBounds_toArray, List.set_cons_zero, List.set_cons_succ]
  refine wpAnyH_take (i := 9) (oi := ⟨_, _, _, _, _, _⟩) (v := ?v109) rfl (by kernel_rfl) (by kernel_rfl) (by kernel_rfl) (fun _ _ _ h => h) ?y109 hS ?_
  case y109 => first | (refine Or.inr ⟨by rfl, ?_⟩; with_reducible rfl) | (refine Or.inl ⟨by rfl, ?_⟩; intro wS hSw; obtain ⟨⟨pkS, hpS⟩, heS⟩ := hSw; obtain ⟨⟨-, -, -, -, -, -, a6⟩, -⟩ := seven_box hpS; have hl := heS.map.size Tryz.underlying72 3; rw [← HNn.out] at hl; go_simp; try with_reducible rfl)
  simp only [Act.put, List.setIfInBounds_toArray, List.set_cons_zero, List.set_cons_succ]
  refine wpAnyH_ready (rs := [4]) (by kernel_rfl) (by simp) ?_
  refine AllReadyH.cons (o := ⟨_, _, _, _, _, _⟩) rfl (fun K hK => ?_) AllReadyH.nil
  obtain ⟨⟨-, -, -, -, -, a5, -⟩, -⟩ := seven_box HLy.out.blk
  go_simp
  refine hK.out _ _ hS (fun hSd => ?_)
  clear hSd hK K a5
  try simp only [Act.put, List.setIfInBounds_toArray, List.set_cons_zero, List.set_cons_succ]
  obtain ⟨pk, hpk⟩ : ∃ pk, pk = max peak (n : Int) := ⟨_, rfl⟩
  have hm1 : max peak (n : Int) = pk := hpk.symm
  have hm2 : max (n : Int) peak = pk := by omega
  have HPk := Lib.hid hpk
  clear hpk
  refine wpAnyH_take (i := 10) (oi := ⟨_, _, _, _, _, _⟩) (v := ?v110) rfl (by kernel_rfl) (by kernel_rfl) (by kernel_rfl) (fun _ _ _ h => h) ?y110 hS ?_
  case y110 => first | (refine Or.inr ⟨by rfl, ?_⟩; with_reducible rfl) | (refine Or.inl ⟨by rfl, ?_⟩; intro wS hSw; go_simp; try with_reducible rfl)
  simp only [Act.put, List.setIfInBounds_toArray, List.set_cons_zero, List.set_cons_succ]
  clear hm1 hm2
  refine wpAnyH_take (i := 11) (oi := ⟨_, _, _, _, _, _⟩) (v := ?v111) rfl (by kernel_rfl) (by kernel_rfl) (by kernel_rfl) (fun _ _ _ h => h) ?y111 hS ?_
  case y111 => first | (refine Or.inr ⟨by rfl, ?_⟩; with_reducible rfl) | (refine Or.inl ⟨by rfl, ?_⟩; intro wS hSw; obtain ⟨⟨pkS, hpS⟩, heS⟩ := hSw; obtain ⟨⟨-, -, -, -, -, -, a6⟩, -⟩ := seven_box hpS; have hl := heS.map.size Tryz.underlying72 3; rw [← HNn.out] at hl; go_simp; try with_reducible rfl)
  simp only [Act.put, List.setIfInBounds_toArray, List.set_cons_zero, List.set_cons_succ]
  refine wpAnyH_take (i := 12) (oi := ⟨_, _, _, _, _, _⟩) (v := ?v112) rfl (by kernel_rfl) (by kernel_rfl) (by kernel_rfl) (fun _ _ _ h => h) ?y112 hS ?_
  case y112 => first | (refine Or.inr ⟨by rfl, ?_⟩; with_reducible rfl) | (refine Or.inl ⟨by rfl, ?_⟩; intro wS hSw; obtain ⟨⟨pkS, hpS⟩, heS⟩ := hSw; obtain ⟨⟨-, -, -, -, -, -, a6⟩, -⟩ := seven_box hpS; have hl := heS.map.size Tryz.underlying72 3; rw [← HNn.out] at hl; go_simp; try with_reducible rfl)
  simp only [Act.put, List.setIfInBounds_toArray, List.set_cons_zero, List.set_cons_succ]
  refine wpAnyH_ready (rs := [13]) (by kernel_rfl) (by simp) ?_
  refine AllReadyH.cons (o := ⟨_, _, _, _, _, _⟩) rfl (fun K hK => ?_) AllReadyH.nil
  obtain ⟨⟨-, -, -, -, -, a5, -⟩, ⟨-, -, -, -, -, g5, -⟩⟩ := seven_box HLy.out.blk
  obtain ⟨hl4, hk4⟩ := HLy.out.setPeak pk
  go_simp
  refine hK.out _ _ ⟨⟨_, hl4.blk⟩, (HEn3.out.keepX hk4).later (Below.refl _ _).drew⟩ (fun hSd => ?_)
  clear hSd hK K a5 g5
  try simp only [Act.put, List.setIfInBounds_toArray, List.set_cons_zero, List.set_cons_succ]
  refine wpAnyH_done (by kernel_rfl) ?_ _
  clear hS
  have HF0 : MeIs base (v3.setCell ⟨p, 5, none⟩ (.int .i64 pk)) p q nm km em (next + 1) room pk (dropK L r.k ++ [(⟨k, next, ⟨xis, xen, xfar, xtree, xtou, .slice a1 n1 c1, .slice a2 n2 c2⟩⟩ : Rec)]) := ⟨hl4, HEn3.out.keepX hk4⟩
  have HF := Lib.hid (HF0.later (Below.refl _ _).drew)
  have HFk := Lib.hid (KeepM.trans (KeepM.trans HK3.out hk4.keepM) (Keeps.ofNew (Below.refl _ _).drew _))
  clear HF0
  replace HG := Lib.hid (hk4.keepM.row HG.out (by decide))
  clear hl4 hk4
  go_wp2
  go_ret2
  refine ⟨r, g, cap, HFr.out, rfl, HG.out, .slice a1 n1 c1, .slice a2 n2 c2, ?_, HFk.out⟩
  have hp := HPk.out
  rw [HNn.out, List.length_append, List.length_singleton, HLen.out] at hp
  rw [← hp]
  exact HF.out
end Go.Proofs.YtpchjpmkkiopiaaGreat
