import Derived.Test.YtpchjpmkkiopiaaGreatMeEm
namespace Go.Proofs.YtpchjpmkkiopiaaGreat
open Go.RowKit Go.Lib

/-- a memory: its line and its entries. -/
structure MeIs [Watch] (base : Nat) (w : World) (p q nm km em : Nat) (next room peak : Int) (L : List Rec) : Prop where
  ln : LnIs base w p q nm km em next room peak L
  en : EnIs w em L
theorem MeIs.later [Watch] {base : Nat} {w w' : World} {p q nm km em : Nat} {next room peak : Int} {L : List Rec} (h : MeIs base w p q nm km em next room peak L) (hb : Below w.heap.size w w') : MeIs base w' p q nm km em next room peak L := ⟨h.ln.later hb, h.en.later hb⟩
theorem ent_look [Watch] {w : World} {em : Nat} {L : List Rec} (h : EnIs w em L) {k : Ky} (hw : kyOk k) (c : Bool) :
    (Instr.lookup 72 (.map (some em)) (.agg #[.int .i64 k.rule, .int .i64 k.level, .int .i64 k.place]) c).run Tryz.prog w = .ok (if c then .tuple #[((fndK L k).map fun r => entv r.x).getD (.agg #[.bool false, .int .i64 0, .int .i64 0, .slice none 0 0, .slice none 0 0]), .bool (fndK L k).isSome] else ((fndK L k).map fun r => entv r.x).getD (.agg #[.bool false, .int .i64 0, .int .i64 0, .slice none 0 0, .slice none 0 0])) w := by
  have := h.map.look (z := .agg #[.bool false, .int .i64 0, .int .i64 0, .slice none 0 0, .slice none 0 0]) Tryz.underlying72 (by kernel_rfl) (x := k) hw c
  rw [Option.isSome_map] at this
  exact this
theorem EnIs.drop [Watch] {w w' : World} {em : Nat} {L : List Rec} {k : Ky} (h : EnIs w em L) (hor : (L.map (·.k)).Nodup) (hr : hasK L k = true) (hm : MapV kyK w' em (if ((fndK L k).map fun r => entv r.x).isSome then L.length - 1 else L.length) (setV (fun k => (fndK L k).map fun r => entv r.x) k none)) (hk : Keeps (· = em) w w') : EnIs w' em (dropK L k) := by
  obtain ⟨es, clock, he⟩ := h.map.blk
  have hne : ∀ k cs t fr, w.heap[k]? = some (.cells cs t fr) → ¬ k = em := fun k cs t fr h1 e => by rw [e, he] at h1; simp at h1
  refine ⟨?_, fun r hr => ⟨row_kept (h.tws r (mem_dropK.1 hr).1).1 hk (fun k cs h1 => hne k cs _ _ h1), (h.tws r (mem_dropK.1 hr).1).2⟩, fun r hr => ⟨row_kept (h.ivs r (mem_dropK.1 hr).1).1 hk (fun k cs h1 => hne k cs _ _ h1), (h.ivs r (mem_dropK.1 hr).1).2⟩⟩
  have hlen := dropK_len hor hr
  have hs : (fndK L k).isSome = true := hr
  rw [Option.isSome_map, if_pos hs, show L.length - 1 = (dropK L k).length by omega] at hm
  refine hm.ext (fun k' _ => ?_)
  rw [fndK_drop hor]
  by_cases e : k' = k
  · rw [if_pos e, e, setV_same]; rfl
  · rw [if_neg e, setV_other _ _ e]
theorem keepM_map [Watch] {base m : Nat} {w w' : World} (hk : Keeps (· = m) w w') (hb : base ≤ m) (hw : ¬ Watch.W m) (hm : ∃ es clock, w.heap[m]? = some (.map es clock)) : KeepM base w w' := Keeps.mono hk fun k _ e => by
  subst e
  obtain ⟨es, clock, h1⟩ := hm
  exact ⟨⟨hb, hw⟩, by rw [h1]; trivial⟩
set_option maxRecDepth 100000 in
set_option maxHeartbeats 1000000 in
theorem mLen_any [Watch] {base : Nat} {p q nm km em : Nat} {next room peak : Int} {L : List Rec} (w : World) (h : MeIs base w p q nm km em next room peak L) :
    Calls Tryz.prog 26 #[.pointer (some ⟨p, 0, none⟩)] w fun e w' => e = .returned (.int .i64 L.length) ∧ w = w' := by
  have H := Lib.hid h
  have hl := h.en.map.size Tryz.underlying72 3
  obtain ⟨⟨-, -, -, -, -, -, c6⟩, -⟩ := seven_box h.ln.blk
  clear h
  go_enter Tryz.func26, Tryz.ntmps26
  go_wp2_with fail
  refine (H.out.ln.made w).mono ?_
  rintro e w1 ⟨rfl, rfl⟩
  go_wp2
  go_ret
  exact ⟨rfl, rfl⟩
set_option maxRecDepth 100000 in
set_option maxHeartbeats 1000000 in
theorem mPeak_any [Watch] {base : Nat} {p q nm km em : Nat} {next room peak : Int} {L : List Rec} (w : World) (h : MeIs base w p q nm km em next room peak L) :
    Calls Tryz.prog 27 #[.pointer (some ⟨p, 0, none⟩)] w fun e w' => e = .returned (.int .i64 peak) ∧ w = w' := by
  have H := Lib.hid h
  obtain ⟨⟨-, -, -, -, -, c5, -⟩, -⟩ := seven_box h.ln.blk
  clear h
  go_enter Tryz.func27, Tryz.ntmps27
  go_wp2_with fail
  refine (H.out.ln.made w).mono ?_
  rintro e w1 ⟨rfl, rfl⟩
  go_wp2
  go_ret
  exact ⟨rfl, rfl⟩
set_option maxRecDepth 100000 in
set_option maxHeartbeats 2000000 in
theorem mDropN_any [Watch] {base : Nat} {p q nm km em : Nat} {next room peak : Int} {L : List Rec} {k : Ky} (w : World) (h : MeIs base w p q nm km em next room peak L) (hkk : kyOk k) (hn : fndK L k = none) :
    Calls Tryz.prog 17 #[.pointer (some ⟨p, 0, none⟩), kyv k] w fun e w' => e = .returned (.bool false) ∧ Below w.heap.size w w' := by
  have HLk := Lib.hid (fun (wS : World) (hw : Below w.heap.size w wS) => by have := ent_look (h.later hw).en hkk true; rw [hn] at this; exact this)
  clear hn
  have H := Lib.hid h
  have HOk := Lib.hid hkk
  clear h hkk
  go_enter Tryz.func17, Tryz.ntmps17
  go_upto_region 1 with (fail)
  refine gen_world (S := fun u => Below w.heap.size w u ∧ u.heap[w.heap.size]? = some (.cells #[.int .i64 k.rule, .int .i64 k.level, .int .i64 k.place] 24 (0, 0))) (one_new w _) (fun u hu => ?_)
  obtain ⟨hb, hx⟩ := hu
  obtain ⟨X, hX⟩ : ∃ X, X = w.heap.size := ⟨_, rfl⟩
  have HXe := Lib.hid hX
  rw [← hX] at hx ⊢
  have HB := Lib.hid hb
  have HX := Lib.hid hx
  have Hu := Lib.hid (H.out.later hb)
  clear hX hb hx
  go_wp2_with fail
  refine (Hu.out.ln.made u).mono ?_
  rintro e w1 ⟨rfl, rfl⟩
  go_upto_region 3 with (fail)
  have HBlk := Lib.hid (fun (wS : World) (hw : Below u.heap.size u wS) => (Hu.out.later hw).ln.blk)
  refine wp_region_held_drew (S := fun v => Below u.heap.size u v) (by kernel_rfl) (Below.refl u.heap.size u).drew (fun hS => ?_)
  refine wpAnyH_take (i := 0) (oi := ⟨_, _, _, _, _, _⟩) (v := ?v1) rfl (by kernel_rfl) (by kernel_rfl) (by kernel_rfl) (fun _ _ _ h => h) ?y1 hS ?_
  case y1 => first | (refine Or.inr ⟨by rfl, ?_⟩; with_reducible rfl) | (refine Or.inl ⟨by rfl, ?_⟩; intro wS hSw; obtain ⟨⟨-, -, -, -, -, -, a6⟩, -⟩ := seven_box (HBlk.out wS hSw); obtain ⟨b0, b1, b2, -⟩ := three_box ((hSw.block _ (lt_of_block HX.out)).trans HX.out); have lk := HLk.out wS (HB.out.trans (hSw.mono HB.out.size)); go_simp; try with_reducible rfl)
  simp only [Act.put, List.setIfInBounds_toArray, List.set_cons_zero, List.set_cons_succ]
  refine wpAnyH_take (i := 1) (oi := ⟨_, _, _, _, _, _⟩) (v := ?v2) rfl (by kernel_rfl) (by kernel_rfl) (by kernel_rfl) (fun _ _ _ h => h) ?y2 hS ?_
  case y2 => first | (refine Or.inr ⟨by rfl, ?_⟩; with_reducible rfl) | (refine Or.inl ⟨by rfl, ?_⟩; intro wS hSw; obtain ⟨⟨-, -, -, -, -, -, a6⟩, -⟩ := seven_box (HBlk.out wS hSw); obtain ⟨b0, b1, b2, -⟩ := three_box ((hSw.block _ (lt_of_block HX.out)).trans HX.out); have lk := HLk.out wS (HB.out.trans (hSw.mono HB.out.size)); go_simp; try with_reducible rfl)
  simp only [Act.put, List.setIfInBounds_toArray, List.set_cons_zero, List.set_cons_succ]
  refine wpAnyH_take (i := 2) (oi := ⟨_, _, _, _, _, _⟩) (v := ?v3) rfl (by kernel_rfl) (by kernel_rfl) (by kernel_rfl) (fun _ _ _ h => h) ?y3 hS ?_
  case y3 => first | (refine Or.inr ⟨by rfl, ?_⟩; with_reducible rfl) | (refine Or.inl ⟨by rfl, ?_⟩; intro wS hSw; obtain ⟨⟨-, -, -, -, -, -, a6⟩, -⟩ := seven_box (HBlk.out wS hSw); obtain ⟨b0, b1, b2, -⟩ := three_box ((hSw.block _ (lt_of_block HX.out)).trans HX.out); have lk := HLk.out wS (HB.out.trans (hSw.mono HB.out.size)); go_simp; try with_reducible rfl)
  simp only [Act.put, List.setIfInBounds_toArray, List.set_cons_zero, List.set_cons_succ]
  refine wpAnyH_take (i := 3) (oi := ⟨_, _, _, _, _, _⟩) (v := ?v4) rfl (by kernel_rfl) (by kernel_rfl) (by kernel_rfl) (fun _ _ _ h => h) ?y4 hS ?_
  case y4 => first | (refine Or.inr ⟨by rfl, ?_⟩; with_reducible rfl) | (refine Or.inl ⟨by rfl, ?_⟩; intro wS hSw; obtain ⟨⟨-, -, -, -, -, -, a6⟩, -⟩ := seven_box (HBlk.out wS hSw); obtain ⟨b0, b1, b2, -⟩ := three_box ((hSw.block _ (lt_of_block HX.out)).trans HX.out); have lk := HLk.out wS (HB.out.trans (hSw.mono HB.out.size)); go_simp; try with_reducible rfl)
  simp only [Act.put, List.setIfInBounds_toArray, List.set_cons_zero, List.set_cons_succ]
  refine wpAnyH_take (i := 4) (oi := ⟨_, _, _, _, _, _⟩) (v := ?v5) rfl (by kernel_rfl) (by kernel_rfl) (by kernel_rfl) (fun _ _ _ h => h) ?y5 hS ?_
  case y5 => first | (refine Or.inr ⟨by rfl, ?_⟩; with_reducible rfl) | (refine Or.inl ⟨by rfl, ?_⟩; intro wS hSw; obtain ⟨⟨-, -, -, -, -, -, a6⟩, -⟩ := seven_box (HBlk.out wS hSw); obtain ⟨b0, b1, b2, -⟩ := three_box ((hSw.block _ (lt_of_block HX.out)).trans HX.out); have lk := HLk.out wS (HB.out.trans (hSw.mono HB.out.size)); go_simp; try with_reducible rfl)
  simp only [Act.put, List.setIfInBounds_toArray, List.set_cons_zero, List.set_cons_succ]
  refine wpAnyH_take (i := 5) (oi := ⟨_, _, _, _, _, _⟩) (v := ?v6) rfl (by kernel_rfl) (by kernel_rfl) (by kernel_rfl) (fun _ _ _ h => h) ?y6 hS ?_
  case y6 => first | (refine Or.inr ⟨by rfl, ?_⟩; with_reducible rfl) | (refine Or.inl ⟨by rfl, ?_⟩; intro wS hSw; obtain ⟨⟨-, -, -, -, -, -, a6⟩, -⟩ := seven_box (HBlk.out wS hSw); obtain ⟨b0, b1, b2, -⟩ := three_box ((hSw.block _ (lt_of_block HX.out)).trans HX.out); have lk := HLk.out wS (HB.out.trans (hSw.mono HB.out.size)); go_simp; try with_reducible rfl)
  simp only [Act.put, List.setIfInBounds_toArray, List.set_cons_zero, List.set_cons_succ]
  refine wpAnyH_take (i := 6) (oi := ⟨_, _, _, _, _, _⟩) (v := ?v7) rfl (by kernel_rfl) (by kernel_rfl) (by kernel_rfl) (fun _ _ _ h => h) ?y7 hS ?_
  case y7 => first | (refine Or.inr ⟨by rfl, ?_⟩; with_reducible rfl) | (refine Or.inl ⟨by rfl, ?_⟩; intro wS hSw; obtain ⟨⟨-, -, -, -, -, -, a6⟩, -⟩ := seven_box (HBlk.out wS hSw); obtain ⟨b0, b1, b2, -⟩ := three_box ((hSw.block _ (lt_of_block HX.out)).trans HX.out); have lk := HLk.out wS (HB.out.trans (hSw.mono HB.out.size)); go_simp; try with_reducible rfl)
  simp only [Act.put, List.setIfInBounds_toArray, List.set_cons_zero, List.set_cons_succ]
  refine wpAnyH_take (i := 7) (oi := ⟨_, _, _, _, _, _⟩) (v := ?v8) rfl (by kernel_rfl) (by kernel_rfl) (by kernel_rfl) (fun _ _ _ h => h) ?y8 hS ?_
  case y8 => first | (refine Or.inr ⟨by rfl, ?_⟩; with_reducible rfl) | (refine Or.inl ⟨by rfl, ?_⟩; intro wS hSw; obtain ⟨⟨-, -, -, -, -, -, a6⟩, -⟩ := seven_box (HBlk.out wS hSw); obtain ⟨b0, b1, b2, -⟩ := three_box ((hSw.block _ (lt_of_block HX.out)).trans HX.out); have lk := HLk.out wS (HB.out.trans (hSw.mono HB.out.size)); go_simp; try with_reducible rfl)
  simp only [Act.put, List.setIfInBounds_toArray, List.set_cons_zero, List.set_cons_succ]
  refine wpAnyH_take (i := 8) (oi := ⟨_, _, _, _, _, _⟩) (v := ?v9) rfl (by kernel_rfl) (by kernel_rfl) (by kernel_rfl) (fun _ _ _ h => h) ?y9 hS ?_
  case y9 => first | (refine Or.inr ⟨by rfl, ?_⟩; with_reducible rfl) | (refine Or.inl ⟨by rfl, ?_⟩; intro wS hSw; obtain ⟨⟨-, -, -, -, -, -, a6⟩, -⟩ := seven_box (HBlk.out wS hSw); obtain ⟨b0, b1, b2, -⟩ := three_box ((hSw.block _ (lt_of_block HX.out)).trans HX.out); have lk := HLk.out wS (HB.out.trans (hSw.mono HB.out.size)); go_simp; try with_reducible rfl)
  simp only [Act.put, List.setIfInBounds_toArray, List.set_cons_zero, List.set_cons_succ]
  refine wpAnyH_ready (rs := [9]) (by kernel_rfl) (by simp) ?_
  refine AllReadyH.cons (o := ⟨_, _, _, _, _, _⟩) rfl (fun K hK => ?_) AllReadyH.nil
  go_simp
  have hS2 := hS.alloc hS.size (.cells #[.bool false, .int .i64 0, .int .i64 0, .slice none 0 0, .slice none 0 0] 30 (0, 0))
  refine hK.out _ _ hS2 (fun hSd => ?_)
  clear hSd hK K
  try simp only [Act.put, List.setIfInBounds_toArray, List.set_cons_zero, List.set_cons_succ]
  refine wpAnyH_ready (rs := [10]) (by kernel_rfl) (by simp) ?_
  refine AllReadyH.cons (o := ⟨_, _, _, _, _, _⟩) rfl (fun K hK => ?_) AllReadyH.nil
  go_simp
  refine hK.out _ _ (hS.alloc hS.size _) (fun hS3 => ?_)
  clear hK K
  try simp only [Act.put, List.setIfInBounds_toArray, List.set_cons_zero, List.set_cons_succ]
  refine wpAnyH_take (i := 11) (oi := ⟨_, _, _, _, _, _⟩) (v := ?v10) rfl (by kernel_rfl) (by kernel_rfl) (by kernel_rfl) (fun _ _ _ h => h) ?y10 hS3 ?_
  case y10 => first | (refine Or.inr ⟨by rfl, ?_⟩; with_reducible rfl) | (refine Or.inl ⟨by rfl, ?_⟩; intro wS hSw; go_simp; try with_reducible rfl)
  simp only [Act.put, List.setIfInBounds_toArray, List.set_cons_zero, List.set_cons_succ]
  refine wpAnyH_done (by kernel_rfl) ?_ _
  clear hS hS2
  generalize (u.alloc (.cells #[.bool false, .int .i64 0, .int .i64 0, .slice none 0 0, .slice none 0 0] 30 (0, 0))).drew = v at hS3 ⊢
  have HS := Lib.hid hS3
  clear hS3
  go_wp2
  go_ret
  exact ⟨rfl, HB.out.trans (HS.out.mono HB.out.size)⟩
set_option maxRecDepth 100000 in
set_option maxHeartbeats 4000000 in
theorem mDrop_any [Watch] {base : Nat} {p q nm km em : Nat} {next room peak : Int} {L : List Rec} {k : Ky} {r : Rec} (w : World) (h : MeIs base w p q nm km em next room peak L) (hr : fndK L k = some r) :
    Calls Tryz.prog 17 #[.pointer (some ⟨p, 0, none⟩), kyv k] w fun e w' => e = .returned (.bool true) ∧ MeIs base w' p q nm km em next room peak (dropK L k) ∧ KeepM base w w' := by
  have hkk : kyOk k := by obtain ⟨h1, rfl⟩ := fndK_some hr; exact h.ln.ord.wf _ h1
  have HLk := Lib.hid (fun (wS : World) (hw : Below w.heap.size w wS) => by have := ent_look (h.later hw).en hkk true; rw [hr] at this; exact this)
  have HR := Lib.hid hr
  have hto := (h.en.tws r (fndK_some hr).1).1
  have hko := (h.en.ivs r (fndK_some hr).1).1
  obtain ⟨at1, ct, hat⟩ := own_val hto
  obtain ⟨ak1, ck, hak⟩ := own_val hko
  obtain ⟨rk, rn, ⟨xis, xen, xfar, xtree, xtou, xtv, xkv⟩⟩ := r
  simp only at hat hak HLk
  subst hat hak
  simp only [entv, Option.map_some, Option.getD_some, if_true, Option.isSome_some] at HLk
  clear hr hto hko
  have H := Lib.hid h
  have HOk := Lib.hid hkk
  clear h hkk
  go_enter Tryz.func17, Tryz.ntmps17
  go_upto_region 1 with (fail)
  refine gen_world (S := fun u => Below w.heap.size w u ∧ u.heap[w.heap.size]? = some (.cells #[.int .i64 k.rule, .int .i64 k.level, .int .i64 k.place] 24 (0, 0))) (one_new w _) (fun u hu => ?_)
  obtain ⟨hb, hx⟩ := hu
  obtain ⟨X, hX⟩ : ∃ X, X = w.heap.size := ⟨_, rfl⟩
  have HXe := Lib.hid hX
  rw [← hX] at hx ⊢
  have HB := Lib.hid hb
  have HX := Lib.hid hx
  have Hu := Lib.hid (H.out.later hb)
  clear hX hb hx
  go_wp2_with fail
  refine (Hu.out.ln.made u).mono ?_
  rintro e w1 ⟨rfl, rfl⟩
  go_upto_region 3 with (fail)
  have HBlk := Lib.hid (fun (wS : World) (hw : Below u.heap.size u wS) => (Hu.out.later hw).ln.blk)
  refine wp_region_held_drew (S := fun v => Below u.heap.size u v) (by kernel_rfl) (Below.refl u.heap.size u).drew (fun hS => ?_)
  refine wpAnyH_take (i := 0) (oi := ⟨_, _, _, _, _, _⟩) (v := ?v11) rfl (by kernel_rfl) (by kernel_rfl) (by kernel_rfl) (fun _ _ _ h => h) ?y11 hS ?_
  case y11 => first | (refine Or.inr ⟨by rfl, ?_⟩; with_reducible rfl) | (refine Or.inl ⟨by rfl, ?_⟩; intro wS hSw; obtain ⟨⟨-, -, -, -, -, -, a6⟩, -⟩ := seven_box (HBlk.out wS hSw); obtain ⟨b0, b1, b2, -⟩ := three_box ((hSw.block _ (lt_of_block HX.out)).trans HX.out); have lk := HLk.out wS (HB.out.trans (hSw.mono HB.out.size)); go_simp; try with_reducible rfl)
  simp only [Act.put, List.setIfInBounds_toArray, List.set_cons_zero, List.set_cons_succ]
  refine wpAnyH_take (i := 1) (oi := ⟨_, _, _, _, _, _⟩) (v := ?v12) rfl (by kernel_rfl) (by kernel_rfl) (by kernel_rfl) (fun _ _ _ h => h) ?y12 hS ?_
  case y12 => first | (refine Or.inr ⟨by rfl, ?_⟩; with_reducible rfl) | (refine Or.inl ⟨by rfl, ?_⟩; intro wS hSw; obtain ⟨⟨-, -, -, -, -, -, a6⟩, -⟩ := seven_box (HBlk.out wS hSw); obtain ⟨b0, b1, b2, -⟩ := three_box ((hSw.block _ (lt_of_block HX.out)).trans HX.out); have lk := HLk.out wS (HB.out.trans (hSw.mono HB.out.size)); go_simp; try with_reducible rfl)
  simp only [Act.put, List.setIfInBounds_toArray, List.set_cons_zero, List.set_cons_succ]
  refine wpAnyH_take (i := 2) (oi := ⟨_, _, _, _, _, _⟩) (v := ?v13) rfl (by kernel_rfl) (by kernel_rfl) (by kernel_rfl) (fun _ _ _ h => h) ?y13 hS ?_
  case y13 => first | (refine Or.inr ⟨by rfl, ?_⟩; with_reducible rfl) | (refine Or.inl ⟨by rfl, ?_⟩; intro wS hSw; obtain ⟨⟨-, -, -, -, -, -, a6⟩, -⟩ := seven_box (HBlk.out wS hSw); obtain ⟨b0, b1, b2, -⟩ := three_box ((hSw.block _ (lt_of_block HX.out)).trans HX.out); have lk := HLk.out wS (HB.out.trans (hSw.mono HB.out.size)); go_simp; try with_reducible rfl)
  simp only [Act.put, List.setIfInBounds_toArray, List.set_cons_zero, List.set_cons_succ]
  refine wpAnyH_take (i := 3) (oi := ⟨_, _, _, _, _, _⟩) (v := ?v14) rfl (by kernel_rfl) (by kernel_rfl) (by kernel_rfl) (fun _ _ _ h => h) ?y14 hS ?_
  case y14 => first | (refine Or.inr ⟨by rfl, ?_⟩; with_reducible rfl) | (refine Or.inl ⟨by rfl, ?_⟩; intro wS hSw; obtain ⟨⟨-, -, -, -, -, -, a6⟩, -⟩ := seven_box (HBlk.out wS hSw); obtain ⟨b0, b1, b2, -⟩ := three_box ((hSw.block _ (lt_of_block HX.out)).trans HX.out); have lk := HLk.out wS (HB.out.trans (hSw.mono HB.out.size)); go_simp; try with_reducible rfl)
  simp only [Act.put, List.setIfInBounds_toArray, List.set_cons_zero, List.set_cons_succ]
  refine wpAnyH_take (i := 4) (oi := ⟨_, _, _, _, _, _⟩) (v := ?v15) rfl (by kernel_rfl) (by kernel_rfl) (by kernel_rfl) (fun _ _ _ h => h) ?y15 hS ?_
  case y15 => first | (refine Or.inr ⟨by rfl, ?_⟩; with_reducible rfl) | (refine Or.inl ⟨by rfl, ?_⟩; intro wS hSw; obtain ⟨⟨-, -, -, -, -, -, a6⟩, -⟩ := seven_box (HBlk.out wS hSw); obtain ⟨b0, b1, b2, -⟩ := three_box ((hSw.block _ (lt_of_block HX.out)).trans HX.out); have lk := HLk.out wS (HB.out.trans (hSw.mono HB.out.size)); go_simp; try with_reducible rfl)
  simp only [Act.put, List.setIfInBounds_toArray, List.set_cons_zero, List.set_cons_succ]
  refine wpAnyH_take (i := 5) (oi := ⟨_, _, _, _, _, _⟩) (v := ?v16) rfl (by kernel_rfl) (by kernel_rfl) (by kernel_rfl) (fun _ _ _ h => h) ?y16 hS ?_
  case y16 => first | (refine Or.inr ⟨by rfl, ?_⟩; with_reducible rfl) | (refine Or.inl ⟨by rfl, ?_⟩; intro wS hSw; obtain ⟨⟨-, -, -, -, -, -, a6⟩, -⟩ := seven_box (HBlk.out wS hSw); obtain ⟨b0, b1, b2, -⟩ := three_box ((hSw.block _ (lt_of_block HX.out)).trans HX.out); have lk := HLk.out wS (HB.out.trans (hSw.mono HB.out.size)); go_simp; try with_reducible rfl)
  simp only [Act.put, List.setIfInBounds_toArray, List.set_cons_zero, List.set_cons_succ]
  refine wpAnyH_take (i := 6) (oi := ⟨_, _, _, _, _, _⟩) (v := ?v17) rfl (by kernel_rfl) (by kernel_rfl) (by kernel_rfl) (fun _ _ _ h => h) ?y17 hS ?_
  case y17 => first | (refine Or.inr ⟨by rfl, ?_⟩; with_reducible rfl) | (refine Or.inl ⟨by rfl, ?_⟩; intro wS hSw; obtain ⟨⟨-, -, -, -, -, -, a6⟩, -⟩ := seven_box (HBlk.out wS hSw); obtain ⟨b0, b1, b2, -⟩ := three_box ((hSw.block _ (lt_of_block HX.out)).trans HX.out); have lk := HLk.out wS (HB.out.trans (hSw.mono HB.out.size)); go_simp; try with_reducible rfl)
  simp only [Act.put, List.setIfInBounds_toArray, List.set_cons_zero, List.set_cons_succ]
  refine wpAnyH_take (i := 7) (oi := ⟨_, _, _, _, _, _⟩) (v := ?v18) rfl (by kernel_rfl) (by kernel_rfl) (by kernel_rfl) (fun _ _ _ h => h) ?y18 hS ?_
  case y18 => first | (refine Or.inr ⟨by rfl, ?_⟩; with_reducible rfl) | (refine Or.inl ⟨by rfl, ?_⟩; intro wS hSw; obtain ⟨⟨-, -, -, -, -, -, a6⟩, -⟩ := seven_box (HBlk.out wS hSw); obtain ⟨b0, b1, b2, -⟩ := three_box ((hSw.block _ (lt_of_block HX.out)).trans HX.out); have lk := HLk.out wS (HB.out.trans (hSw.mono HB.out.size)); go_simp; try with_reducible rfl)
  simp only [Act.put, List.setIfInBounds_toArray, List.set_cons_zero, List.set_cons_succ]
  refine wpAnyH_take (i := 8) (oi := ⟨_, _, _, _, _, _⟩) (v := ?v19) rfl (by kernel_rfl) (by kernel_rfl) (by kernel_rfl) (fun _ _ _ h => h) ?y19 hS ?_
  case y19 => first | (refine Or.inr ⟨by rfl, ?_⟩; with_reducible rfl) | (refine Or.inl ⟨by rfl, ?_⟩; intro wS hSw; obtain ⟨⟨-, -, -, -, -, -, a6⟩, -⟩ := seven_box (HBlk.out wS hSw); obtain ⟨b0, b1, b2, -⟩ := three_box ((hSw.block _ (lt_of_block HX.out)).trans HX.out); have lk := HLk.out wS (HB.out.trans (hSw.mono HB.out.size)); go_simp; try with_reducible rfl)
  simp only [Act.put, List.setIfInBounds_toArray, List.set_cons_zero, List.set_cons_succ]
  refine wpAnyH_ready (rs := [9]) (by kernel_rfl) (by simp) ?_
  refine AllReadyH.cons (o := ⟨_, _, _, _, _, _⟩) rfl (fun K hK => ?_) AllReadyH.nil
  go_simp
  have hS2 := hS.alloc hS.size (.cells #[.bool false, .int .i64 0, .int .i64 0, .slice none 0 0, .slice none 0 0] 30 (0, 0))
  refine hK.out _ _ hS2 (fun hSd => ?_)
  clear hSd hK K
  try simp only [Act.put, List.setIfInBounds_toArray, List.set_cons_zero, List.set_cons_succ]
  refine wpAnyH_ready (rs := [10]) (by kernel_rfl) (by simp) ?_
  refine AllReadyH.cons (o := ⟨_, _, _, _, _, _⟩) rfl (fun K hK => ?_) AllReadyH.nil
  go_simp
  refine hK.out _ _ (hS.alloc hS.size _) (fun hS3 => ?_)
  clear hK K
  try simp only [Act.put, List.setIfInBounds_toArray, List.set_cons_zero, List.set_cons_succ]
  refine wpAnyH_take (i := 11) (oi := ⟨_, _, _, _, _, _⟩) (v := ?v20) rfl (by kernel_rfl) (by kernel_rfl) (by kernel_rfl) (fun _ _ _ h => h) ?y20 hS3 ?_
  case y20 => first | (refine Or.inr ⟨by rfl, ?_⟩; with_reducible rfl) | (refine Or.inl ⟨by rfl, ?_⟩; intro wS hSw; go_simp; try with_reducible rfl)
  simp only [Act.put, List.setIfInBounds_toArray, List.set_cons_zero, List.set_cons_succ]
  refine wpAnyH_done (by kernel_rfl) ?_ _
  clear hS hS2
  generalize (u.alloc (.cells #[.bool xis, .int .i64 xen, .int .i64 xfar, .slice at1 xtree.length ct, .slice ak1 xtou.length ck] 30 (0, 0))).drew = v at hS3 ⊢
  have HS := Lib.hid hS3
  clear hS3
  go_upto_region 6 with (fail)
  have Hv := Lib.hid (Hu.out.later HS.out)
  have HXv := Lib.hid ((HS.out.block _ (lt_of_block HX.out)).trans HX.out)
  have HBv := Lib.hid (HB.out.trans (HS.out.mono HB.out.size))
  clear HS HB HX Hu HLk HBlk
  have HBlk := Lib.hid (fun (wS : World) (hw : Below v.heap.size v wS) => (Hv.out.later hw).ln.blk)
  refine wp_region_held_drew (S := fun z => z.heap[p]? = some (.cells #[.pointer (some ⟨q, 0, none⟩), .map (some nm), .map (some km), .int .i64 next, .int .i64 room, .int .i64 peak, .map (some em)] 74 (0, 0)) ∧ z.heap[X]? = some (.cells #[.int .i64 k.rule, .int .i64 k.level, .int .i64 k.place] 24 (0, 0))) (by kernel_rfl) ⟨Hv.out.ln.blk, HXv.out⟩ (fun hS => ?_)
  refine wpAnyH_take (i := 0) (oi := ⟨_, _, _, _, _, _⟩) (v := ?v21) rfl (by kernel_rfl) (by kernel_rfl) (by kernel_rfl) (fun _ _ _ h => h) ?y21 hS ?_
  case y21 => first | (refine Or.inr ⟨by rfl, ?_⟩; with_reducible rfl) | (refine Or.inl ⟨by rfl, ?_⟩; intro wS hSw; obtain ⟨⟨-, -, -, -, -, -, a6⟩, -⟩ := seven_box hSw.1; obtain ⟨b0, b1, b2, -⟩ := three_box hSw.2; go_simp; try with_reducible rfl)
  simp only [Act.put, List.setIfInBounds_toArray, List.set_cons_zero, List.set_cons_succ]
  refine wpAnyH_take (i := 1) (oi := ⟨_, _, _, _, _, _⟩) (v := ?v22) rfl (by kernel_rfl) (by kernel_rfl) (by kernel_rfl) (fun _ _ _ h => h) ?y22 hS ?_
  case y22 => first | (refine Or.inr ⟨by rfl, ?_⟩; with_reducible rfl) | (refine Or.inl ⟨by rfl, ?_⟩; intro wS hSw; obtain ⟨⟨-, -, -, -, -, -, a6⟩, -⟩ := seven_box hSw.1; obtain ⟨b0, b1, b2, -⟩ := three_box hSw.2; go_simp; try with_reducible rfl)
  simp only [Act.put, List.setIfInBounds_toArray, List.set_cons_zero, List.set_cons_succ]
  refine wpAnyH_take (i := 2) (oi := ⟨_, _, _, _, _, _⟩) (v := ?v23) rfl (by kernel_rfl) (by kernel_rfl) (by kernel_rfl) (fun _ _ _ h => h) ?y23 hS ?_
  case y23 => first | (refine Or.inr ⟨by rfl, ?_⟩; with_reducible rfl) | (refine Or.inl ⟨by rfl, ?_⟩; intro wS hSw; obtain ⟨⟨-, -, -, -, -, -, a6⟩, -⟩ := seven_box hSw.1; obtain ⟨b0, b1, b2, -⟩ := three_box hSw.2; go_simp; try with_reducible rfl)
  simp only [Act.put, List.setIfInBounds_toArray, List.set_cons_zero, List.set_cons_succ]
  refine wpAnyH_take (i := 3) (oi := ⟨_, _, _, _, _, _⟩) (v := ?v24) rfl (by kernel_rfl) (by kernel_rfl) (by kernel_rfl) (fun _ _ _ h => h) ?y24 hS ?_
  case y24 => first | (refine Or.inr ⟨by rfl, ?_⟩; with_reducible rfl) | (refine Or.inl ⟨by rfl, ?_⟩; intro wS hSw; obtain ⟨⟨-, -, -, -, -, -, a6⟩, -⟩ := seven_box hSw.1; obtain ⟨b0, b1, b2, -⟩ := three_box hSw.2; go_simp; try with_reducible rfl)
  simp only [Act.put, List.setIfInBounds_toArray, List.set_cons_zero, List.set_cons_succ]
  refine wpAnyH_ready (rs := [4]) (by kernel_rfl) (by simp) ?_
  refine AllReadyH.cons (o := ⟨_, _, _, _, _, _⟩) rfl (fun K hK => ?_) AllReadyH.nil
  go_simp
  refine (leave_any _ (Hv.out.later (Below.refl v.heap.size v).drew).ln HR.out).mono ?_
  rintro e v2 ⟨rfl, hl, hk⟩
  go_wp2_with fail
  have hX2 := hk.keepM.cells (show v.drew.heap[X]? = _ from HXv.out) (by decide)
  refine hK.out _ _ ⟨hl.blk, hX2⟩ (fun hSd => ?_)
  clear hSd hK K
  try simp only [Act.put, List.setIfInBounds_toArray, List.set_cons_zero, List.set_cons_succ]
  refine wpAnyH_done (by kernel_rfl) ?_ _
  clear hS
  have he := (Hv.out.later (Below.refl v.heap.size v).drew).en.keepX hk
  have HL2 := Lib.hid hl
  have HK2 := Lib.hid hk
  have HX2 := Lib.hid hX2
  have HE2 := Lib.hid he
  have hmp := he.map.blk
  obtain ⟨v3, hrun, hm3, hk3⟩ := (he.map.later (Below.refl v2.heap.size v2).drew).del Tryz.underlying72 HOk.out 0
  have hk3' : Keeps (· = em) v2 v3 := (Keeps.ofNew (Below.refl v2.heap.size v2).drew _).trans hk3
  have HRun := Lib.hid hrun
  have HE3 := Lib.hid (he.drop Hv.out.ln.ord.once (by unfold hasK; rw [HR.out]; rfl) hm3 hk3')
  have HL3 := Lib.hid (hl.keepE hk3')
  have HK3 := Lib.hid (KeepM.trans (KeepM.trans (Keeps.ofNew (HBv.out.drew) _) hk.keepM) (keepM_map hk3' hl.be hl.we hmp))
  have HX3 := Lib.hid (hk3'.obj hX2 (fun e => by obtain ⟨es, ck, h1⟩ := hmp; rw [e, h1] at hX2; simp at hX2))
  clear hl hk he hX2 hmp hrun hm3 hk3 hk3'
  go_upto_region 7 with (fail)
  refine wp_region_held_drew (S := fun z => z.heap[p]? = some (.cells #[.pointer (some ⟨q, 0, none⟩), .map (some nm), .map (some km), .int .i64 next, .int .i64 room, .int .i64 peak, .map (some em)] 74 (0, 0)) ∧ z.heap[X]? = some (.cells #[.int .i64 k.rule, .int .i64 k.level, .int .i64 k.place] 24 (0, 0))) (by kernel_rfl) ⟨HL2.out.blk, HX2.out⟩ (fun hS => ?_)
  refine wpAnyH_take (i := 0) (oi := ⟨_, _, _, _, _, _⟩) (v := ?v25) rfl (by kernel_rfl) (by kernel_rfl) (by kernel_rfl) (fun _ _ _ h => h) ?y25 hS ?_
  case y25 => first | (refine Or.inr ⟨by rfl, ?_⟩; with_reducible rfl) | (refine Or.inl ⟨by rfl, ?_⟩; intro wS hSw; obtain ⟨⟨-, -, -, -, -, -, a6⟩, -⟩ := seven_box hSw.1; obtain ⟨b0, b1, b2, -⟩ := three_box hSw.2; go_simp; try with_reducible rfl)
  simp only [Act.put, List.setIfInBounds_toArray, List.set_cons_zero, List.set_cons_succ]
  refine wpAnyH_take (i := 1) (oi := ⟨_, _, _, _, _, _⟩) (v := ?v26) rfl (by kernel_rfl) (by kernel_rfl) (by kernel_rfl) (fun _ _ _ h => h) ?y26 hS ?_
  case y26 => first | (refine Or.inr ⟨by rfl, ?_⟩; with_reducible rfl) | (refine Or.inl ⟨by rfl, ?_⟩; intro wS hSw; obtain ⟨⟨-, -, -, -, -, -, a6⟩, -⟩ := seven_box hSw.1; obtain ⟨b0, b1, b2, -⟩ := three_box hSw.2; go_simp; try with_reducible rfl)
  simp only [Act.put, List.setIfInBounds_toArray, List.set_cons_zero, List.set_cons_succ]
  refine wpAnyH_take (i := 2) (oi := ⟨_, _, _, _, _, _⟩) (v := ?v27) rfl (by kernel_rfl) (by kernel_rfl) (by kernel_rfl) (fun _ _ _ h => h) ?y27 hS ?_
  case y27 => first | (refine Or.inr ⟨by rfl, ?_⟩; with_reducible rfl) | (refine Or.inl ⟨by rfl, ?_⟩; intro wS hSw; obtain ⟨⟨-, -, -, -, -, -, a6⟩, -⟩ := seven_box hSw.1; obtain ⟨b0, b1, b2, -⟩ := three_box hSw.2; go_simp; try with_reducible rfl)
  simp only [Act.put, List.setIfInBounds_toArray, List.set_cons_zero, List.set_cons_succ]
  refine wpAnyH_take (i := 3) (oi := ⟨_, _, _, _, _, _⟩) (v := ?v28) rfl (by kernel_rfl) (by kernel_rfl) (by kernel_rfl) (fun _ _ _ h => h) ?y28 hS ?_
  case y28 => first | (refine Or.inr ⟨by rfl, ?_⟩; with_reducible rfl) | (refine Or.inl ⟨by rfl, ?_⟩; intro wS hSw; obtain ⟨⟨-, -, -, -, -, -, a6⟩, -⟩ := seven_box hSw.1; obtain ⟨b0, b1, b2, -⟩ := three_box hSw.2; go_simp; try with_reducible rfl)
  simp only [Act.put, List.setIfInBounds_toArray, List.set_cons_zero, List.set_cons_succ]
  refine wpAnyH_take (i := 4) (oi := ⟨_, _, _, _, _, _⟩) (v := ?v29) rfl (by kernel_rfl) (by kernel_rfl) (by kernel_rfl) (fun _ _ _ h => h) ?y29 hS ?_
  case y29 => first | (refine Or.inr ⟨by rfl, ?_⟩; with_reducible rfl) | (refine Or.inl ⟨by rfl, ?_⟩; intro wS hSw; obtain ⟨⟨-, -, -, -, -, -, a6⟩, -⟩ := seven_box hSw.1; obtain ⟨b0, b1, b2, -⟩ := three_box hSw.2; go_simp; try with_reducible rfl)
  simp only [Act.put, List.setIfInBounds_toArray, List.set_cons_zero, List.set_cons_succ]
  refine wpAnyH_ready (rs := [5]) (by kernel_rfl) (by simp) ?_
  refine AllReadyH.cons (o := ⟨_, _, _, _, _, _⟩) rfl (fun K hK => ?_) AllReadyH.nil
  refine step_delete (by rfl) _ _ _ _ (by rfl) (.map (some em)) (.agg #[.int .i64 k.rule, .int .i64 k.level, .int .i64 k.place]) (by rfl) (by rfl) v3 HRun.out ?_
  refine hK.out _ _ ⟨HL3.out.blk, HX3.out⟩ (fun hSd => ?_)
  clear hSd hK K
  try simp only [Act.put, List.setIfInBounds_toArray, List.set_cons_zero, List.set_cons_succ]
  refine wpAnyH_done (by kernel_rfl) ?_ _
  clear hS
  go_wp2
  go_ret
  exact ⟨rfl, ⟨HL3.out, HE3.out⟩, HK3.out⟩
end Go.Proofs.YtpchjpmkkiopiaaGreat
