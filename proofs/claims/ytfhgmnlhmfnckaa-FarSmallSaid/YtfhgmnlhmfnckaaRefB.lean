/-
  Package seedlingref23: the document's record: Set, Any, Text.
-/
import Derived.Test.YtfhgmnlhmfnckaaRefA
import Derived.Test.YtfhgmnlhmfnckaaFarM
namespace Go.Proofs.Ytfhgmnlhmfnckaa
open Go.RowKit Go.Lib

/-- the record behind a deed: its blocks are the elder ones, or new. -/
def RefTo (H : Nat → Prop) (w w' : World) (r : Nat) (v : Value) (L : List Part) (F : List Nat) : Prop := ∃ H', (∀ k, H' k → H k ∨ w.heap.size ≤ k) ∧ RefS H' w' r v L F ∧ Keeps H w w'
theorem RefTo.ofNew {H : Nat → Prop} {w w' : World} {r : Nat} {v : Value} {L : List Part} {F : List Nat} (h : RefS H w r v L F) (hb : Below w.heap.size w w') : RefTo H w w' r v L F := ⟨H, fun _ h => .inl h, h.later hb, Keeps.ofNew hb H⟩
theorem RefTo.after {H : Nat → Prop} {w u w' : World} {r : Nat} {v : Value} {L : List Part} {F : List Nat} (hb : Below w.heap.size w u) (h : RefTo H u w' r v L F) : RefTo H w w' r v L F := by
  obtain ⟨H', h1, h2, h3⟩ := h
  exact ⟨H', fun k hk => (h1 k hk).imp_right (fun h => Nat.le_trans hb.size h), h2, (Keeps.ofNew hb H).trans h3⟩
theorem RefTo.then {H : Nat → Prop} {w u : World} {r : Nat} {v : Value} {L : List Part} {F : List Nat} {w' : World} (h : RefTo H w u r v L F) (hb : Below u.heap.size u w') : RefTo H w w' r v L F := by
  obtain ⟨H', h1, h2, h3⟩ := h
  exact ⟨H', h1, h2.later hb, h3.trans (Keeps.ofNew hb H)⟩
theorem ref_Miss' {H : Nat → Prop} {r : Nat} {v : Value} {L : List Part} {F : List Nat} (w : World) (c : Nat → Bool) (place : Int) (h : RefS H w r v L F) (h0 : 0 ≤ place) (hn : L.length ≤ 1000000) :
    Calls Try.prog 30 #[.pointer (some ⟨r, 0, none⟩), .int .i64 place, clv c] w fun e w' => e = .returned (.tuple #[]) ∧ RefTo H w w' r v (L ++ [(place, c)]) F := by
  refine (ref_Miss w c place h h0 hn).mono ?_
  rintro e w' ⟨rfl, h1, h2⟩
  exact ⟨rfl, _, fun k hk => hk.imp_right (fun h => h.1), h1, h2⟩

/-- the class in its box, the record in a later world. -/
structure Box (w u : World) (c : Nat → Bool) (r : Nat) (v : Value) : Prop where
  bel : Below w.heap.size w u
  box : u.heap[w.heap.size]? = some (.cells #[.int .u64 (word c 0), .int .u64 (word c 1), .int .u64 (word c 2), .int .u64 (word c 3)] 29 (0, 0))
  rc : u.cell? ⟨r, 0, none⟩ = some v
theorem Box.later {w u u' : World} {c : Nat → Bool} {r : Nat} {v : Value} (h : Box w u c r v) (hb : Below u.heap.size u u') : Box w u' c r v :=
  ⟨h.bel.trans (hb.mono h.bel.size), (hb.block _ (lt_of_block h.box)).trans h.box, cell_later hb h.rc⟩
theorem RefS.rec0 {H : Nat → Prop} {w : World} {r : Nat} {v : Value} {L : List Part} {F : List Nat} (h : RefS H w r v L F) : w.cell? ⟨r, 0, none⟩ = some v := by
  obtain ⟨_, _, lv, fv, h3, _⟩ := h
  exact (block_cell' h3 0).1

set_option maxHeartbeats 400000 in
theorem ref_Set_neg {H : Nat → Prop} {r : Nat} {v : Value} {L : List Part} {F : List Nat} (w : World) (c : Nat → Bool) (place : Int) (_h : RefS H w r v L F) (h0 : place < 0) :
    Calls Try.prog 25 #[.pointer (some ⟨r, 0, none⟩), clv c, .int .i64 place] w fun e w' => e = .returned (.bool false) ∧ Below w.heap.size w w' := by
  unfold clv clc
  go_enter Try.func25, Try.ntmps25
  go_wp2
  go_ret
  exact ⟨rfl, (Below.refl _ _).alloc (Nat.le_refl _) _⟩

set_option maxRecDepth 100000 in
set_option maxHeartbeats 4000000 in
theorem ref_Set_hit {H : Nat → Prop} {r : Nat} {v : Value} {L : List Part} {F : List Nat} {W : List UInt8} (w : World) (c : Nat → Bool) (k : Nat) (h : RefS H w r v L F) (hv : BytesAt w v W) (hn : L.length ≤ 1000000) (hlt : k < W.length) (hcb2 : c W[k].toNat = true) :
    Calls Try.prog 25 #[.pointer (some ⟨r, 0, none⟩), clv c, .int .i64 k] w fun e w' => e = .returned (.bool true) ∧ Below w.heap.size w w' := by
  have HR := Lib.hid h
  have HV := Lib.hid hv
  have hrl := h.1 r h.2.1
  have hrec := h.rec0
  obtain ⟨ao, b, off, cap, hve, hl2, hm2, _, hao, hcw⟩ := hv
  obtain rfl := hao (by omega)
  have hcb := hcw k hlt
  have hbl := World.block_lt_of_cell? _ _ hcb
  have hltI : (k : Int) < W.length := by omega
  have hd1 : decide ((k : Int) < W.length) = true := by simpa using hlt
  rw [hve] at hrec
  have hst : Box w (w.alloc (.cells #[.int .u64 (word c 0), .int .u64 (word c 1), .int .u64 (word c 2), .int .u64 (word c 3)] 29 (0, 0))) c r (.slice (some ⟨b, off, none⟩) W.length cap) := ⟨(Below.refl _ _).alloc (Nat.le_refl _) _, heap_alloc_new _ _, cell_later ((Below.refl _ _).alloc (Nat.le_refl _) _) hrec⟩
  have HST := Lib.hid hst
  have HVe := Lib.hid hve
  have hHas : ∀ u, Box w u c r (.slice (some ⟨b, off, none⟩) W.length cap) → Calls Try.prog 47 #[.agg #[.int .u64 (word c 0), .int .u64 (word c 1), .int .u64 (word c 2), .int .u64 (word c 3)], .int .u8 W[k].toNat] u fun e u' => e = .returned (.bool true) ∧ Box w u' c r (.slice (some ⟨b, off, none⟩) W.length cap) := fun u hu => by
    have hs := ref_Has u c W[k]
    rw [hcb2] at hs
    unfold clv clc at hs
    exact hs.mono fun _ _ ⟨he, hb⟩ => ⟨he, hu.later hb⟩
  have HHas := Lib.hid hHas
  clear hHas
  clear h hst hrec hao hcw hve
  unfold clv clc
  have hk0 : ¬ (k : Int) < 0 := by omega
  go_enter Try.func25, Try.ntmps25
  go_wp2_with fail
  refine wp_region_held_drew (S := fun u => Box w u c r (.slice (some ⟨b, off, none⟩) W.length cap)) (by kernel_rfl) (HST.out.later (Below.refl _ _).drew) (fun hS => ?_)
  refine wpAnyH_take (i := 0) (oi := ⟨_, _, _, _, _, _⟩) (v := ?v1) rfl (by kernel_rfl) (by kernel_rfl) (by kernel_rfl) (fun _ _ _ h => h) ?y1 hS ?_
  case y1 => first | (refine Or.inr ⟨by rfl, ?_⟩; with_reducible rfl) | (refine Or.inl ⟨by rfl, ?_⟩; intro wS hSw; obtain ⟨⟨r0, _⟩, ⟨r1, _⟩, ⟨r2, _⟩, ⟨r3, _⟩⟩ := four_cells hSw.box; have hrc := hSw.rc; have hcc := cell_later hSw.bel hcb; go_simp; try with_reducible rfl)
  simp only [Act.put, List.setIfInBounds_toArray, List.set_cons_zero, List.set_cons_succ]
  refine wpAnyH_take (i := 1) (oi := ⟨_, _, _, _, _, _⟩) (v := ?v2) rfl (by kernel_rfl) (by kernel_rfl) (by kernel_rfl) (fun _ _ _ h => h) ?y2 hS ?_
  case y2 => first | (refine Or.inr ⟨by rfl, ?_⟩; with_reducible rfl) | (refine Or.inl ⟨by rfl, ?_⟩; intro wS hSw; obtain ⟨⟨r0, _⟩, ⟨r1, _⟩, ⟨r2, _⟩, ⟨r3, _⟩⟩ := four_cells hSw.box; have hrc := hSw.rc; have hcc := cell_later hSw.bel hcb; go_simp; try with_reducible rfl)
  simp only [Act.put, List.setIfInBounds_toArray, List.set_cons_zero, List.set_cons_succ]
  refine wpAnyH_take (i := 2) (oi := ⟨_, _, _, _, _, _⟩) (v := ?v3) rfl (by kernel_rfl) (by kernel_rfl) (by kernel_rfl) (fun _ _ _ h => h) ?y3 hS ?_
  case y3 => first | (refine Or.inr ⟨by rfl, ?_⟩; with_reducible rfl) | (refine Or.inl ⟨by rfl, ?_⟩; intro wS hSw; obtain ⟨⟨r0, _⟩, ⟨r1, _⟩, ⟨r2, _⟩, ⟨r3, _⟩⟩ := four_cells hSw.box; have hrc := hSw.rc; have hcc := cell_later hSw.bel hcb; go_simp; try with_reducible rfl)
  simp only [Act.put, List.setIfInBounds_toArray, List.set_cons_zero, List.set_cons_succ]
  refine wpAnyH_take (i := 3) (oi := ⟨_, _, _, _, _, _⟩) (v := ?v4) rfl (by kernel_rfl) (by kernel_rfl) (by kernel_rfl) (fun _ _ _ h => h) ?y4 hS ?_
  case y4 => first | (refine Or.inr ⟨by rfl, ?_⟩; with_reducible rfl) | (refine Or.inl ⟨by rfl, ?_⟩; intro wS hSw; obtain ⟨⟨r0, _⟩, ⟨r1, _⟩, ⟨r2, _⟩, ⟨r3, _⟩⟩ := four_cells hSw.box; have hrc := hSw.rc; have hcc := cell_later hSw.bel hcb; go_simp; try with_reducible rfl)
  simp only [Act.put, List.setIfInBounds_toArray, List.set_cons_zero, List.set_cons_succ]
  refine wpAnyH_take (i := 4) (oi := ⟨_, _, _, _, _, _⟩) (v := ?v5) rfl (by kernel_rfl) (by kernel_rfl) (by kernel_rfl) (fun _ _ _ h => h) ?y5 hS ?_
  case y5 => first | (refine Or.inr ⟨by rfl, ?_⟩; with_reducible rfl) | (refine Or.inl ⟨by rfl, ?_⟩; intro wS hSw; obtain ⟨⟨r0, _⟩, ⟨r1, _⟩, ⟨r2, _⟩, ⟨r3, _⟩⟩ := four_cells hSw.box; have hrc := hSw.rc; have hcc := cell_later hSw.bel hcb; go_simp; try with_reducible rfl)
  simp only [Act.put, List.setIfInBounds_toArray, List.set_cons_zero, List.set_cons_succ]
  refine wpAnyH_take (i := 5) (oi := ⟨_, _, _, _, _, _⟩) (v := ?v6) rfl (by kernel_rfl) (by kernel_rfl) (by kernel_rfl) (fun _ _ _ h => h) ?y6 hS ?_
  case y6 => first | (refine Or.inr ⟨by rfl, ?_⟩; with_reducible rfl) | (refine Or.inl ⟨by rfl, ?_⟩; intro wS hSw; obtain ⟨⟨r0, _⟩, ⟨r1, _⟩, ⟨r2, _⟩, ⟨r3, _⟩⟩ := four_cells hSw.box; have hrc := hSw.rc; have hcc := cell_later hSw.bel hcb; go_simp; try with_reducible rfl)
  simp only [Act.put, List.setIfInBounds_toArray, List.set_cons_zero, List.set_cons_succ]
  refine wpAnyH_take (i := 6) (oi := ⟨_, _, _, _, _, _⟩) (v := ?v7) rfl (by kernel_rfl) (by kernel_rfl) (by kernel_rfl) (fun _ _ _ h => h) ?y7 hS ?_
  case y7 => first | (refine Or.inr ⟨by rfl, ?_⟩; with_reducible rfl) | (refine Or.inl ⟨by rfl, ?_⟩; intro wS hSw; obtain ⟨⟨r0, _⟩, ⟨r1, _⟩, ⟨r2, _⟩, ⟨r3, _⟩⟩ := four_cells hSw.box; have hrc := hSw.rc; have hcc := cell_later hSw.bel hcb; go_simp; try with_reducible rfl)
  simp only [Act.put, List.setIfInBounds_toArray, List.set_cons_zero, List.set_cons_succ]
  try simp only [hd1]
  refine wpAnyH_take (i := 7) (oi := ⟨_, _, _, _, _, _⟩) (v := ?v8) rfl (by kernel_rfl) (by kernel_rfl) (by kernel_rfl) (fun _ _ _ h => h) ?y8 hS ?_
  case y8 => first | (refine Or.inr ⟨by rfl, ?_⟩; with_reducible rfl) | (refine Or.inl ⟨by rfl, ?_⟩; intro wS hSw; obtain ⟨⟨r0, _⟩, ⟨r1, _⟩, ⟨r2, _⟩, ⟨r3, _⟩⟩ := four_cells hSw.box; have hrc := hSw.rc; have hcc := cell_later hSw.bel hcb; go_simp; try with_reducible rfl)
  simp only [Act.put, List.setIfInBounds_toArray, List.set_cons_zero, List.set_cons_succ]
  refine wpAnyH_take (i := 8) (oi := ⟨_, _, _, _, _, _⟩) (v := ?v9) rfl (by kernel_rfl) (by kernel_rfl) (by kernel_rfl) (fun _ _ _ h => h) ?y9 hS ?_
  case y9 => first | (refine Or.inr ⟨by rfl, ?_⟩; with_reducible rfl) | (refine Or.inl ⟨by rfl, ?_⟩; intro wS hSw; obtain ⟨⟨r0, _⟩, ⟨r1, _⟩, ⟨r2, _⟩, ⟨r3, _⟩⟩ := four_cells hSw.box; have hrc := hSw.rc; have hcc := cell_later hSw.bel hcb; go_simp; try with_reducible rfl)
  simp only [Act.put, List.setIfInBounds_toArray, List.set_cons_zero, List.set_cons_succ]
  refine wpAnyH_take (i := 9) (oi := ⟨_, _, _, _, _, _⟩) (v := ?v10) rfl (by kernel_rfl) (by kernel_rfl) (by kernel_rfl) (fun _ _ _ h => h) ?y10 hS ?_
  case y10 => first | (refine Or.inr ⟨by rfl, ?_⟩; with_reducible rfl) | (refine Or.inl ⟨by rfl, ?_⟩; intro wS hSw; obtain ⟨⟨r0, _⟩, ⟨r1, _⟩, ⟨r2, _⟩, ⟨r3, _⟩⟩ := four_cells hSw.box; have hrc := hSw.rc; have hcc := cell_later hSw.bel hcb; go_simp; try with_reducible rfl)
  simp only [Act.put, List.setIfInBounds_toArray, List.set_cons_zero, List.set_cons_succ]
  refine wpAnyH_take (i := 10) (oi := ⟨_, _, _, _, _, _⟩) (v := ?v11) rfl (by kernel_rfl) (by kernel_rfl) (by kernel_rfl) (fun _ _ _ h => h) ?y11 hS ?_
  case y11 => first | (refine Or.inr ⟨by rfl, ?_⟩; with_reducible rfl) | (refine Or.inl ⟨by rfl, ?_⟩; intro wS hSw; obtain ⟨⟨r0, _⟩, ⟨r1, _⟩, ⟨r2, _⟩, ⟨r3, _⟩⟩ := four_cells hSw.box; have hrc := hSw.rc; have hcc := cell_later hSw.bel hcb; go_simp; try with_reducible rfl)
  simp only [Act.put, List.setIfInBounds_toArray, List.set_cons_zero, List.set_cons_succ]
  refine wpAnyH_take (i := 11) (oi := ⟨_, _, _, _, _, _⟩) (v := ?v12) rfl (by kernel_rfl) (by kernel_rfl) (by kernel_rfl) (fun _ _ _ h => h) ?y12 hS ?_
  case y12 => first | (refine Or.inr ⟨by rfl, ?_⟩; with_reducible rfl) | (refine Or.inl ⟨by rfl, ?_⟩; intro wS hSw; obtain ⟨⟨r0, _⟩, ⟨r1, _⟩, ⟨r2, _⟩, ⟨r3, _⟩⟩ := four_cells hSw.box; have hrc := hSw.rc; have hcc := cell_later hSw.bel hcb; go_simp; try with_reducible rfl)
  simp only [Act.put, List.setIfInBounds_toArray, List.set_cons_zero, List.set_cons_succ]
  refine wpAnyH_take (i := 12) (oi := ⟨_, _, _, _, _, _⟩) (v := ?v13) rfl (by kernel_rfl) (by kernel_rfl) (by kernel_rfl) (fun _ _ _ h => h) ?y13 hS ?_
  case y13 => first | (refine Or.inr ⟨by rfl, ?_⟩; with_reducible rfl) | (refine Or.inl ⟨by rfl, ?_⟩; intro wS hSw; obtain ⟨⟨r0, _⟩, ⟨r1, _⟩, ⟨r2, _⟩, ⟨r3, _⟩⟩ := four_cells hSw.box; have hrc := hSw.rc; have hcc := cell_later hSw.bel hcb; go_simp; try with_reducible rfl)
  simp only [Act.put, List.setIfInBounds_toArray, List.set_cons_zero, List.set_cons_succ]
  refine wpAnyH_take (i := 13) (oi := ⟨_, _, _, _, _, _⟩) (v := ?v14) rfl (by kernel_rfl) (by kernel_rfl) (by kernel_rfl) (fun _ _ _ h => h) ?y14 hS ?_
  case y14 => first | (refine Or.inr ⟨by rfl, ?_⟩; with_reducible rfl) | (refine Or.inl ⟨by rfl, ?_⟩; intro wS hSw; obtain ⟨⟨r0, _⟩, ⟨r1, _⟩, ⟨r2, _⟩, ⟨r3, _⟩⟩ := four_cells hSw.box; have hrc := hSw.rc; have hcc := cell_later hSw.bel hcb; go_simp; try with_reducible rfl)
  simp only [Act.put, List.setIfInBounds_toArray, List.set_cons_zero, List.set_cons_succ]
  refine wpAnyH_take (i := 14) (oi := ⟨_, _, _, _, _, _⟩) (v := ?v15) rfl (by kernel_rfl) (by kernel_rfl) (by kernel_rfl) (fun _ _ _ h => h) ?y15 hS ?_
  case y15 => first | (refine Or.inr ⟨by rfl, ?_⟩; with_reducible rfl) | (refine Or.inl ⟨by rfl, ?_⟩; intro wS hSw; obtain ⟨⟨r0, _⟩, ⟨r1, _⟩, ⟨r2, _⟩, ⟨r3, _⟩⟩ := four_cells hSw.box; have hrc := hSw.rc; have hcc := cell_later hSw.bel hcb; go_simp; try with_reducible rfl)
  simp only [Act.put, List.setIfInBounds_toArray, List.set_cons_zero, List.set_cons_succ]
  refine wpAnyH_take (i := 15) (oi := ⟨_, _, _, _, _, _⟩) (v := ?v16) rfl (by kernel_rfl) (by kernel_rfl) (by kernel_rfl) (fun _ _ _ h => h) ?y16 hS ?_
  case y16 => first | (refine Or.inr ⟨by rfl, ?_⟩; with_reducible rfl) | (refine Or.inl ⟨by rfl, ?_⟩; intro wS hSw; obtain ⟨⟨r0, _⟩, ⟨r1, _⟩, ⟨r2, _⟩, ⟨r3, _⟩⟩ := four_cells hSw.box; have hrc := hSw.rc; have hcc := cell_later hSw.bel hcb; go_simp; try with_reducible rfl)
  simp only [Act.put, List.setIfInBounds_toArray, List.set_cons_zero, List.set_cons_succ]
  refine wpAnyH_ready (rs := [16]) (by kernel_rfl) (by simp) ?_
  refine AllReadyH.cons (o := ⟨_, _, _, _, _, _⟩) rfl (fun K hK => ?_) AllReadyH.nil
  go_simp
  refine (HHas.out _ hS).mono ?_
  rintro e wx ⟨rfl, hS⟩
  go_wp2_with fail
  refine hK.out _ _ hS (fun _ => ?_)
  clear hK K
  try simp only [Act.put, List.setIfInBounds_toArray, List.set_cons_zero, List.set_cons_succ]
  refine wpAnyH_take (i := 17) (oi := ⟨_, _, _, _, _, _⟩) (v := ?v17) rfl (by kernel_rfl) (by kernel_rfl) (by kernel_rfl) (fun _ _ _ h => h) ?y17 hS ?_
  case y17 => first | (refine Or.inr ⟨by rfl, ?_⟩; with_reducible rfl) | (refine Or.inl ⟨by rfl, ?_⟩; intro wS hSw; obtain ⟨⟨r0, _⟩, ⟨r1, _⟩, ⟨r2, _⟩, ⟨r3, _⟩⟩ := four_cells hSw.box; have hrc := hSw.rc; have hcc := cell_later hSw.bel hcb; go_simp; try with_reducible rfl)
  simp only [Act.put, List.setIfInBounds_toArray, List.set_cons_zero, List.set_cons_succ]
  refine wpAnyH_done (by kernel_rfl) ?_ _
  go_wp2_with fail
  go_ret
  exact ⟨rfl, hS.bel⟩

set_option maxRecDepth 100000 in
set_option maxHeartbeats 4000000 in
theorem ref_Set_miss {H : Nat → Prop} {r : Nat} {v : Value} {L : List Part} {F : List Nat} {W : List UInt8} (w : World) (c : Nat → Bool) (k : Nat) (h : RefS H w r v L F) (hv : BytesAt w v W) (hn : L.length ≤ 1000000) (hlt : k < W.length) (hcb2 : c W[k].toNat = false) :
    Calls Try.prog 25 #[.pointer (some ⟨r, 0, none⟩), clv c, .int .i64 k] w fun e w' => e = .returned (.bool false) ∧ RefTo H w w' r v (L ++ [((k : Int), c)]) F := by
  have HR := Lib.hid h
  have HV := Lib.hid hv
  have hrl := h.1 r h.2.1
  have hrec := h.rec0
  obtain ⟨ao, b, off, cap, hve, hl2, hm2, _, hao, hcw⟩ := hv
  obtain rfl := hao (by omega)
  have hcb := hcw k hlt
  have hbl := World.block_lt_of_cell? _ _ hcb
  have hltI : (k : Int) < W.length := by omega
  have hd1 : decide ((k : Int) < W.length) = true := by simpa using hlt
  rw [hve] at hrec
  have hst : Box w (w.alloc (.cells #[.int .u64 (word c 0), .int .u64 (word c 1), .int .u64 (word c 2), .int .u64 (word c 3)] 29 (0, 0))) c r (.slice (some ⟨b, off, none⟩) W.length cap) := ⟨(Below.refl _ _).alloc (Nat.le_refl _) _, heap_alloc_new _ _, cell_later ((Below.refl _ _).alloc (Nat.le_refl _) _) hrec⟩
  have HST := Lib.hid hst
  have HVe := Lib.hid hve
  have hHas : ∀ u, Box w u c r (.slice (some ⟨b, off, none⟩) W.length cap) → Calls Try.prog 47 #[.agg #[.int .u64 (word c 0), .int .u64 (word c 1), .int .u64 (word c 2), .int .u64 (word c 3)], .int .u8 W[k].toNat] u fun e u' => e = .returned (.bool false) ∧ Box w u' c r (.slice (some ⟨b, off, none⟩) W.length cap) := fun u hu => by
    have hs := ref_Has u c W[k]
    rw [hcb2] at hs
    unfold clv clc at hs
    exact hs.mono fun _ _ ⟨he, hb⟩ => ⟨he, hu.later hb⟩
  have HHas := Lib.hid hHas
  clear hHas
  clear h hst hrec hao hcw hve
  unfold clv clc
  have hk0 : ¬ (k : Int) < 0 := by omega
  go_enter Try.func25, Try.ntmps25
  go_wp2_with fail
  refine wp_region_held_drew (S := fun u => Box w u c r (.slice (some ⟨b, off, none⟩) W.length cap)) (by kernel_rfl) (HST.out.later (Below.refl _ _).drew) (fun hS => ?_)
  refine wpAnyH_take (i := 0) (oi := ⟨_, _, _, _, _, _⟩) (v := ?v18) rfl (by kernel_rfl) (by kernel_rfl) (by kernel_rfl) (fun _ _ _ h => h) ?y18 hS ?_
  case y18 => first | (refine Or.inr ⟨by rfl, ?_⟩; with_reducible rfl) | (refine Or.inl ⟨by rfl, ?_⟩; intro wS hSw; obtain ⟨⟨r0, _⟩, ⟨r1, _⟩, ⟨r2, _⟩, ⟨r3, _⟩⟩ := four_cells hSw.box; have hrc := hSw.rc; have hcc := cell_later hSw.bel hcb; go_simp; try with_reducible rfl)
  simp only [Act.put, List.setIfInBounds_toArray, List.set_cons_zero, List.set_cons_succ]
  refine wpAnyH_take (i := 1) (oi := ⟨_, _, _, _, _, _⟩) (v := ?v19) rfl (by kernel_rfl) (by kernel_rfl) (by kernel_rfl) (fun _ _ _ h => h) ?y19 hS ?_
  case y19 => first | (refine Or.inr ⟨by rfl, ?_⟩; with_reducible rfl) | (refine Or.inl ⟨by rfl, ?_⟩; intro wS hSw; obtain ⟨⟨r0, _⟩, ⟨r1, _⟩, ⟨r2, _⟩, ⟨r3, _⟩⟩ := four_cells hSw.box; have hrc := hSw.rc; have hcc := cell_later hSw.bel hcb; go_simp; try with_reducible rfl)
  simp only [Act.put, List.setIfInBounds_toArray, List.set_cons_zero, List.set_cons_succ]
  refine wpAnyH_take (i := 2) (oi := ⟨_, _, _, _, _, _⟩) (v := ?v20) rfl (by kernel_rfl) (by kernel_rfl) (by kernel_rfl) (fun _ _ _ h => h) ?y20 hS ?_
  case y20 => first | (refine Or.inr ⟨by rfl, ?_⟩; with_reducible rfl) | (refine Or.inl ⟨by rfl, ?_⟩; intro wS hSw; obtain ⟨⟨r0, _⟩, ⟨r1, _⟩, ⟨r2, _⟩, ⟨r3, _⟩⟩ := four_cells hSw.box; have hrc := hSw.rc; have hcc := cell_later hSw.bel hcb; go_simp; try with_reducible rfl)
  simp only [Act.put, List.setIfInBounds_toArray, List.set_cons_zero, List.set_cons_succ]
  refine wpAnyH_take (i := 3) (oi := ⟨_, _, _, _, _, _⟩) (v := ?v21) rfl (by kernel_rfl) (by kernel_rfl) (by kernel_rfl) (fun _ _ _ h => h) ?y21 hS ?_
  case y21 => first | (refine Or.inr ⟨by rfl, ?_⟩; with_reducible rfl) | (refine Or.inl ⟨by rfl, ?_⟩; intro wS hSw; obtain ⟨⟨r0, _⟩, ⟨r1, _⟩, ⟨r2, _⟩, ⟨r3, _⟩⟩ := four_cells hSw.box; have hrc := hSw.rc; have hcc := cell_later hSw.bel hcb; go_simp; try with_reducible rfl)
  simp only [Act.put, List.setIfInBounds_toArray, List.set_cons_zero, List.set_cons_succ]
  refine wpAnyH_take (i := 4) (oi := ⟨_, _, _, _, _, _⟩) (v := ?v22) rfl (by kernel_rfl) (by kernel_rfl) (by kernel_rfl) (fun _ _ _ h => h) ?y22 hS ?_
  case y22 => first | (refine Or.inr ⟨by rfl, ?_⟩; with_reducible rfl) | (refine Or.inl ⟨by rfl, ?_⟩; intro wS hSw; obtain ⟨⟨r0, _⟩, ⟨r1, _⟩, ⟨r2, _⟩, ⟨r3, _⟩⟩ := four_cells hSw.box; have hrc := hSw.rc; have hcc := cell_later hSw.bel hcb; go_simp; try with_reducible rfl)
  simp only [Act.put, List.setIfInBounds_toArray, List.set_cons_zero, List.set_cons_succ]
  refine wpAnyH_take (i := 5) (oi := ⟨_, _, _, _, _, _⟩) (v := ?v23) rfl (by kernel_rfl) (by kernel_rfl) (by kernel_rfl) (fun _ _ _ h => h) ?y23 hS ?_
  case y23 => first | (refine Or.inr ⟨by rfl, ?_⟩; with_reducible rfl) | (refine Or.inl ⟨by rfl, ?_⟩; intro wS hSw; obtain ⟨⟨r0, _⟩, ⟨r1, _⟩, ⟨r2, _⟩, ⟨r3, _⟩⟩ := four_cells hSw.box; have hrc := hSw.rc; have hcc := cell_later hSw.bel hcb; go_simp; try with_reducible rfl)
  simp only [Act.put, List.setIfInBounds_toArray, List.set_cons_zero, List.set_cons_succ]
  refine wpAnyH_take (i := 6) (oi := ⟨_, _, _, _, _, _⟩) (v := ?v24) rfl (by kernel_rfl) (by kernel_rfl) (by kernel_rfl) (fun _ _ _ h => h) ?y24 hS ?_
  case y24 => first | (refine Or.inr ⟨by rfl, ?_⟩; with_reducible rfl) | (refine Or.inl ⟨by rfl, ?_⟩; intro wS hSw; obtain ⟨⟨r0, _⟩, ⟨r1, _⟩, ⟨r2, _⟩, ⟨r3, _⟩⟩ := four_cells hSw.box; have hrc := hSw.rc; have hcc := cell_later hSw.bel hcb; go_simp; try with_reducible rfl)
  simp only [Act.put, List.setIfInBounds_toArray, List.set_cons_zero, List.set_cons_succ]
  try simp only [hd1]
  refine wpAnyH_take (i := 7) (oi := ⟨_, _, _, _, _, _⟩) (v := ?v25) rfl (by kernel_rfl) (by kernel_rfl) (by kernel_rfl) (fun _ _ _ h => h) ?y25 hS ?_
  case y25 => first | (refine Or.inr ⟨by rfl, ?_⟩; with_reducible rfl) | (refine Or.inl ⟨by rfl, ?_⟩; intro wS hSw; obtain ⟨⟨r0, _⟩, ⟨r1, _⟩, ⟨r2, _⟩, ⟨r3, _⟩⟩ := four_cells hSw.box; have hrc := hSw.rc; have hcc := cell_later hSw.bel hcb; go_simp; try with_reducible rfl)
  simp only [Act.put, List.setIfInBounds_toArray, List.set_cons_zero, List.set_cons_succ]
  refine wpAnyH_take (i := 8) (oi := ⟨_, _, _, _, _, _⟩) (v := ?v26) rfl (by kernel_rfl) (by kernel_rfl) (by kernel_rfl) (fun _ _ _ h => h) ?y26 hS ?_
  case y26 => first | (refine Or.inr ⟨by rfl, ?_⟩; with_reducible rfl) | (refine Or.inl ⟨by rfl, ?_⟩; intro wS hSw; obtain ⟨⟨r0, _⟩, ⟨r1, _⟩, ⟨r2, _⟩, ⟨r3, _⟩⟩ := four_cells hSw.box; have hrc := hSw.rc; have hcc := cell_later hSw.bel hcb; go_simp; try with_reducible rfl)
  simp only [Act.put, List.setIfInBounds_toArray, List.set_cons_zero, List.set_cons_succ]
  refine wpAnyH_take (i := 9) (oi := ⟨_, _, _, _, _, _⟩) (v := ?v27) rfl (by kernel_rfl) (by kernel_rfl) (by kernel_rfl) (fun _ _ _ h => h) ?y27 hS ?_
  case y27 => first | (refine Or.inr ⟨by rfl, ?_⟩; with_reducible rfl) | (refine Or.inl ⟨by rfl, ?_⟩; intro wS hSw; obtain ⟨⟨r0, _⟩, ⟨r1, _⟩, ⟨r2, _⟩, ⟨r3, _⟩⟩ := four_cells hSw.box; have hrc := hSw.rc; have hcc := cell_later hSw.bel hcb; go_simp; try with_reducible rfl)
  simp only [Act.put, List.setIfInBounds_toArray, List.set_cons_zero, List.set_cons_succ]
  refine wpAnyH_take (i := 10) (oi := ⟨_, _, _, _, _, _⟩) (v := ?v28) rfl (by kernel_rfl) (by kernel_rfl) (by kernel_rfl) (fun _ _ _ h => h) ?y28 hS ?_
  case y28 => first | (refine Or.inr ⟨by rfl, ?_⟩; with_reducible rfl) | (refine Or.inl ⟨by rfl, ?_⟩; intro wS hSw; obtain ⟨⟨r0, _⟩, ⟨r1, _⟩, ⟨r2, _⟩, ⟨r3, _⟩⟩ := four_cells hSw.box; have hrc := hSw.rc; have hcc := cell_later hSw.bel hcb; go_simp; try with_reducible rfl)
  simp only [Act.put, List.setIfInBounds_toArray, List.set_cons_zero, List.set_cons_succ]
  refine wpAnyH_take (i := 11) (oi := ⟨_, _, _, _, _, _⟩) (v := ?v29) rfl (by kernel_rfl) (by kernel_rfl) (by kernel_rfl) (fun _ _ _ h => h) ?y29 hS ?_
  case y29 => first | (refine Or.inr ⟨by rfl, ?_⟩; with_reducible rfl) | (refine Or.inl ⟨by rfl, ?_⟩; intro wS hSw; obtain ⟨⟨r0, _⟩, ⟨r1, _⟩, ⟨r2, _⟩, ⟨r3, _⟩⟩ := four_cells hSw.box; have hrc := hSw.rc; have hcc := cell_later hSw.bel hcb; go_simp; try with_reducible rfl)
  simp only [Act.put, List.setIfInBounds_toArray, List.set_cons_zero, List.set_cons_succ]
  refine wpAnyH_take (i := 12) (oi := ⟨_, _, _, _, _, _⟩) (v := ?v30) rfl (by kernel_rfl) (by kernel_rfl) (by kernel_rfl) (fun _ _ _ h => h) ?y30 hS ?_
  case y30 => first | (refine Or.inr ⟨by rfl, ?_⟩; with_reducible rfl) | (refine Or.inl ⟨by rfl, ?_⟩; intro wS hSw; obtain ⟨⟨r0, _⟩, ⟨r1, _⟩, ⟨r2, _⟩, ⟨r3, _⟩⟩ := four_cells hSw.box; have hrc := hSw.rc; have hcc := cell_later hSw.bel hcb; go_simp; try with_reducible rfl)
  simp only [Act.put, List.setIfInBounds_toArray, List.set_cons_zero, List.set_cons_succ]
  refine wpAnyH_take (i := 13) (oi := ⟨_, _, _, _, _, _⟩) (v := ?v31) rfl (by kernel_rfl) (by kernel_rfl) (by kernel_rfl) (fun _ _ _ h => h) ?y31 hS ?_
  case y31 => first | (refine Or.inr ⟨by rfl, ?_⟩; with_reducible rfl) | (refine Or.inl ⟨by rfl, ?_⟩; intro wS hSw; obtain ⟨⟨r0, _⟩, ⟨r1, _⟩, ⟨r2, _⟩, ⟨r3, _⟩⟩ := four_cells hSw.box; have hrc := hSw.rc; have hcc := cell_later hSw.bel hcb; go_simp; try with_reducible rfl)
  simp only [Act.put, List.setIfInBounds_toArray, List.set_cons_zero, List.set_cons_succ]
  refine wpAnyH_take (i := 14) (oi := ⟨_, _, _, _, _, _⟩) (v := ?v32) rfl (by kernel_rfl) (by kernel_rfl) (by kernel_rfl) (fun _ _ _ h => h) ?y32 hS ?_
  case y32 => first | (refine Or.inr ⟨by rfl, ?_⟩; with_reducible rfl) | (refine Or.inl ⟨by rfl, ?_⟩; intro wS hSw; obtain ⟨⟨r0, _⟩, ⟨r1, _⟩, ⟨r2, _⟩, ⟨r3, _⟩⟩ := four_cells hSw.box; have hrc := hSw.rc; have hcc := cell_later hSw.bel hcb; go_simp; try with_reducible rfl)
  simp only [Act.put, List.setIfInBounds_toArray, List.set_cons_zero, List.set_cons_succ]
  refine wpAnyH_take (i := 15) (oi := ⟨_, _, _, _, _, _⟩) (v := ?v33) rfl (by kernel_rfl) (by kernel_rfl) (by kernel_rfl) (fun _ _ _ h => h) ?y33 hS ?_
  case y33 => first | (refine Or.inr ⟨by rfl, ?_⟩; with_reducible rfl) | (refine Or.inl ⟨by rfl, ?_⟩; intro wS hSw; obtain ⟨⟨r0, _⟩, ⟨r1, _⟩, ⟨r2, _⟩, ⟨r3, _⟩⟩ := four_cells hSw.box; have hrc := hSw.rc; have hcc := cell_later hSw.bel hcb; go_simp; try with_reducible rfl)
  simp only [Act.put, List.setIfInBounds_toArray, List.set_cons_zero, List.set_cons_succ]
  refine wpAnyH_ready (rs := [16]) (by kernel_rfl) (by simp) ?_
  refine AllReadyH.cons (o := ⟨_, _, _, _, _, _⟩) rfl (fun K hK => ?_) AllReadyH.nil
  go_simp
  refine (HHas.out _ hS).mono ?_
  rintro e wx ⟨rfl, hS⟩
  go_wp2_with fail
  refine hK.out _ _ hS (fun _ => ?_)
  clear hK K
  try simp only [Act.put, List.setIfInBounds_toArray, List.set_cons_zero, List.set_cons_succ]
  refine wpAnyH_take (i := 17) (oi := ⟨_, _, _, _, _, _⟩) (v := ?v34) rfl (by kernel_rfl) (by kernel_rfl) (by kernel_rfl) (fun _ _ _ h => h) ?y34 hS ?_
  case y34 => first | (refine Or.inr ⟨by rfl, ?_⟩; with_reducible rfl) | (refine Or.inl ⟨by rfl, ?_⟩; intro wS hSw; obtain ⟨⟨r0, _⟩, ⟨r1, _⟩, ⟨r2, _⟩, ⟨r3, _⟩⟩ := four_cells hSw.box; have hrc := hSw.rc; have hcc := cell_later hSw.bel hcb; go_simp; try with_reducible rfl)
  simp only [Act.put, List.setIfInBounds_toArray, List.set_cons_zero, List.set_cons_succ]
  refine wpAnyH_done (by kernel_rfl) ?_ _
  obtain ⟨⟨r0, _⟩, ⟨r1, _⟩, ⟨r2, _⟩, ⟨r3, _⟩⟩ := four_cells hS.box
  have hbu := hS.bel
  have hmi := ref_Miss' _ c k (HR.out.later hbu) (by omega) hn
  unfold clv clc at hmi
  have HMi := Lib.hid hmi
  have HBu := Lib.hid hbu
  clear hS hmi hbu
  go_wp2_with fail
  refine HMi.out.mono ?_
  rintro e w5 ⟨rfl, hR⟩
  have HR5 := Lib.hid hR
  clear hR
  go_wp2_with fail
  go_ret
  exact ⟨rfl, RefTo.after HBu.out HR5.out⟩

set_option maxRecDepth 100000 in
set_option maxHeartbeats 4000000 in
theorem ref_Set_out {H : Nat → Prop} {r : Nat} {v : Value} {L : List Part} {F : List Nat} {W : List UInt8} (w : World) (c : Nat → Bool) (k : Nat) (h : RefS H w r v L F) (hv : BytesAt w v W) (hn : L.length ≤ 1000000) (hlt : ¬ k < W.length) :
    Calls Try.prog 25 #[.pointer (some ⟨r, 0, none⟩), clv c, .int .i64 k] w fun e w' => e = .returned (.bool false) ∧ RefTo H w w' r v (L ++ [((k : Int), c)]) F := by
  have HR := Lib.hid h
  have HV := Lib.hid hv
  have hrl := h.1 r h.2.1
  have hrec := h.rec0
  obtain ⟨ao, b, off, cap, hve, hl2, hm2, _, hao, hcw⟩ := hv
  have hltI : ¬ (k : Int) < W.length := by omega
  have hd1 : decide ((k : Int) < W.length) = false := by simpa using hlt
  rw [hve] at hrec
  have hst : Box w (w.alloc (.cells #[.int .u64 (word c 0), .int .u64 (word c 1), .int .u64 (word c 2), .int .u64 (word c 3)] 29 (0, 0))) c r (.slice ao W.length cap) := ⟨(Below.refl _ _).alloc (Nat.le_refl _) _, heap_alloc_new _ _, cell_later ((Below.refl _ _).alloc (Nat.le_refl _) _) hrec⟩
  have HST := Lib.hid hst
  have HVe := Lib.hid hve
  clear h hst hrec hao hcw hve
  unfold clv clc
  have hk0 : ¬ (k : Int) < 0 := by omega
  go_enter Try.func25, Try.ntmps25
  go_wp2_with fail
  refine wp_region_held_drew (S := fun u => Box w u c r (.slice ao W.length cap)) (by kernel_rfl) (HST.out.later (Below.refl _ _).drew) (fun hS => ?_)
  refine wpAnyH_take (i := 0) (oi := ⟨_, _, _, _, _, _⟩) (v := ?v35) rfl (by kernel_rfl) (by kernel_rfl) (by kernel_rfl) (fun _ _ _ h => h) ?y35 hS ?_
  case y35 => first | (refine Or.inr ⟨by rfl, ?_⟩; with_reducible rfl) | (refine Or.inl ⟨by rfl, ?_⟩; intro wS hSw; obtain ⟨⟨r0, _⟩, ⟨r1, _⟩, ⟨r2, _⟩, ⟨r3, _⟩⟩ := four_cells hSw.box; have hrc := hSw.rc; go_simp; try with_reducible rfl)
  simp only [Act.put, List.setIfInBounds_toArray, List.set_cons_zero, List.set_cons_succ]
  refine wpAnyH_take (i := 1) (oi := ⟨_, _, _, _, _, _⟩) (v := ?v36) rfl (by kernel_rfl) (by kernel_rfl) (by kernel_rfl) (fun _ _ _ h => h) ?y36 hS ?_
  case y36 => first | (refine Or.inr ⟨by rfl, ?_⟩; with_reducible rfl) | (refine Or.inl ⟨by rfl, ?_⟩; intro wS hSw; obtain ⟨⟨r0, _⟩, ⟨r1, _⟩, ⟨r2, _⟩, ⟨r3, _⟩⟩ := four_cells hSw.box; have hrc := hSw.rc; go_simp; try with_reducible rfl)
  simp only [Act.put, List.setIfInBounds_toArray, List.set_cons_zero, List.set_cons_succ]
  refine wpAnyH_take (i := 2) (oi := ⟨_, _, _, _, _, _⟩) (v := ?v37) rfl (by kernel_rfl) (by kernel_rfl) (by kernel_rfl) (fun _ _ _ h => h) ?y37 hS ?_
  case y37 => first | (refine Or.inr ⟨by rfl, ?_⟩; with_reducible rfl) | (refine Or.inl ⟨by rfl, ?_⟩; intro wS hSw; obtain ⟨⟨r0, _⟩, ⟨r1, _⟩, ⟨r2, _⟩, ⟨r3, _⟩⟩ := four_cells hSw.box; have hrc := hSw.rc; go_simp; try with_reducible rfl)
  simp only [Act.put, List.setIfInBounds_toArray, List.set_cons_zero, List.set_cons_succ]
  refine wpAnyH_take (i := 3) (oi := ⟨_, _, _, _, _, _⟩) (v := ?v38) rfl (by kernel_rfl) (by kernel_rfl) (by kernel_rfl) (fun _ _ _ h => h) ?y38 hS ?_
  case y38 => first | (refine Or.inr ⟨by rfl, ?_⟩; with_reducible rfl) | (refine Or.inl ⟨by rfl, ?_⟩; intro wS hSw; obtain ⟨⟨r0, _⟩, ⟨r1, _⟩, ⟨r2, _⟩, ⟨r3, _⟩⟩ := four_cells hSw.box; have hrc := hSw.rc; go_simp; try with_reducible rfl)
  simp only [Act.put, List.setIfInBounds_toArray, List.set_cons_zero, List.set_cons_succ]
  refine wpAnyH_take (i := 4) (oi := ⟨_, _, _, _, _, _⟩) (v := ?v39) rfl (by kernel_rfl) (by kernel_rfl) (by kernel_rfl) (fun _ _ _ h => h) ?y39 hS ?_
  case y39 => first | (refine Or.inr ⟨by rfl, ?_⟩; with_reducible rfl) | (refine Or.inl ⟨by rfl, ?_⟩; intro wS hSw; obtain ⟨⟨r0, _⟩, ⟨r1, _⟩, ⟨r2, _⟩, ⟨r3, _⟩⟩ := four_cells hSw.box; have hrc := hSw.rc; go_simp; try with_reducible rfl)
  simp only [Act.put, List.setIfInBounds_toArray, List.set_cons_zero, List.set_cons_succ]
  refine wpAnyH_take (i := 5) (oi := ⟨_, _, _, _, _, _⟩) (v := ?v40) rfl (by kernel_rfl) (by kernel_rfl) (by kernel_rfl) (fun _ _ _ h => h) ?y40 hS ?_
  case y40 => first | (refine Or.inr ⟨by rfl, ?_⟩; with_reducible rfl) | (refine Or.inl ⟨by rfl, ?_⟩; intro wS hSw; obtain ⟨⟨r0, _⟩, ⟨r1, _⟩, ⟨r2, _⟩, ⟨r3, _⟩⟩ := four_cells hSw.box; have hrc := hSw.rc; go_simp; try with_reducible rfl)
  simp only [Act.put, List.setIfInBounds_toArray, List.set_cons_zero, List.set_cons_succ]
  refine wpAnyH_take (i := 6) (oi := ⟨_, _, _, _, _, _⟩) (v := ?v41) rfl (by kernel_rfl) (by kernel_rfl) (by kernel_rfl) (fun _ _ _ h => h) ?y41 hS ?_
  case y41 => first | (refine Or.inr ⟨by rfl, ?_⟩; with_reducible rfl) | (refine Or.inl ⟨by rfl, ?_⟩; intro wS hSw; obtain ⟨⟨r0, _⟩, ⟨r1, _⟩, ⟨r2, _⟩, ⟨r3, _⟩⟩ := four_cells hSw.box; have hrc := hSw.rc; go_simp; try with_reducible rfl)
  simp only [Act.put, List.setIfInBounds_toArray, List.set_cons_zero, List.set_cons_succ]
  try simp only [hd1]
  refine wpAnyH_take (i := 7) (oi := ⟨_, _, _, _, _, _⟩) (v := ?v42) rfl (by kernel_rfl) (by kernel_rfl) (by kernel_rfl) (fun _ _ _ h => h) ?y42 hS ?_
  case y42 => first | (refine Or.inr ⟨by rfl, ?_⟩; with_reducible rfl) | (refine Or.inl ⟨by rfl, ?_⟩; intro wS hSw; obtain ⟨⟨r0, _⟩, ⟨r1, _⟩, ⟨r2, _⟩, ⟨r3, _⟩⟩ := four_cells hSw.box; have hrc := hSw.rc; go_simp; try with_reducible rfl)
  simp only [Act.put, List.setIfInBounds_toArray, List.set_cons_zero, List.set_cons_succ]
  refine wpAnyH_take (i := 8) (oi := ⟨_, _, _, _, _, _⟩) (v := ?v43) rfl (by kernel_rfl) (by kernel_rfl) (by kernel_rfl) (fun _ _ _ h => h) ?y43 hS ?_
  case y43 => first | (refine Or.inr ⟨by rfl, ?_⟩; with_reducible rfl) | (refine Or.inl ⟨by rfl, ?_⟩; intro wS hSw; obtain ⟨⟨r0, _⟩, ⟨r1, _⟩, ⟨r2, _⟩, ⟨r3, _⟩⟩ := four_cells hSw.box; have hrc := hSw.rc; go_simp; try with_reducible rfl)
  simp only [Act.put, List.setIfInBounds_toArray, List.set_cons_zero, List.set_cons_succ]
  refine wpAnyH_take (i := 9) (oi := ⟨_, _, _, _, _, _⟩) (v := ?v44) rfl (by kernel_rfl) (by kernel_rfl) (by kernel_rfl) (fun _ _ _ h => h) ?y44 hS ?_
  case y44 => first | (refine Or.inr ⟨by rfl, ?_⟩; with_reducible rfl) | (refine Or.inl ⟨by rfl, ?_⟩; intro wS hSw; obtain ⟨⟨r0, _⟩, ⟨r1, _⟩, ⟨r2, _⟩, ⟨r3, _⟩⟩ := four_cells hSw.box; have hrc := hSw.rc; go_simp; try with_reducible rfl)
  simp only [Act.put, List.setIfInBounds_toArray, List.set_cons_zero, List.set_cons_succ]
  refine wpAnyH_take (i := 10) (oi := ⟨_, _, _, _, _, _⟩) (v := ?v45) rfl (by kernel_rfl) (by kernel_rfl) (by kernel_rfl) (fun _ _ _ h => h) ?y45 hS ?_
  case y45 => first | (refine Or.inr ⟨by rfl, ?_⟩; with_reducible rfl) | (refine Or.inl ⟨by rfl, ?_⟩; intro wS hSw; obtain ⟨⟨r0, _⟩, ⟨r1, _⟩, ⟨r2, _⟩, ⟨r3, _⟩⟩ := four_cells hSw.box; have hrc := hSw.rc; go_simp; try with_reducible rfl)
  simp only [Act.put, List.setIfInBounds_toArray, List.set_cons_zero, List.set_cons_succ]
  refine wpAnyH_take (i := 11) (oi := ⟨_, _, _, _, _, _⟩) (v := ?v46) rfl (by kernel_rfl) (by kernel_rfl) (by kernel_rfl) (fun _ _ _ h => h) ?y46 hS ?_
  case y46 => first | (refine Or.inr ⟨by rfl, ?_⟩; with_reducible rfl) | (refine Or.inl ⟨by rfl, ?_⟩; intro wS hSw; obtain ⟨⟨r0, _⟩, ⟨r1, _⟩, ⟨r2, _⟩, ⟨r3, _⟩⟩ := four_cells hSw.box; have hrc := hSw.rc; go_simp; try with_reducible rfl)
  simp only [Act.put, List.setIfInBounds_toArray, List.set_cons_zero, List.set_cons_succ]
  refine wpAnyH_take (i := 12) (oi := ⟨_, _, _, _, _, _⟩) (v := ?v47) rfl (by kernel_rfl) (by kernel_rfl) (by kernel_rfl) (fun _ _ _ h => h) ?y47 hS ?_
  case y47 => first | (refine Or.inr ⟨by rfl, ?_⟩; with_reducible rfl) | (refine Or.inl ⟨by rfl, ?_⟩; intro wS hSw; obtain ⟨⟨r0, _⟩, ⟨r1, _⟩, ⟨r2, _⟩, ⟨r3, _⟩⟩ := four_cells hSw.box; have hrc := hSw.rc; go_simp; try with_reducible rfl)
  simp only [Act.put, List.setIfInBounds_toArray, List.set_cons_zero, List.set_cons_succ]
  refine wpAnyH_take (i := 13) (oi := ⟨_, _, _, _, _, _⟩) (v := ?v48) rfl (by kernel_rfl) (by kernel_rfl) (by kernel_rfl) (fun _ _ _ h => h) ?y48 hS ?_
  case y48 => first | (refine Or.inr ⟨by rfl, ?_⟩; with_reducible rfl) | (refine Or.inl ⟨by rfl, ?_⟩; intro wS hSw; obtain ⟨⟨r0, _⟩, ⟨r1, _⟩, ⟨r2, _⟩, ⟨r3, _⟩⟩ := four_cells hSw.box; have hrc := hSw.rc; go_simp; try with_reducible rfl)
  simp only [Act.put, List.setIfInBounds_toArray, List.set_cons_zero, List.set_cons_succ]
  refine wpAnyH_take (i := 14) (oi := ⟨_, _, _, _, _, _⟩) (v := ?v49) rfl (by kernel_rfl) (by kernel_rfl) (by kernel_rfl) (fun _ _ _ h => h) ?y49 hS ?_
  case y49 => first | (refine Or.inr ⟨by rfl, ?_⟩; with_reducible rfl) | (refine Or.inl ⟨by rfl, ?_⟩; intro wS hSw; obtain ⟨⟨r0, _⟩, ⟨r1, _⟩, ⟨r2, _⟩, ⟨r3, _⟩⟩ := four_cells hSw.box; have hrc := hSw.rc; go_simp; try with_reducible rfl)
  simp only [Act.put, List.setIfInBounds_toArray, List.set_cons_zero, List.set_cons_succ]
  refine wpAnyH_take (i := 15) (oi := ⟨_, _, _, _, _, _⟩) (v := ?v50) rfl (by kernel_rfl) (by kernel_rfl) (by kernel_rfl) (fun _ _ _ h => h) ?y50 hS ?_
  case y50 => first | (refine Or.inr ⟨by rfl, ?_⟩; with_reducible rfl) | (refine Or.inl ⟨by rfl, ?_⟩; intro wS hSw; obtain ⟨⟨r0, _⟩, ⟨r1, _⟩, ⟨r2, _⟩, ⟨r3, _⟩⟩ := four_cells hSw.box; have hrc := hSw.rc; go_simp; try with_reducible rfl)
  simp only [Act.put, List.setIfInBounds_toArray, List.set_cons_zero, List.set_cons_succ]
  refine wpAnyH_take (i := 16) (oi := ⟨_, _, _, _, _, _⟩) (v := ?v51) rfl (by kernel_rfl) (by kernel_rfl) (by kernel_rfl) (fun _ _ _ h => h) ?y51 hS ?_
  case y51 => first | (refine Or.inr ⟨by rfl, ?_⟩; with_reducible rfl) | (refine Or.inl ⟨by rfl, ?_⟩; intro wS hSw; obtain ⟨⟨r0, _⟩, ⟨r1, _⟩, ⟨r2, _⟩, ⟨r3, _⟩⟩ := four_cells hSw.box; have hrc := hSw.rc; go_simp; try with_reducible rfl)
  simp only [Act.put, List.setIfInBounds_toArray, List.set_cons_zero, List.set_cons_succ]
  refine wpAnyH_take (i := 17) (oi := ⟨_, _, _, _, _, _⟩) (v := ?v52) rfl (by kernel_rfl) (by kernel_rfl) (by kernel_rfl) (fun _ _ _ h => h) ?y52 hS ?_
  case y52 => first | (refine Or.inr ⟨by rfl, ?_⟩; with_reducible rfl) | (refine Or.inl ⟨by rfl, ?_⟩; intro wS hSw; obtain ⟨⟨r0, _⟩, ⟨r1, _⟩, ⟨r2, _⟩, ⟨r3, _⟩⟩ := four_cells hSw.box; have hrc := hSw.rc; go_simp; try with_reducible rfl)
  simp only [Act.put, List.setIfInBounds_toArray, List.set_cons_zero, List.set_cons_succ]
  refine wpAnyH_done (by kernel_rfl) ?_ _
  obtain ⟨⟨r0, _⟩, ⟨r1, _⟩, ⟨r2, _⟩, ⟨r3, _⟩⟩ := four_cells hS.box
  have hbu := hS.bel
  have hmi := ref_Miss' _ c k (HR.out.later hbu) (by omega) hn
  unfold clv clc at hmi
  have HMi := Lib.hid hmi
  have HBu := Lib.hid hbu
  clear hS hmi hbu
  go_wp2_with fail
  refine HMi.out.mono ?_
  rintro e w5 ⟨rfl, hR⟩
  have HR5 := Lib.hid hR
  clear hR
  go_wp2_with fail
  go_ret
  exact ⟨rfl, RefTo.after HBu.out HR5.out⟩

/-- what asking leaves of what was missed. -/
def askL (W : List UInt8) (L : List Part) (c : Nat → Bool) (place : Int) : List Part := if place < 0 then L else if thereB W c place then L else L ++ [(place, c)]
theorem doc_Set {H : Nat → Prop} {r : Nat} {v : Value} {L : List Part} {F : List Nat} {W : List UInt8} (w : World) (c : Nat → Bool) (place : Int) (h : RefS H w r v L F) (hv : BytesAt w v W) (hn : L.length ≤ 1000000) :
    Calls Try.prog 25 #[.pointer (some ⟨r, 0, none⟩), clv c, .int .i64 place] w fun e w' => e = .returned (.bool (thereB W c place)) ∧ RefTo H w w' r v (askL W L c place) F := by
  by_cases h0 : place < 0
  · rw [thereB_neg h0, show askL W L c place = L from if_pos h0]
    refine (ref_Set_neg w c place h h0).mono ?_
    rintro e w' ⟨rfl, hb⟩
    exact ⟨rfl, RefTo.ofNew h hb⟩
  · obtain ⟨k, rfl⟩ : ∃ k : Nat, place = k := ⟨place.toNat, by omega⟩
    unfold askL
    rw [if_neg h0]
    by_cases hk : k < W.length
    · cases hc : c W[k].toNat
      · have ht : thereB W c k = false := by rw [thereB_in hk, hc]
        rw [ht]
        simp only [Bool.false_eq_true, if_false]
        exact ref_Set_miss w c k h hv hn hk hc
      · have ht : thereB W c k = true := by rw [thereB_in hk, hc]
        rw [ht]
        simp only [if_true]
        refine (ref_Set_hit w c k h hv hn hk hc).mono ?_
        rintro e w' ⟨rfl, hb⟩
        exact ⟨rfl, RefTo.ofNew h hb⟩
    · have ht : thereB W c k = false := thereB_out hk
      rw [ht]
      simp only [Bool.false_eq_true, if_false]
      exact ref_Set_out w c k h hv hn hk
theorem doc_Set_yes {H : Nat → Prop} {r : Nat} {v : Value} {L : List Part} {F : List Nat} {W : List UInt8} (w : World) (c : Nat → Bool) (place : Int) (h : RefS H w r v L F) (hv : BytesAt w v W) (hn : L.length ≤ 1000000) (ht : thereB W c place = true) :
    Calls Try.prog 25 #[.pointer (some ⟨r, 0, none⟩), clv c, .int .i64 place] w fun e w' => e = .returned (.bool true) ∧ Below w.heap.size w w' := by
  by_cases h0 : place < 0
  · rw [thereB_neg h0] at ht; cases ht
  · obtain ⟨k, rfl⟩ : ∃ k : Nat, place = k := ⟨place.toNat, by omega⟩
    by_cases hk : k < W.length
    · rw [thereB_in hk] at ht
      exact ref_Set_hit w c k h hv hn hk ht
    · rw [thereB_out hk] at ht; cases ht
/-- every byte. -/
theorem doc_all (w : World) : Calls Try.prog 46 #[] w fun e w' => e = .returned (clv (clNot clNone)) ∧ Below w.heap.size w w' := by
  have e : clv (clNot clNone) = .agg #[.int .u64 18446744073709551615, .int .u64 18446744073709551615, .int .u64 18446744073709551615, .int .u64 18446744073709551615] := by
    unfold clv clc
    simp only [word_all]
    rfl
  rw [e]
  go_enter Try.func46, Try.ntmps46
  go_wp2
  refine bodyPost_ret (results_cell_row rfl _ _ w.heap.size _ _ _ _ rfl (heap_alloc_new _ _) Try.und_class rfl Try.size_class) rfl ⟨rfl, (Below.refl _ _).alloc (Nat.le_refl _) _⟩

set_option maxHeartbeats 400000 in
theorem doc_Any {H : Nat → Prop} {r : Nat} {v : Value} {L : List Part} {F : List Nat} {W : List UInt8} (w : World) (place : Int) (h : RefS H w r v L F) (hv : BytesAt w v W) (hn : L.length ≤ 1000000) :
    Calls Try.prog 24 #[.pointer (some ⟨r, 0, none⟩), .int .i64 place] w fun e w' => e = .returned (.bool (thereB W (clNot clNone) place)) ∧ RefTo H w w' r v (askL W L (clNot clNone) place) F := by
  have HR := Lib.hid h
  have HV := Lib.hid hv
  clear h hv
  go_enter Try.func24, Try.ntmps24
  go_wp2_with fail
  refine (doc_all _).mono ?_
  rintro e w1 ⟨rfl, hb⟩
  have HB := Lib.hid hb
  clear hb
  go_wp2_with fail
  refine (doc_Set _ _ _ (HR.out.later HB.out) (HV.out.later HB.out) hn).mono ?_
  rintro e w2 ⟨rfl, hR⟩
  have HR2 := Lib.hid hR
  clear hR
  go_wp2
  go_ret
  exact ⟨rfl, RefTo.after HB.out HR2.out⟩

/-- what asking for bytes, one behind the other, leaves of what was missed. -/
def textL (W : List UInt8) (L : List Part) : List UInt8 → Int → List Part
  | [], _ => L
  | b :: s, place => if thereB W (clOf [b]) place then textL W L s (place + 1) else L ++ [(place, clOf [b])]
theorem textL_stop (W : List UInt8) (L : List Part) : ∀ (l : List UInt8) (place : Int) (k : Nat) (h : k < l.length), (∀ j (hj : j < k), thereB W (clOf [l[j]]) (place + j) = true) → thereB W (clOf [l[k]]) (place + k) = false →
    textL W L l place = L ++ [(place + k, clOf [l[k]])]
  | [], _, _, h, _, _ => by simp at h
  | b :: r, place, 0, _, _, h2 => by
    simp only [List.getElem_cons_zero, Int.natCast_zero, Int.add_zero] at h2 ⊢
    simp only [textL, h2]
    simp
  | b :: r, place, k + 1, h, h1, h2 => by
    have hb : thereB W (clOf [b]) place = true := by have := h1 0 (by omega); simpa using this
    have hk : k < r.length := by simpa using h
    have e : place + ((k + 1 : Nat) : Int) = place + 1 + (k : Int) := by omega
    rw [e] at h2 ⊢
    simp only [List.getElem_cons_succ] at h2 ⊢
    have ih := textL_stop W L r (place + 1) k hk (fun j hj => by
      have := h1 (j + 1) (by omega)
      simp only [List.getElem_cons_succ] at this
      rw [show place + ((j + 1 : Nat) : Int) = place + 1 + (j : Int) by omega] at this
      exact this) h2
    simp only [textL, hb, if_true]
    exact ih
theorem textL_all (W : List UInt8) (L : List Part) : ∀ (l : List UInt8) (place : Int), (∀ j (hj : j < l.length), thereB W (clOf [l[j]]) (place + j) = true) → textL W L l place = L
  | [], _, _ => rfl
  | b :: r, place, h1 => by
    have hb : thereB W (clOf [b]) place = true := by have := h1 0 (by simp); simpa using this
    have ih := textL_all W L r (place + 1) (fun j hj => by
      have := h1 (j + 1) (by simpa using hj)
      simp only [List.getElem_cons_succ] at this
      rw [show place + ((j + 1 : Nat) : Int) = place + 1 + (j : Int) by omega] at this
      exact this)
    simp only [textL, hb, if_true]
    exact ih

set_option maxHeartbeats 400000 in
theorem doc_Text_neg {r : Nat} (w : World) (s : ByteArray) (place : Int) (h0 : place < 0) :
    Calls Try.prog 26 #[.pointer (some ⟨r, 0, none⟩), .string s, .int .i64 place] w fun e w' => e = .returned (.bool false) ∧ w = w' := by
  go_enter Try.func26, Try.ntmps26
  go_wp2
  go_ret
  exact ⟨rfl, rfl⟩

theorem RefTo.trans {H : Nat → Prop} {w u w' : World} {r : Nat} {v : Value} {L L' : List Part} {F F' : List Nat} (h : RefTo H w u r v L F) (k : ∀ H', RefS H' u r v L F → RefTo H' u w' r v L' F') : RefTo H w w' r v L' F' := by
  obtain ⟨H1, h1, h2, h3⟩ := h
  obtain ⟨H2, k1, k2, k3⟩ := k H1 h2
  refine ⟨H2, fun x hx => (k1 x hx).elim (h1 x) (fun h => .inr (Nat.le_trans h3.size h)), k2, ⟨k3.os.trans h3.os, k3.tape.trans h3.tape, k3.output.trans h3.output, Nat.le_trans h3.size k3.size, fun x hx hn => ?_⟩⟩
  refine (k3.block x (Nat.lt_of_lt_of_le hx h3.size) (fun h => ?_)).trans (h3.block x hx hn)
  rcases h1 x h with h | h
  · exact hn h
  · omega

set_option maxRecDepth 100000 in
set_option maxHeartbeats 4000000 in
theorem doc_Text {H : Nat → Prop} {r : Nat} {v : Value} {L : List Part} {F : List Nat} {W : List UInt8} (w : World) (s : ByteArray) (place : Int) (h : RefS H w r v L F) (hv : BytesAt w v W) (hn : L.length ≤ 1000000) (h0 : 0 ≤ place) (hp : place + s.size ≤ 9223372036854775807) :
    Calls Try.prog 26 #[.pointer (some ⟨r, 0, none⟩), .string s, .int .i64 place] w fun e w' => e = .returned (.bool (textB W s.data.toList place)) ∧ RefTo H w w' r v (textL W L s.data.toList place) F := by
  have HR := Lib.hid h
  have HV := Lib.hid hv
  have h0' : ¬ place < 0 := by omega
  clear h hv
  go_enter Try.func26, Try.ntmps26
  go_wp2
  go_loopw [7] (fun i wr => ∃ k : Nat, k ≤ s.size ∧ i = .int .i64 k ∧ (∀ j (_ : j < k) (hs : j < s.data.toList.length), thereB W (clOf [s.data.toList[j]]) (place + j) = true) ∧ Below w.heap.size w wr) (fun i _ => s.size - (intOf i).toNat)
  case atStart => exact ⟨0, by omega, rfl, fun j hj => by omega, Below.refl _ _⟩
  case round =>
    obtain ⟨k, hk, rfl, hall, hB⟩ := hrel
    have HA := Lib.hid hall
    have HB := Lib.hid hB
    clear hall hB
    by_cases hlt : k < s.size
    · have hlI : (k : Int) < s.size := by omega
      have hl : k < s.data.toList.length := by simpa using hlt
      have hpk : place + k ≤ 9223372036854775807 := by omega
      have hpk0 : 0 ≤ place + k := by omega
      go_wp2_with fail
      refine (ref_Of _ [s[k]] _ bytes_one).mono ?_
      rintro e w1 ⟨rfl, hb1⟩
      have HB1 : Hid (Below w.heap.size w w1) := Lib.hid ((HB.out.alloc HB.out.size _).trans (hb1.mono (by have := HB.out.size; simp; omega)))
      clear hb1
      go_wp2_with fail
      cases hth : thereB W (clOf [s[k]]) (place + k)
      · refine (doc_Set w1 (clOf [s[k]]) (place + k) (HR.out.later HB1.out) (HV.out.later HB1.out) hn).mono ?_
        rintro e w2 ⟨rfl, hR⟩
        unfold askL at hR
        rw [if_neg (by omega), hth] at hR
        simp only [Bool.false_eq_true, if_false] at hR
        rw [hth]
        have HR2 := Lib.hid (RefTo.after HB1.out hR)
        have HT := Lib.hid hth
        clear hth hR
        go_wp2_with fail
        go_ret
        have e1 := (text_stop W pFresh s.data.toList place k hl (fun j hj => HA.out j hj (by omega)) HT.out).1
        have e2 := textL_stop W L s.data.toList place k hl (fun j hj => HA.out j hj (by omega)) HT.out
        rw [e1, e2]
        exact ⟨rfl, HR2.out⟩
      · refine (doc_Set_yes w1 (clOf [s[k]]) (place + k) (HR.out.later HB1.out) (HV.out.later HB1.out) hn hth).mono ?_
        rintro e w2 ⟨rfl, hb2⟩
        have HB2 := Lib.hid (HB1.out.trans (hb2.mono HB1.out.size))
        have HT := Lib.hid hth
        clear hth hb2
        go_wp2_with fail
        go_roundw
        case rel =>
          refine ⟨k + 1, by omega, by go_num, fun j hj hs => ?_, HB2.out⟩
          by_cases hjk : j = k
          · subst hjk; exact HT.out
          · exact HA.out j (by omega) hs
        case measure => simp [intOf] <;> omega
    · obtain rfl : k = s.size := by omega
      go_wp2
      go_ret
      have e1 := (text_all W pFresh s.data.toList place (fun j hj => HA.out j (by simpa using hj) hj)).1
      have e2 := textL_all W L s.data.toList place (fun j hj => HA.out j (by simpa using hj) hj)
      rw [e1, e2]
      exact ⟨rfl, RefTo.ofNew HR.out HB.out⟩
end Go.Proofs.Ytfhgmnlhmfnckaa
