/-
  Chapter far: FarDoes: the walk.
-/
import Derived.Test.YtfhgmnlhmfnckaaDoB
import Derived.Test.YtfhgmnlhmfnckaaFarM
import Derived.Test.YtfhgmnlhmfnckaaEqC
import Derived.Deep.CutBlock
namespace Go.Proofs.Ytfhgmnlhmfnckaa
open Go.RowKit Go.Lib

theorem LentAt.bytes {w : World} {g : Nat} {t : List UInt8} (h : LentAt w g t) (hm : t.length ≤ 1000000) : BytesAt w (.slice (some ⟨g, 0, none⟩) t.length (t.length + 12)) t := by
  refine ⟨_, g, 0, _, rfl, by omega, by unfold maxLen; omega, fun h => by simp at h, fun _ => rfl, fun k hk => ?_⟩
  have := h.cell k (by omega)
  rw [Nat.zero_add, this]
  simp [bmk, List.getElem_append, hk]

theorem Rows2.mono {S : List (List Miss)} {T : List Miss} {k : Nat} (h : Rows2 S T k) : Rows2 S T (k + 1) := ⟨h.ps, h.pt, by have := h.ls; omega, by have := h.ll; omega⟩
theorem Rows2.ask {S : List (List Miss)} {T : List Miss} {k : Nat} (h : Rows2 S T k) (W : List UInt8) (c : Nat → Bool) (place : Int) : Rows2 S (askL W T c place) (k + 1) :=
  ⟨h.ps, ask_pos h.pt c place, by have := h.ls; omega, by have := h.ll; have := ask_len W T c place; simp only [List.length_append] at *; omega⟩
theorem Rows2.text {S : List (List Miss)} {T : List Miss} {k : Nat} (h : Rows2 S T k) (W : List UInt8) (s : ByteArray) (place : Int) : Rows2 S (txtL W T s place) (k + 1) := by
  unfold txtL
  split
  · exact h.mono
  · exact ⟨h.ps, text_pos h.pt _ place (by omega), by have := h.ls; omega, by have := h.ll; have := text_len W T s.data.toList place; simp only [List.length_append] at *; omega⟩
theorem Rows2.miss {S : List (List Miss)} {T : List Miss} {k : Nat} (h : Rows2 S T k) (c : Nat → Bool) (place : Int) : Rows2 S (missL T c place) (k + 1) := by
  unfold missL
  split
  · exact h.mono
  · refine ⟨h.ps, pos_append h.pt (fun q hq => ?_), by have := h.ls; omega, by have := h.ll; simp only [List.length_append, List.length_singleton] at *; omega⟩
    rw [List.mem_singleton.1 hq]
    show 0 ≤ place
    omega
theorem Rows2.begin {S : List (List Miss)} {T : List Miss} {k : Nat} (h : Rows2 S T k) : Rows2 (S ++ [T]) [] (k + 1) := by
  refine ⟨fun s hs => ?_, fun q hq => by simp at hq, by have := h.ls; simp; omega, by have := h.ll; simp at *; omega⟩
  rcases List.mem_append.1 hs with h1 | h1
  · exact h.ps s h1
  · rw [List.mem_singleton.1 h1]; exact h.pt
theorem Rows2.shut {S : List (List Miss)} {s T : List Miss} {k : Nat} (h : Rows2 (S ++ [s]) T k) : Rows2 S (s ++ T) (k + 1) :=
  ⟨fun t ht => h.ps t (List.mem_append.2 (.inl ht)), pos_append (h.ps s (by simp)) h.pt, by have := h.ls; simp at this; omega, by have := h.ll; simp at *; omega⟩

set_option maxRecDepth 100000 in
set_option maxHeartbeats 40000000 in
theorem farDoes_main (w : World) (v u : Value) (W : List UInt8) (l : List Deed) (hv : BytesAt w v W) (hu : DeedsAt w u l) (h8 : W.length ≤ 140737488351232) (h9 : l.length ≤ 140737488351232) :
    Calls Try.prog 6 #[v, u] w fun e w' => e = .returned (.bool true) ∧ Below w.heap.size w w' := by
  have HV := Lib.hid hv
  have HU := Lib.hid hu
  have HSz := Lib.hid (law_size w v u W l hv hu h8 h9)
  obtain ⟨ao, b, off, cap, rfl, hl2, hm2, _, hao, hcw⟩ := hv
  obtain ⟨ao2, cap2, rfl, hl3, hm3, hcu⟩ := hu.cells
  have Hcu := Lib.hid hcu
  clear hu hcu hao hcw
  go_enter Try.func6, Try.ntmps6
  go_wp2_with fail
  refine HSz.out.mono ?_
  rintro e w1 ⟨n, rfl, hn, hb1⟩
  have HB1 := Lib.hid hb1
  clear hb1 HSz
  by_cases h4 : n ≤ 400
  · have hn4 := hn h4
    have hnI : ¬ (n : Int) > 400 := by omega
    have hlW : W.length ≤ 400 := by omega
    have hll : l.length ≤ 400 := by omega
    have Hs4 : Hid (∀ d ∈ l, d.s.size ≤ 400) := Lib.hid (fun d hd => by have := sumS_mem hd; omega)
    clear hn hn4 h8 h9
    go_wp2_with fail
    refine (lentBytes_any _ W w1 (HV.out.later HB1.out) (by omega)).mono ?_
    rintro e w2 ⟨rfl, hL2, hb2⟩
    obtain ⟨g, hg⟩ : ∃ g, g = w1.heap.size := ⟨_, rfl⟩
    rw [← hg] at hL2 ⊢
    have HB2 := Lib.hid (HB1.out.trans (hb2.mono HB1.out.size))
    have HL2 := Lib.hid hL2
    have HG1 := Lib.hid (show w.heap.size ≤ g by rw [hg]; exact HB1.out.size)
    clear hg hb2 hL2
    go_wp2_with fail
    refine (far_New w2 _ W (HL2.out.bytes (by omega)) (by omega)).mono ?_
    rintro e w3 ⟨a, rfl, hFa, hb3⟩
    obtain ⟨Ha, hHa⟩ : ∃ Ha, Ha = (fun k => w2.heap.size ≤ k ∧ k < w3.heap.size) := ⟨_, rfl⟩
    rw [← hHa] at hFa
    have HFa := Lib.hid hFa
    have HHa : Hid (∀ k, Ha k → w2.heap.size ≤ k ∧ k < w3.heap.size) := Lib.hid (fun k hk => by rw [hHa] at hk; exact hk)
    have HB3 := Lib.hid (HB2.out.trans (hb3.mono HB2.out.size))
    have HL3 : Hid (LentAt w3 g W) := Lib.hid ((hb3.block _ (lt_of_block HL2.out)).trans HL2.out)
    have HG2 := Lib.hid (lt_of_block HL2.out)
    have HB23 := Lib.hid hb3
    clear hFa hHa hb3
    go_wp2_with fail
    refine (keptBytes_any _ W g _ (HV.out.later (HB3.out.alloc HB3.out.size _)) ((heap_alloc_old _ _ (lt_of_block HL3.out)).trans HL3.out) (by omega)).mono ?_
    rintro e w4 ⟨rfl, hb4⟩
    obtain ⟨r, hrd⟩ : ∃ r, r = w3.heap.size := ⟨_, rfl⟩
    rw [← hrd]
    have hD4 : w4.heap[g]? = some (.cells (bv (bmk W 12)).toArray 5 (0, 0)) := (hb4.block _ (Nat.lt_trans (lt_of_block HL3.out) (by simp))).trans ((heap_alloc_old _ _ (lt_of_block HL3.out)).trans HL3.out)
    have hF4 : Far Ha w4 a ([] ++ [(-1, clNone)]) W := HFa.out.later (((Below.refl w3.heap.size w3).alloc (Nat.le_refl _) _).trans (hb4.mono (by simp)))
    have hR4 : RefS (fun k => k = r) w4 r (.slice ao W.length cap) [] [] := by
      have hro : w4.heap[r]? = some (.cells #[.slice ao W.length cap, .slice none 0 0, .slice none 0 0] 51 (0, 0)) := (hb4.block _ (by rw [hrd]; simp)).trans (by rw [hrd]; exact heap_alloc_new _ _)
      exact ⟨fun k hk => by rw [hk]; exact lt_of_block hro, rfl, _, _, hro, World.ownsRow_nil _ _ _ _, World.ownsRow_nil _ _ _ _, fun k hk => by simp [Value.ownBlock] at hk, fun k hk => by simp [Value.ownBlock] at hk⟩
    have HD4 := Lib.hid hD4
    have HF4 := Lib.hid hF4
    have HR4 := Lib.hid hR4
    have HB4 := Lib.hid (HB3.out.trans (((Below.refl w3.heap.size w3).alloc (Nat.le_refl _) (.cells #[.slice ao W.length cap, .slice none 0 0, .slice none 0 0] 51 (0, 0))).trans (hb4.mono (by simp)) |>.mono HB3.out.size))
    have HRd := Lib.hid hrd
    clear hD4 hF4 hR4 hb4 hrd
    go_wp2_with fail
    refine (overBytes_any W.length g _ w4 HD4.out (by simp [bv, bmk]) (by omega)).mono ?_
    rintro e w5 ⟨rfl, hg5⟩
    have hK5 : Keeps (fun k => k = g) w4 w5 := (Keeps.refl _ _).grown hg5 (fun k hk => by cases hk; rfl)
    have hDB : DB w w5 a r (.slice ao W.length cap) W [] [] := by
      refine ⟨Ha, fun k => k = r, fun k hk => Nat.le_trans HB2.out.size (HHa.out k hk).1, fun k hk => by rw [hk, HRd.out]; exact HB3.out.size, fun k hk h => ?_, ?_, ?_, HV.out, ?_⟩
      · have := HHa.out k hk; have := HRd.out; omega
      · exact HF4.out.keep hK5 (fun k hk h => by have := HHa.out k hk; have := HG2.out; omega)
      · exact HR4.out.keep hK5 (fun k hk h => by have := HRd.out; have := HG2.out; have := HB23.out.size; omega)
      · exact HB4.out.trans (hK5.below HB4.out.size (fun k hk => by rw [hk]; exact HG1.out))
    have HDB := Lib.hid hDB
    clear hDB hK5 hg5 HHa HF4 HR4 HFa HD4
    go_wp2
    go_loopw [8] (fun i wr => ∃ (k : Nat) (S : List (List Miss)) (T : List Miss), k ≤ l.length ∧ i = .int .i64 k ∧ DB w wr a r (.slice ao W.length cap) W S T ∧ Rows2 S T k) (fun i _ => l.length - (intOf i).toNat)
    case atStart => exact ⟨0, [], [], by omega, rfl, HDB.out, ⟨fun s hs => by simp at hs, fun q hq => by simp at hq, by simp, by simp⟩⟩
    case round =>
      obtain ⟨k, S, T, hk, rfl, hB, hR⟩ := hrel
      have HB := Lib.hid hB
      have HR := Lib.hid hR
      clear hB hR HDB
      by_cases hlt : k < l.length
      · obtain ⟨b2, off2, rfl, hbl2, d0, d1, d2, d3, d4, d5, d6⟩ := Hcu.out k hlt
        have hok := HU.out.2 l[k] (List.getElem_mem _)
        have hs4 := Hs4.out l[k] (List.getElem_mem _)
        obtain ⟨d, hd⟩ : ∃ d, d = l[k] := ⟨_, rfl⟩
        rw [← hd] at d0 d1 d2 d3 d4 d5 d6 hok hs4
        have hbel := HB.out.under
        replace d0 := cell_later hbel d0
        replace d1 := cell_later hbel d1
        replace d2 := cell_later hbel d2
        replace d3 := cell_later hbel d3
        replace d4 := cell_later hbel d4
        replace d5 := cell_later hbel d5
        replace d6 := cell_later hbel d6
        clear hd hbel
        have hlI : (k : Int) < l.length := by omega
        by_cases hr : 4611686018427387904 < d.place
        · have hr' : d.place > 4611686018427387904 := hr
          go_wp2_with fail
          refine (awake_any _).mono ?_
          rintro e w9 ⟨rfl, hb9⟩
          go_wp2
          go_ret
          have hb8 := HB.out.under.alloc HB.out.under.size (deedO d)
          exact ⟨rfl, hb8.trans (hb9.mono hb8.size)⟩
        · have hr' : ¬ d.place > 4611686018427387904 := hr
          obtain ⟨hw, hp, _⟩ := hok
          have HSz := Lib.hid hs4
          have hDD := HB.out.deed (d := d) (w' := wr.alloc (deedO d)) ((Below.refl _ _).alloc (Nat.le_refl _) _) (heap_alloc_new _ _)
          have HDD := Lib.hid hDD
          clear hs4 hDD
          go_wp2_with fail
          refine (kit_pick _ d.what hw).mono ?_
          rintro e w2p ⟨rfl, rfl⟩
          have hpr := pick6_range d.what
          obtain ⟨p, hpd⟩ : ∃ p, p = pick6 d.what := ⟨_, rfl⟩
          rw [← hpd] at hpr ⊢
          obtain ⟨x, hxd⟩ : ∃ x, x = wr.heap.size := ⟨_, rfl⟩
          rw [← hxd] at HDD ⊢
          have HX := Lib.hid hxd
          clear hpd hw hxd
          go_upto_block 2 with (fail)
          refine gen_world (S := fun w0 => DE w w0 a r x (.slice ao W.length cap) d W S T S T) HDD.out (fun wp hD2 => ?_)
          have HD2 := Lib.hid hD2
          clear hD2 HDD d0 d1 d2 d3 d4 d5 d6
          go_cut [10, 11, 12, 13, 14] (fun ok _ _ _ _ w1 => ok = .bool true ∧ ∃ S' T', DD w w1 a r x (.slice ao W.length cap) d W S' T' ∧ Rows2 S' T' (k + 1))
          case first =>
            have hSn : S.length ≤ 900000 := by have := HR.out.ls; omega
            have hLn : (S.flatten ++ T).length ≤ 1000000 := by have := HR.out.ll; omega
            have HSn := Lib.hid hSn
            have HLn := Lib.hid hLn
            clear hSn hLn
            rcases (by omega : p = 0 ∨ p = 1 ∨ p = 2 ∨ p = 3 ∨ p = 4 ∨ p = 5) with rfl | rfl | rfl | rfl | rfl | rfl
            · clear hpr
              go_upto_region 17 with (fail)
              have HDr := Lib.hid (DE.later _ HD2.out (Below.refl wp.heap.size wp).drew)
              refine wp_region_held_drew (S := fun w1 => w1.heap[x]? = some (deedO d)) (by kernel_rfl) (DE.box _ HDr.out) (fun hS => ?_)
              refine wpAnyH_take (i := 0) (oi := ⟨_, _, _, _, _, _⟩) (v := ?v1) rfl (by kernel_rfl) (by kernel_rfl) (by kernel_rfl) (fun _ _ _ h => h) ?y1 hS ?_
              case y1 => first | (refine Or.inr ⟨by rfl, ?_⟩; with_reducible rfl) | (refine Or.inl ⟨by rfl, ?_⟩; intro wS hSw; obtain ⟨c0, c1, c2, c3, c4, c5, c6⟩ := deedO_cells hSw; go_simp; try with_reducible rfl)
              simp only [Act.put, List.setIfInBounds_toArray, List.set_cons_zero, List.set_cons_succ]
              refine wpAnyH_take (i := 1) (oi := ⟨_, _, _, _, _, _⟩) (v := ?v2) rfl (by kernel_rfl) (by kernel_rfl) (by kernel_rfl) (fun _ _ _ h => h) ?y2 hS ?_
              case y2 => first | (refine Or.inr ⟨by rfl, ?_⟩; with_reducible rfl) | (refine Or.inl ⟨by rfl, ?_⟩; intro wS hSw; obtain ⟨c0, c1, c2, c3, c4, c5, c6⟩ := deedO_cells hSw; go_simp; try with_reducible rfl)
              simp only [Act.put, List.setIfInBounds_toArray, List.set_cons_zero, List.set_cons_succ]
              refine wpAnyH_take (i := 2) (oi := ⟨_, _, _, _, _, _⟩) (v := ?v3) rfl (by kernel_rfl) (by kernel_rfl) (by kernel_rfl) (fun _ _ _ h => h) ?y3 hS ?_
              case y3 => first | (refine Or.inr ⟨by rfl, ?_⟩; with_reducible rfl) | (refine Or.inl ⟨by rfl, ?_⟩; intro wS hSw; obtain ⟨c0, c1, c2, c3, c4, c5, c6⟩ := deedO_cells hSw; go_simp; try with_reducible rfl)
              simp only [Act.put, List.setIfInBounds_toArray, List.set_cons_zero, List.set_cons_succ]
              refine wpAnyH_take (i := 4) (oi := ⟨_, _, _, _, _, _⟩) (v := ?v4) rfl (by kernel_rfl) (by kernel_rfl) (by kernel_rfl) (fun _ _ _ h => h) ?y4 hS ?_
              case y4 => first | (refine Or.inr ⟨by rfl, ?_⟩; with_reducible rfl) | (refine Or.inl ⟨by rfl, ?_⟩; intro wS hSw; obtain ⟨c0, c1, c2, c3, c4, c5, c6⟩ := deedO_cells hSw; go_simp; try with_reducible rfl)
              simp only [Act.put, List.setIfInBounds_toArray, List.set_cons_zero, List.set_cons_succ]
              refine wpAnyH_take (i := 5) (oi := ⟨_, _, _, _, _, _⟩) (v := ?v5) rfl (by kernel_rfl) (by kernel_rfl) (by kernel_rfl) (fun _ _ _ h => h) ?y5 hS ?_
              case y5 => first | (refine Or.inr ⟨by rfl, ?_⟩; with_reducible rfl) | (refine Or.inl ⟨by rfl, ?_⟩; intro wS hSw; obtain ⟨c0, c1, c2, c3, c4, c5, c6⟩ := deedO_cells hSw; go_simp; try with_reducible rfl)
              simp only [Act.put, List.setIfInBounds_toArray, List.set_cons_zero, List.set_cons_succ]
              refine wpAnyH_take (i := 6) (oi := ⟨_, _, _, _, _, _⟩) (v := ?v6) rfl (by kernel_rfl) (by kernel_rfl) (by kernel_rfl) (fun _ _ _ h => h) ?y6 hS ?_
              case y6 => first | (refine Or.inr ⟨by rfl, ?_⟩; with_reducible rfl) | (refine Or.inl ⟨by rfl, ?_⟩; intro wS hSw; obtain ⟨c0, c1, c2, c3, c4, c5, c6⟩ := deedO_cells hSw; go_simp; try with_reducible rfl)
              simp only [Act.put, List.setIfInBounds_toArray, List.set_cons_zero, List.set_cons_succ]
              refine wpAnyH_ready (rs := [3]) (by kernel_rfl) (by simp) ?_
              refine AllReadyH.cons (o := ⟨_, _, _, _, _, _⟩) rfl (fun K hK => ?_) AllReadyH.nil
              go_simp
              refine (de_farAny _ d.place HDr.out).mono ?_
              rintro e wx ⟨rfl, hD⟩; have hS := DE.box _ hD
              go_wp2_with fail
              refine hK.out _ _ hS (fun _ => ?_)
              clear hK K
              try simp only [Act.put, List.setIfInBounds_toArray, List.set_cons_zero, List.set_cons_succ]
              refine wpAnyH_ready (rs := [7]) (by kernel_rfl) (by simp) ?_
              refine AllReadyH.cons (o := ⟨_, _, _, _, _, _⟩) rfl (fun K hK => ?_) AllReadyH.nil
              go_simp
              refine (de_docAny wx d.place hD HLn.out).mono ?_
              rintro e wy ⟨rfl, hD2⟩; have hS := DE.box _ hD2
              go_wp2_with fail
              refine hK.out _ _ hS (fun _ => ?_)
              clear hK K
              try simp only [Act.put, List.setIfInBounds_toArray, List.set_cons_zero, List.set_cons_succ]
              refine wpAnyH_take (i := 8) (oi := ⟨_, _, _, _, _, _⟩) (v := ?v7) rfl (by kernel_rfl) (by kernel_rfl) (by kernel_rfl) (fun _ _ _ h => h) ?y7 hS ?_
              case y7 => first | (refine Or.inr ⟨by rfl, ?_⟩; with_reducible rfl) | (refine Or.inl ⟨by rfl, ?_⟩; intro wS hSw; obtain ⟨c0, c1, c2, c3, c4, c5, c6⟩ := deedO_cells hSw; go_simp; try with_reducible rfl)
              simp only [Act.put, List.setIfInBounds_toArray, List.set_cons_zero, List.set_cons_succ]
              refine wpAnyH_take (i := 9) (oi := ⟨_, _, _, _, _, _⟩) (v := ?v8) rfl (by kernel_rfl) (by kernel_rfl) (by kernel_rfl) (fun _ _ _ h => h) ?y8 hS ?_
              case y8 => first | (refine Or.inr ⟨by rfl, ?_⟩; with_reducible rfl) | (refine Or.inl ⟨by rfl, ?_⟩; intro wS hSw; obtain ⟨c0, c1, c2, c3, c4, c5, c6⟩ := deedO_cells hSw; go_simp; try with_reducible rfl)
              simp only [Act.put, List.setIfInBounds_toArray, List.set_cons_zero, List.set_cons_succ]
              refine wpAnyH_done (by kernel_rfl) ?_ _
              go_wp2_with fail
              go_meet
              exact ⟨by simp, _, _, hD2, HR.out.ask _ _ _⟩
            · clear hpr
              go_upto_region 19 with (fail)
              have HDr := Lib.hid (DE.later _ HD2.out (Below.refl wp.heap.size wp).drew)
              refine wp_region_held_drew (S := fun w1 => w1.heap[x]? = some (deedO d)) (by kernel_rfl) (DE.box _ HDr.out) (fun hS => ?_)
              refine wpAnyH_take (i := 0) (oi := ⟨_, _, _, _, _, _⟩) (v := ?v9) rfl (by kernel_rfl) (by kernel_rfl) (by kernel_rfl) (fun _ _ _ h => h) ?y9 hS ?_
              case y9 => first | (refine Or.inr ⟨by rfl, ?_⟩; with_reducible rfl) | (refine Or.inl ⟨by rfl, ?_⟩; intro wS hSw; obtain ⟨c0, c1, c2, c3, c4, c5, c6⟩ := deedO_cells hSw; go_simp; try with_reducible rfl)
              simp only [Act.put, List.setIfInBounds_toArray, List.set_cons_zero, List.set_cons_succ]
              refine wpAnyH_take (i := 1) (oi := ⟨_, _, _, _, _, _⟩) (v := ?v10) rfl (by kernel_rfl) (by kernel_rfl) (by kernel_rfl) (fun _ _ _ h => h) ?y10 hS ?_
              case y10 => first | (refine Or.inr ⟨by rfl, ?_⟩; with_reducible rfl) | (refine Or.inl ⟨by rfl, ?_⟩; intro wS hSw; obtain ⟨c0, c1, c2, c3, c4, c5, c6⟩ := deedO_cells hSw; go_simp; try with_reducible rfl)
              simp only [Act.put, List.setIfInBounds_toArray, List.set_cons_zero, List.set_cons_succ]
              refine wpAnyH_take (i := 2) (oi := ⟨_, _, _, _, _, _⟩) (v := ?v11) rfl (by kernel_rfl) (by kernel_rfl) (by kernel_rfl) (fun _ _ _ h => h) ?y11 hS ?_
              case y11 => first | (refine Or.inr ⟨by rfl, ?_⟩; with_reducible rfl) | (refine Or.inl ⟨by rfl, ?_⟩; intro wS hSw; obtain ⟨c0, c1, c2, c3, c4, c5, c6⟩ := deedO_cells hSw; go_simp; try with_reducible rfl)
              simp only [Act.put, List.setIfInBounds_toArray, List.set_cons_zero, List.set_cons_succ]
              refine wpAnyH_take (i := 3) (oi := ⟨_, _, _, _, _, _⟩) (v := ?v12) rfl (by kernel_rfl) (by kernel_rfl) (by kernel_rfl) (fun _ _ _ h => h) ?y12 hS ?_
              case y12 => first | (refine Or.inr ⟨by rfl, ?_⟩; with_reducible rfl) | (refine Or.inl ⟨by rfl, ?_⟩; intro wS hSw; obtain ⟨c0, c1, c2, c3, c4, c5, c6⟩ := deedO_cells hSw; go_simp; try with_reducible rfl)
              simp only [Act.put, List.setIfInBounds_toArray, List.set_cons_zero, List.set_cons_succ]
              refine wpAnyH_take (i := 4) (oi := ⟨_, _, _, _, _, _⟩) (v := ?v13) rfl (by kernel_rfl) (by kernel_rfl) (by kernel_rfl) (fun _ _ _ h => h) ?y13 hS ?_
              case y13 => first | (refine Or.inr ⟨by rfl, ?_⟩; with_reducible rfl) | (refine Or.inl ⟨by rfl, ?_⟩; intro wS hSw; obtain ⟨c0, c1, c2, c3, c4, c5, c6⟩ := deedO_cells hSw; go_simp; try with_reducible rfl)
              simp only [Act.put, List.setIfInBounds_toArray, List.set_cons_zero, List.set_cons_succ]
              refine wpAnyH_take (i := 6) (oi := ⟨_, _, _, _, _, _⟩) (v := ?v14) rfl (by kernel_rfl) (by kernel_rfl) (by kernel_rfl) (fun _ _ _ h => h) ?y14 hS ?_
              case y14 => first | (refine Or.inr ⟨by rfl, ?_⟩; with_reducible rfl) | (refine Or.inl ⟨by rfl, ?_⟩; intro wS hSw; obtain ⟨c0, c1, c2, c3, c4, c5, c6⟩ := deedO_cells hSw; go_simp; try with_reducible rfl)
              simp only [Act.put, List.setIfInBounds_toArray, List.set_cons_zero, List.set_cons_succ]
              refine wpAnyH_take (i := 7) (oi := ⟨_, _, _, _, _, _⟩) (v := ?v15) rfl (by kernel_rfl) (by kernel_rfl) (by kernel_rfl) (fun _ _ _ h => h) ?y15 hS ?_
              case y15 => first | (refine Or.inr ⟨by rfl, ?_⟩; with_reducible rfl) | (refine Or.inl ⟨by rfl, ?_⟩; intro wS hSw; obtain ⟨c0, c1, c2, c3, c4, c5, c6⟩ := deedO_cells hSw; go_simp; try with_reducible rfl)
              simp only [Act.put, List.setIfInBounds_toArray, List.set_cons_zero, List.set_cons_succ]
              refine wpAnyH_take (i := 8) (oi := ⟨_, _, _, _, _, _⟩) (v := ?v16) rfl (by kernel_rfl) (by kernel_rfl) (by kernel_rfl) (fun _ _ _ h => h) ?y16 hS ?_
              case y16 => first | (refine Or.inr ⟨by rfl, ?_⟩; with_reducible rfl) | (refine Or.inl ⟨by rfl, ?_⟩; intro wS hSw; obtain ⟨c0, c1, c2, c3, c4, c5, c6⟩ := deedO_cells hSw; go_simp; try with_reducible rfl)
              simp only [Act.put, List.setIfInBounds_toArray, List.set_cons_zero, List.set_cons_succ]
              refine wpAnyH_take (i := 9) (oi := ⟨_, _, _, _, _, _⟩) (v := ?v17) rfl (by kernel_rfl) (by kernel_rfl) (by kernel_rfl) (fun _ _ _ h => h) ?y17 hS ?_
              case y17 => first | (refine Or.inr ⟨by rfl, ?_⟩; with_reducible rfl) | (refine Or.inl ⟨by rfl, ?_⟩; intro wS hSw; obtain ⟨c0, c1, c2, c3, c4, c5, c6⟩ := deedO_cells hSw; go_simp; try with_reducible rfl)
              simp only [Act.put, List.setIfInBounds_toArray, List.set_cons_zero, List.set_cons_succ]
              refine wpAnyH_take (i := 10) (oi := ⟨_, _, _, _, _, _⟩) (v := ?v18) rfl (by kernel_rfl) (by kernel_rfl) (by kernel_rfl) (fun _ _ _ h => h) ?y18 hS ?_
              case y18 => first | (refine Or.inr ⟨by rfl, ?_⟩; with_reducible rfl) | (refine Or.inl ⟨by rfl, ?_⟩; intro wS hSw; obtain ⟨c0, c1, c2, c3, c4, c5, c6⟩ := deedO_cells hSw; go_simp; try with_reducible rfl)
              simp only [Act.put, List.setIfInBounds_toArray, List.set_cons_zero, List.set_cons_succ]
              refine wpAnyH_ready (rs := [5]) (by kernel_rfl) (by simp) ?_
              refine AllReadyH.cons (o := ⟨_, _, _, _, _, _⟩) rfl (fun K hK => ?_) AllReadyH.nil
              go_simp
              refine (de_farSet _ d.c d.place HDr.out).mono ?_
              rintro e wx ⟨rfl, hD⟩; have hS := DE.box _ hD
              go_wp2_with fail
              refine hK.out _ _ hS (fun _ => ?_)
              clear hK K
              try simp only [Act.put, List.setIfInBounds_toArray, List.set_cons_zero, List.set_cons_succ]
              refine wpAnyH_ready (rs := [11]) (by kernel_rfl) (by simp) ?_
              refine AllReadyH.cons (o := ⟨_, _, _, _, _, _⟩) rfl (fun K hK => ?_) AllReadyH.nil
              go_simp
              refine (de_docSet wx d.c d.place hD HLn.out).mono ?_
              rintro e wy ⟨rfl, hD2⟩; have hS := DE.box _ hD2
              go_wp2_with fail
              refine hK.out _ _ hS (fun _ => ?_)
              clear hK K
              try simp only [Act.put, List.setIfInBounds_toArray, List.set_cons_zero, List.set_cons_succ]
              refine wpAnyH_take (i := 12) (oi := ⟨_, _, _, _, _, _⟩) (v := ?v19) rfl (by kernel_rfl) (by kernel_rfl) (by kernel_rfl) (fun _ _ _ h => h) ?y19 hS ?_
              case y19 => first | (refine Or.inr ⟨by rfl, ?_⟩; with_reducible rfl) | (refine Or.inl ⟨by rfl, ?_⟩; intro wS hSw; obtain ⟨c0, c1, c2, c3, c4, c5, c6⟩ := deedO_cells hSw; go_simp; try with_reducible rfl)
              simp only [Act.put, List.setIfInBounds_toArray, List.set_cons_zero, List.set_cons_succ]
              refine wpAnyH_take (i := 13) (oi := ⟨_, _, _, _, _, _⟩) (v := ?v20) rfl (by kernel_rfl) (by kernel_rfl) (by kernel_rfl) (fun _ _ _ h => h) ?y20 hS ?_
              case y20 => first | (refine Or.inr ⟨by rfl, ?_⟩; with_reducible rfl) | (refine Or.inl ⟨by rfl, ?_⟩; intro wS hSw; obtain ⟨c0, c1, c2, c3, c4, c5, c6⟩ := deedO_cells hSw; go_simp; try with_reducible rfl)
              simp only [Act.put, List.setIfInBounds_toArray, List.set_cons_zero, List.set_cons_succ]
              refine wpAnyH_done (by kernel_rfl) ?_ _
              go_wp2_with fail
              go_meet
              exact ⟨by simp, _, _, hD2, HR.out.ask _ _ _⟩
            · clear hpr
              go_upto_region 21 with (fail)
              have HDr := Lib.hid (DE.later _ HD2.out (Below.refl wp.heap.size wp).drew)
              refine wp_region_held_drew (S := fun w1 => w1.heap[x]? = some (deedO d)) (by kernel_rfl) (DE.box _ HDr.out) (fun hS => ?_)
              refine wpAnyH_take (i := 0) (oi := ⟨_, _, _, _, _, _⟩) (v := ?v21) rfl (by kernel_rfl) (by kernel_rfl) (by kernel_rfl) (fun _ _ _ h => h) ?y21 hS ?_
              case y21 => first | (refine Or.inr ⟨by rfl, ?_⟩; with_reducible rfl) | (refine Or.inl ⟨by rfl, ?_⟩; intro wS hSw; obtain ⟨c0, c1, c2, c3, c4, c5, c6⟩ := deedO_cells hSw; go_simp; try with_reducible rfl)
              simp only [Act.put, List.setIfInBounds_toArray, List.set_cons_zero, List.set_cons_succ]
              refine wpAnyH_take (i := 1) (oi := ⟨_, _, _, _, _, _⟩) (v := ?v22) rfl (by kernel_rfl) (by kernel_rfl) (by kernel_rfl) (fun _ _ _ h => h) ?y22 hS ?_
              case y22 => first | (refine Or.inr ⟨by rfl, ?_⟩; with_reducible rfl) | (refine Or.inl ⟨by rfl, ?_⟩; intro wS hSw; obtain ⟨c0, c1, c2, c3, c4, c5, c6⟩ := deedO_cells hSw; go_simp; try with_reducible rfl)
              simp only [Act.put, List.setIfInBounds_toArray, List.set_cons_zero, List.set_cons_succ]
              refine wpAnyH_take (i := 2) (oi := ⟨_, _, _, _, _, _⟩) (v := ?v23) rfl (by kernel_rfl) (by kernel_rfl) (by kernel_rfl) (fun _ _ _ h => h) ?y23 hS ?_
              case y23 => first | (refine Or.inr ⟨by rfl, ?_⟩; with_reducible rfl) | (refine Or.inl ⟨by rfl, ?_⟩; intro wS hSw; obtain ⟨c0, c1, c2, c3, c4, c5, c6⟩ := deedO_cells hSw; go_simp; try with_reducible rfl)
              simp only [Act.put, List.setIfInBounds_toArray, List.set_cons_zero, List.set_cons_succ]
              refine wpAnyH_take (i := 3) (oi := ⟨_, _, _, _, _, _⟩) (v := ?v24) rfl (by kernel_rfl) (by kernel_rfl) (by kernel_rfl) (fun _ _ _ h => h) ?y24 hS ?_
              case y24 => first | (refine Or.inr ⟨by rfl, ?_⟩; with_reducible rfl) | (refine Or.inl ⟨by rfl, ?_⟩; intro wS hSw; obtain ⟨c0, c1, c2, c3, c4, c5, c6⟩ := deedO_cells hSw; go_simp; try with_reducible rfl)
              simp only [Act.put, List.setIfInBounds_toArray, List.set_cons_zero, List.set_cons_succ]
              refine wpAnyH_take (i := 4) (oi := ⟨_, _, _, _, _, _⟩) (v := ?v25) rfl (by kernel_rfl) (by kernel_rfl) (by kernel_rfl) (fun _ _ _ h => h) ?y25 hS ?_
              case y25 => first | (refine Or.inr ⟨by rfl, ?_⟩; with_reducible rfl) | (refine Or.inl ⟨by rfl, ?_⟩; intro wS hSw; obtain ⟨c0, c1, c2, c3, c4, c5, c6⟩ := deedO_cells hSw; go_simp; try with_reducible rfl)
              simp only [Act.put, List.setIfInBounds_toArray, List.set_cons_zero, List.set_cons_succ]
              refine wpAnyH_take (i := 6) (oi := ⟨_, _, _, _, _, _⟩) (v := ?v26) rfl (by kernel_rfl) (by kernel_rfl) (by kernel_rfl) (fun _ _ _ h => h) ?y26 hS ?_
              case y26 => first | (refine Or.inr ⟨by rfl, ?_⟩; with_reducible rfl) | (refine Or.inl ⟨by rfl, ?_⟩; intro wS hSw; obtain ⟨c0, c1, c2, c3, c4, c5, c6⟩ := deedO_cells hSw; go_simp; try with_reducible rfl)
              simp only [Act.put, List.setIfInBounds_toArray, List.set_cons_zero, List.set_cons_succ]
              refine wpAnyH_take (i := 7) (oi := ⟨_, _, _, _, _, _⟩) (v := ?v27) rfl (by kernel_rfl) (by kernel_rfl) (by kernel_rfl) (fun _ _ _ h => h) ?y27 hS ?_
              case y27 => first | (refine Or.inr ⟨by rfl, ?_⟩; with_reducible rfl) | (refine Or.inl ⟨by rfl, ?_⟩; intro wS hSw; obtain ⟨c0, c1, c2, c3, c4, c5, c6⟩ := deedO_cells hSw; go_simp; try with_reducible rfl)
              simp only [Act.put, List.setIfInBounds_toArray, List.set_cons_zero, List.set_cons_succ]
              refine wpAnyH_take (i := 8) (oi := ⟨_, _, _, _, _, _⟩) (v := ?v28) rfl (by kernel_rfl) (by kernel_rfl) (by kernel_rfl) (fun _ _ _ h => h) ?y28 hS ?_
              case y28 => first | (refine Or.inr ⟨by rfl, ?_⟩; with_reducible rfl) | (refine Or.inl ⟨by rfl, ?_⟩; intro wS hSw; obtain ⟨c0, c1, c2, c3, c4, c5, c6⟩ := deedO_cells hSw; go_simp; try with_reducible rfl)
              simp only [Act.put, List.setIfInBounds_toArray, List.set_cons_zero, List.set_cons_succ]
              refine wpAnyH_take (i := 9) (oi := ⟨_, _, _, _, _, _⟩) (v := ?v29) rfl (by kernel_rfl) (by kernel_rfl) (by kernel_rfl) (fun _ _ _ h => h) ?y29 hS ?_
              case y29 => first | (refine Or.inr ⟨by rfl, ?_⟩; with_reducible rfl) | (refine Or.inl ⟨by rfl, ?_⟩; intro wS hSw; obtain ⟨c0, c1, c2, c3, c4, c5, c6⟩ := deedO_cells hSw; go_simp; try with_reducible rfl)
              simp only [Act.put, List.setIfInBounds_toArray, List.set_cons_zero, List.set_cons_succ]
              refine wpAnyH_take (i := 10) (oi := ⟨_, _, _, _, _, _⟩) (v := ?v30) rfl (by kernel_rfl) (by kernel_rfl) (by kernel_rfl) (fun _ _ _ h => h) ?y30 hS ?_
              case y30 => first | (refine Or.inr ⟨by rfl, ?_⟩; with_reducible rfl) | (refine Or.inl ⟨by rfl, ?_⟩; intro wS hSw; obtain ⟨c0, c1, c2, c3, c4, c5, c6⟩ := deedO_cells hSw; go_simp; try with_reducible rfl)
              simp only [Act.put, List.setIfInBounds_toArray, List.set_cons_zero, List.set_cons_succ]
              refine wpAnyH_ready (rs := [5]) (by kernel_rfl) (by simp) ?_
              refine AllReadyH.cons (o := ⟨_, _, _, _, _, _⟩) rfl (fun K hK => ?_) AllReadyH.nil
              go_simp
              refine (de_farText _ d.s d.place HDr.out (by have := HSz.out; omega)).mono ?_
              rintro e wx ⟨rfl, hD⟩; have hS := DE.box _ hD
              go_wp2_with fail
              refine hK.out _ _ hS (fun _ => ?_)
              clear hK K
              try simp only [Act.put, List.setIfInBounds_toArray, List.set_cons_zero, List.set_cons_succ]
              refine wpAnyH_ready (rs := [11]) (by kernel_rfl) (by simp) ?_
              refine AllReadyH.cons (o := ⟨_, _, _, _, _, _⟩) rfl (fun K hK => ?_) AllReadyH.nil
              go_simp
              refine (de_docText wx d.s d.place hD HLn.out (by have := HSz.out; omega)).mono ?_
              rintro e wy ⟨rfl, hD2⟩; have hS := DE.box _ hD2
              go_wp2_with fail
              refine hK.out _ _ hS (fun _ => ?_)
              clear hK K
              try simp only [Act.put, List.setIfInBounds_toArray, List.set_cons_zero, List.set_cons_succ]
              refine wpAnyH_take (i := 12) (oi := ⟨_, _, _, _, _, _⟩) (v := ?v31) rfl (by kernel_rfl) (by kernel_rfl) (by kernel_rfl) (fun _ _ _ h => h) ?y31 hS ?_
              case y31 => first | (refine Or.inr ⟨by rfl, ?_⟩; with_reducible rfl) | (refine Or.inl ⟨by rfl, ?_⟩; intro wS hSw; obtain ⟨c0, c1, c2, c3, c4, c5, c6⟩ := deedO_cells hSw; go_simp; try with_reducible rfl)
              simp only [Act.put, List.setIfInBounds_toArray, List.set_cons_zero, List.set_cons_succ]
              refine wpAnyH_take (i := 13) (oi := ⟨_, _, _, _, _, _⟩) (v := ?v32) rfl (by kernel_rfl) (by kernel_rfl) (by kernel_rfl) (fun _ _ _ h => h) ?y32 hS ?_
              case y32 => first | (refine Or.inr ⟨by rfl, ?_⟩; with_reducible rfl) | (refine Or.inl ⟨by rfl, ?_⟩; intro wS hSw; obtain ⟨c0, c1, c2, c3, c4, c5, c6⟩ := deedO_cells hSw; go_simp; try with_reducible rfl)
              simp only [Act.put, List.setIfInBounds_toArray, List.set_cons_zero, List.set_cons_succ]
              refine wpAnyH_done (by kernel_rfl) ?_ _
              go_wp2_with fail
              go_meet
              exact ⟨by simp, _, _, hD2, HR.out.text _ _ _⟩
            · clear hpr
              go_wp2_with fail
              refine (de_farBegin _ HD2.out HSn.out).mono ?_
              rintro e w2 ⟨rfl, hD⟩
              have HD3 := Lib.hid hD
              clear hD
              go_wp2_with fail
              refine (de_docBegin _ HD3.out HLn.out HSn.out).mono ?_
              rintro e w3 ⟨rfl, hD⟩
              have HD4 := Lib.hid hD
              clear hD
              go_wp2_with fail
              go_meet
              exact ⟨by simp, _, _, HD4.out, HR.out.begin⟩
            · clear hpr
              rcases List.eq_nil_or_concat S with rfl | ⟨S0, s, rfl⟩
              · go_wp2_with fail
                refine (de_farEnd_one _ HD2.out).mono ?_
                rintro e w2 ⟨rfl, hD⟩
                have HD3 := Lib.hid hD
                clear hD
                go_wp2_with fail
                refine (de_docEnd_none _ HD3.out).mono ?_
                rintro e w3 ⟨rfl, hD⟩
                have HD4 := Lib.hid hD
                clear hD
                go_wp2_with fail
                go_meet
                exact ⟨by simp, _, _, HD4.out, HR.out.mono⟩
              · have HSn0 : Hid (S0.length ≤ 900000) := Lib.hid (by have := HSn.out; simp at this; omega)
                rw [List.concat_eq_append] at HD2 HR HLn
                have HPs : Hid (Pos s) := Lib.hid (HR.out.ps s (by simp))
                have HPt : Hid (Pos T) := Lib.hid HR.out.pt
                obtain ⟨m, hm'⟩ : ∃ m, m = (sumP T).1 := ⟨_, rfl⟩
                have HM := Lib.hid hm'
                have hmm : (m == m) = true := by simp
                clear hm'
                go_wp2_with fail
                refine (de_farEnd _ s HD2.out HPs.out HPt.out HSn0.out).mono ?_
                rintro e w2 ⟨rfl, hD⟩
                have HD3 := Lib.hid hD
                clear hD
                rw [← HM.out]
                go_wp2_with fail
                refine (de_docEnd _ s HD3.out HLn.out HSn0.out HPt.out).mono ?_
                rintro e w3 ⟨rfl, hD⟩
                have HD4 := Lib.hid hD
                clear hD
                rw [← HM.out]
                go_wp2_with fail
                go_meet
                exact ⟨by simp, _, _, HD4.out, HR.out.shut⟩
            · clear hpr
              obtain ⟨c0, c1, c2, c3, c4, c5, c6⟩ := deedO_cells (DE.box _ HD2.out)
              go_wp2_with fail
              refine (de_farMiss _ d.c d.place HD2.out).mono ?_
              rintro e w2 ⟨rfl, hD⟩
              have HD3 := Lib.hid hD
              clear hD c0 c1 c2 c3 c4 c5 c6
              obtain ⟨c0, c1, c2, c3, c4, c5, c6⟩ := deedO_cells (DE.box _ HD3.out)
              go_wp2_with fail
              refine (de_docMiss _ d.c d.place HD3.out HLn.out).mono ?_
              rintro e w3 ⟨rfl, hD⟩
              have HD4 := Lib.hid hD
              clear hD c0 c1 c2 c3 c4 c5 c6
              go_wp2_with fail
              go_meet
              exact ⟨rfl, _, _, HD4.out, HR.out.miss _ _⟩
          case rest =>
            obtain ⟨rfl, S', T', hD, hR⟩ := hcut
            have HD5 : Hid (DE w wc a r x (.slice ao W.length cap) d W S' T' S' T') := Lib.hid hD
            have HR5 := Lib.hid hR
            have HSn : Hid (S'.length ≤ 900000) := Lib.hid (by have := hR.ls; omega)
            have HLn : Hid ((S'.flatten ++ T').length ≤ 1000000) := Lib.hid (by have := hR.ll; omega)
            obtain ⟨m, hm'⟩ : ∃ m, m = (sumP T').1 := ⟨_, rfl⟩
            have HM := Lib.hid hm'
            have hmm : (m != m) = false := by simp
            have hneq := eqv_neq
            have hgrd := eqv_guard
            have hself := clEq_self
            clear hD hR hm' hpr
            go_wp2_with fail
            refine (de_farFar _ HD5.out).mono ?_
            rintro e w2 ⟨rfl, hD⟩
            have HD6 := Lib.hid hD
            clear hD
            rw [← HM.out]
            go_wp2_with fail
            refine (de_docFar _ HD6.out HLn.out HSn.out HR5.out.pt).mono ?_
            rintro e w3 ⟨rfl, hD⟩
            have HD7 := Lib.hid hD
            clear hD
            rw [← HM.out]
            go_wp2_with fail
            refine (de_farHoped _ HD7.out).mono ?_
            rintro e w4' ⟨rfl, hD⟩
            have HD8 := Lib.hid hD
            clear hD
            go_wp2_with fail
            refine (de_docHoped _ HD8.out HLn.out HSn.out HR5.out.pt).mono ?_
            rintro e w5' ⟨rfl, hD⟩
            have HD9 := Lib.hid hD
            clear hD
            go_wp2_with fail
            go_roundw
            case rel => exact ⟨k + 1, S', T', by omega, by go_num, DD.back HD9.out, HR5.out⟩
            case measure => simp [intOf] <;> omega
      · obtain rfl : k = l.length := by omega
        have hkl : ¬ (l.length : Int) < l.length := by omega
        go_wp2_with fail
        refine (awake_any wr).mono ?_
        rintro e w9 ⟨rfl, hb9⟩
        go_wp2
        go_ret
        exact ⟨rfl, HB.out.under.trans (hb9.mono HB.out.under.size)⟩
  · have hnI : (n : Int) > 400 := by omega
    clear hn
    go_wp2_with fail
    refine (awake_any w1).mono ?_
    rintro e w9 ⟨rfl, hb9⟩
    go_wp2
    go_ret
    exact ⟨rfl, HB1.out.trans (hb9.mono HB1.out.size)⟩
end Go.Proofs.Ytfhgmnlhmfnckaa
