/-
  ArenaDoes: the walk.
-/
import Derived.Test.YtonnolhhgeekpaaDa
import Derived.Test.YtonnolhhgeekpaaC
import Derived.Deep.DeepCutAuto
import Derived.Deep.CutBlock
namespace Go.Proofs.Ytonnolhhgeekpaa
open Go.RowKit

theorem gen_world {P : Program} {c : Code} {Q : Exit → Act → World → Prop} {a : Act} {w : World} (S : World → Prop) (h : S w) (k : ∀ w', S w' → c.wp P Q a w') : c.wp P Q a w := k w h
/-- the copy of a deed. -/
def deedO (d : Deed) (ao : Option Addr) (cap : Nat) : Obj := .cells #[.int .i64 d.what, .int .i64 d.n, .int .i64 d.x, .slice ao d.l.length cap] 41 (0, 0)
theorem deedO_cells {w : World} {x : Nat} {d : Deed} {ao : Option Addr} {cap : Nat} (h : w.heap[x]? = some (deedO d ao cap)) : w.cell? ⟨x, 0, none⟩ = some (.int .i64 d.what) ∧ w.cell? ⟨x, 1, none⟩ = some (.int .i64 d.n) ∧ w.cell? ⟨x, 2, none⟩ = some (.int .i64 d.x) ∧ w.cell? ⟨x, 3, none⟩ = some (.slice ao d.l.length cap) :=
  ⟨(block_cell' h 0).1, (block_cell' h 1).1, (block_cell' h 2).1, (block_cell' h 3).1⟩
theorem eqv_neq (a : Int) : (a != a) = false := by simp

theorem setE_ne (zs : List Int) (n : Int) : (setE zs n != setE zs n) = false := by simp
theorem sumD_lt (l : List Deed) {k : Nat} (h : k < l.length) : sumD (l.take k) + l[k].l.length ≤ sumD l := by rw [← sumD_take l h]; exact sumD_le l _
theorem da_init {w w2 : World} {v : Value} {most : Nat} (hI : IAr w.heap.size w2 w.heap.size v (iv []) most 0) (hv : v = .slice none 0 0) (hb : Below w.heap.size w w2) :
    DA w (w2.alloc (.cells #[.int .i64 most, .int .i64 0, .slice none 0 0] 39)) w.heap.size w2.heap.size [] [] 0 0 most [] := by
  have hal : Below w2.heap.size w2 (w2.alloc (.cells #[.int .i64 most, .int .i64 0, .slice none 0 0] 39)) := (Below.refl _ _).alloc (Nat.le_refl _) _
  refine ⟨v, .slice none 0 0, hb.trans (hal.mono hb.size), Nat.le_refl _, hb.size, hI.later hal, ⟨heap_alloc_new _ _, World.ownsRow_nil _ _ _ _, hI.2.2.2.1⟩, fun k hk => ?_, fun p hp => by simp at hp⟩
  rw [hv] at hk
  simp [Value.ownBlock] at hk
theorem take4 {p : Int} (h : p = 3) : (p == 0) = false ∧ (p == 1) = false ∧ (p == 2) = false := by subst h; decide

set_option maxRecDepth 100000 in
set_option maxHeartbeats 40000000 in
theorem arenaDoes_main (w : World) (room : Int) (u : Value) (l : List Deed) (hwf : (Lit.int .i64 room).wf = true) (hu : DeedsAt w u l) (h9 : l.length ≤ 140737488351232) :
    Calls Try.prog 4 #[.int .i64 room, u] w fun e w' => e = .returned (.bool true) ∧ Below w.heap.size w w' := by
  have HU := Lib.hid hu
  have HSz := Lib.hid (law_size w u l hu h9)
  obtain ⟨ao, cap, rfl, hlc, hcm, hcell⟩ := hu.cells
  have Hcu := Lib.hid hcell
  have Hr := Lib.hid (wf_i64 hwf)
  clear hcell hwf hu
  go_enter Try.func4, Try.ntmps4
  go_wp2_with fail
  refine HSz.out.mono ?_
  rintro e w1 ⟨n, rfl, hn, rfl⟩
  have Hn := Lib.hid hn
  clear hn HSz
  by_cases h4 : 400 < n
  · have h4I : (n : Int) > 400 := by omega
    go_wp2_with fail
    refine (awake_any _).mono ?_
    rintro e w' ⟨rfl, hb⟩
    go_wp2
    go_ret
    exact ⟨rfl, hb⟩
  · have h4I : ¬ (n : Int) > 400 := by omega
    by_cases h6 : 60 < l.length
    · have h6I : (l.length : Int) > 60 := by omega
      go_wp2_with fail
      refine (awake_any _).mono ?_
      rintro e w' ⟨rfl, hb⟩
      go_wp2
      go_ret
      exact ⟨rfl, hb⟩
    · have h6I : ¬ (l.length : Int) > 60 := by omega
      have hsum := Hn.out (by omega)
      have hs4 : l.length + sumD l ≤ 400 := by omega
      clear hsum Hn
      by_cases h0 : room < 0
      · go_wp2_with fail
        refine (Inew_neg room _ h0).mono ?_
        rintro e w' ⟨rfl, rfl⟩
        have hb0 := Lib.hid ((Below.refl w.heap.size w).alloc (Nat.le_refl _) (.cells #[.int .i64 room, .int .i64 0, .slice none 0 0] 39))
        go_wp2_with fail
        refine (awake_any _).mono ?_
        rintro e w' ⟨rfl, hb⟩
        go_wp2
        go_ret
        exact ⟨rfl, hb0.out.trans (hb.mono hb0.out.size)⟩
      · obtain ⟨most, rfl⟩ : ∃ m : Nat, room = m := ⟨room.toNat, by omega⟩
        have hmost : most ≤ 9223372036854775807 := by have := Hr.out; omega
        have h0I : ¬ (most : Int) < 0 := by omega
        clear h0
        go_wp2_with fail
        refine (Inew most _ hmost).mono ?_
        rintro e w2 ⟨rfl, hI, hb⟩
        have HDA := Lib.hid (da_init hI rfl hb)
        clear hI hb
        obtain ⟨a, ha⟩ : ∃ a, a = w.heap.size := ⟨_, rfl⟩
        rw [← ha] at HDA ⊢
        obtain ⟨r, hr⟩ : ∃ r, r = w2.heap.size := ⟨_, rfl⟩
        rw [← hr] at HDA
        have HRr := Lib.hid hr
        clear ha hr
        go_wp2_with fail
        rw [← HRr.out]
        go_loopw [7] (fun i wr => ∃ (k : Nat) (zs : List Int) (pk : Nat), k ≤ l.length ∧ i = .int .i64 k ∧ DA w wr a r zs zs pk pk most [] ∧ zs.length ≤ sumD (l.take k)) (fun i _ => l.length - (intOf i).toNat)
        case atStart => exact ⟨0, [], 0, by omega, rfl, HDA.out, by simp⟩
        case round =>
          obtain ⟨k, zs, pk, hk, rfl, hB, hR⟩ := hrel
          have hz4 : zs.length ≤ 400 := by have := sumD_le l k; omega
          have HB := Lib.hid hB
          have HR := Lib.hid hR
          clear hB hR HDA
          by_cases hlt : k < l.length
          · obtain ⟨b2, off2, rfl, hbl2, d0, d1, d2, d3⟩ := Hcu.out k hlt
            have hok := HU.out.2 l[k] (List.getElem_mem _)
            have hkk := sumD_lt l hlt
            have hk1 := sumD_take l hlt
            obtain ⟨d, hd⟩ : ∃ d, d = l[k] := ⟨_, rfl⟩
            rw [← hd] at d0 d1 d2 d3 hok hkk hk1
            have hbel := HB.out.bel
            replace d0 := cell_later hbel d0
            replace d1 := cell_later hbel d1
            replace d2 := cell_later hbel d2
            replace d3 := cell_later hbel d3
            have hdl : d.l.length ≤ 400 := by omega
            have Hk1 := Lib.hid hk1
            clear hd hbel hkk hk1
            have hlI : (k : Int) < l.length := by omega
            obtain ⟨hw, hat, _⟩ := hok
            obtain ⟨aod, capd, hdv⟩ : ∃ ao cap, d.v = .slice ao d.l.length cap := by
              obtain ⟨ao', _, _, cap', h, _⟩ := hat
              exact ⟨ao', cap', by rw [h]; simp [iv]⟩
            rw [hdv] at hat d3
            have HAt := Lib.hid hat
            clear hdv
            have hDD := HB.out.cons (w' := wr.alloc (deedO d aod capd)) ((Below.refl _ _).alloc (Nat.le_refl _) _) (Nat.le_refl _) (heap_alloc_new _ _)
            have HDD := Lib.hid hDD
            clear hDD hat
            go_wp2_with fail
            refine (pick_any d.what 4 _ (by omega) hw).mono ?_
            rintro e w2p ⟨rfl, rfl⟩
            have hpr : 0 ≤ d.what % 4 ∧ d.what % 4 < 4 := by omega
            obtain ⟨p, hpd⟩ : ∃ p, p = d.what % 4 := ⟨_, rfl⟩
            rw [← hpd] at hpr ⊢
            obtain ⟨x, hxd⟩ : ∃ x, x = wr.heap.size := ⟨_, rfl⟩
            rw [← hxd] at HDD ⊢
            clear hpd hw hxd
            go_upto_block 2 with (fail)
            refine gen_world (S := fun w0 => DA w w0 a r zs zs pk pk most [(x, deedO d aod capd)]) HDD.out (fun wp hD2 => ?_)
            have HD2 := Lib.hid hD2
            clear hD2 HDD d0 d1 d2 d3
            go_cut [9, 10, 11, 12, 13] (fun _ _ _ _ _ w1 => ∃ zs' pk', DA w w1 a r zs' zs' pk' pk' most [(x, deedO d aod capd)] ∧ zs'.length ≤ zs.length + d.l.length)
            case first =>
              rcases (by omega : p = 0 ∨ p = 1 ∨ p = 2 ∨ p = 3) with rfl | rfl | rfl | rfl
              · clear hpr
                have hxw := Lib.hid (lt_of_block (HD2.out.at (p := (x, deedO d aod capd)) (by simp)))
                obtain ⟨c0, c1, c2, c3⟩ := deedO_cells (HD2.out.at (p := (x, deedO d aod capd)) (by simp))
                go_wp2_with fail
                refine (lentInts_any _ d.l wp (HAt.out.later HD2.out.bel) (by omega)).mono ?_
                rintro e w3 ⟨rfl, hL3, hb3⟩
                have HD3 := Lib.hid (HD2.out.cons hb3 (Nat.le_refl _) hL3)
                obtain ⟨g, hg⟩ : ∃ g, g = wp.heap.size := ⟨_, rfl⟩
                rw [← hg] at HD3 ⊢ hxw
                have HLc := Lib.hid (ILentAt.cells (g := g) (t := d.l) (HD3.out.at (p := (g, _)) (by simp)) (by omega))
                clear hL3 hb3 hg c0 c1 c2 c3
                obtain ⟨m, hm⟩ : ∃ m, m = zs.length := ⟨_, rfl⟩
                have Hm := Lib.hid hm
                clear hm
                by_cases hfull : m + d.l.length ≤ most
                · have hne := eqv_neq m
                  have HfA := Lib.hid (da_put_a w3 HD3.out HLc.out (by have := Hm.out; omega) (by omega))
                  go_wp2_with fail
                  refine HfA.out.mono ?_
                  rintro e w4 ⟨rfl, hD4⟩
                  rw [← Hm.out]
                  have HD4 := Lib.hid hD4
                  clear hD4 HfA
                  obtain ⟨c0, c1, c2, c3⟩ := deedO_cells (HD4.out.at (p := (x, deedO d aod capd)) (by simp))
                  go_wp2_with fail
                  refine (da_put_r w4 HD4.out (HAt.out.later HD4.out.bel) (by have := Hm.out; omega) (by omega)).mono ?_
                  rintro e w5 ⟨rfl, hD5⟩
                  rw [← Hm.out]
                  have HD5 := Lib.hid hD5
                  clear hD5 c0 c1 c2 c3
                  obtain ⟨c0, c1, c2, c3⟩ := deedO_cells (HD5.out.at (p := (x, deedO d aod capd)) (by simp))
                  go_wp2_with fail
                  refine (keptInts_any _ d.l g w5 (HAt.out.later HD5.out.bel) (HD5.out.at (p := (g, _)) (by simp)) (by omega)).mono ?_
                  rintro e w6 ⟨rfl, hb6⟩
                  have HD7 := Lib.hid (HD5.out.later hb6)
                  clear hb6 c0 c1 c2 c3
                  go_wp2_with fail
                  refine (overInts_any d.l.length g (iv (imk d.l 12)).toArray w6 (HD7.out.at (p := (g, _)) (by simp)) (by simp [iv, imk]) (by omega)).mono ?_
                  rintro e w7 ⟨rfl, hK7⟩
                  go_wp2_with fail
                  go_meet
                  exact ⟨_, _, HD7.out.over (fun q hq => by simp at hq; subst hq; show x ≠ g; have := hxw.out; omega) hK7, by rw [List.length_append]; omega⟩
                · have HfA := Lib.hid (da_put_a_full w3 HD3.out HLc.out (by have := Hm.out; omega))
                  go_wp2_with fail
                  refine HfA.out.mono ?_
                  rintro e w4 ⟨rfl, hD4⟩
                  have HD4 := Lib.hid hD4
                  clear hD4 HfA
                  obtain ⟨c0, c1, c2, c3⟩ := deedO_cells (HD4.out.at (p := (x, deedO d aod capd)) (by simp))
                  go_wp2_with fail
                  refine (da_put_r_full w4 HD4.out (HAt.out.later HD4.out.bel) (by have := Hm.out; omega) (by omega)).mono ?_
                  rintro e w5 ⟨rfl, hD5⟩
                  have HD5 := Lib.hid hD5
                  clear hD5 c0 c1 c2 c3
                  obtain ⟨c0, c1, c2, c3⟩ := deedO_cells (HD5.out.at (p := (x, deedO d aod capd)) (by simp))
                  go_wp2_with fail
                  refine (keptInts_any _ d.l g w5 (HAt.out.later HD5.out.bel) (HD5.out.at (p := (g, _)) (by simp)) (by omega)).mono ?_
                  rintro e w6 ⟨rfl, hb6⟩
                  have HD7 := Lib.hid (HD5.out.later hb6)
                  clear hb6 c0 c1 c2 c3
                  go_wp2_with fail
                  refine (overInts_any d.l.length g (iv (imk d.l 12)).toArray w6 (HD7.out.at (p := (g, _)) (by simp)) (by simp [iv, imk]) (by omega)).mono ?_
                  rintro e w7 ⟨rfl, hK7⟩
                  go_wp2_with fail
                  go_meet
                  exact ⟨_, _, HD7.out.over (fun q hq => by simp at hq; subst hq; show x ≠ g; have := hxw.out; omega) hK7, by omega⟩
              · clear hpr
                go_upto_region 19 with (fail)
                have HDr := Lib.hid (HD2.out.later (Below.refl wp.heap.size wp).drew)
                refine wp_region_held_drew (S := fun w1 => w1.heap[x]? = some (deedO d aod capd)) (by kernel_rfl) (HDr.out.at (p := (x, deedO d aod capd)) (by simp)) (fun hS => ?_)
                refine wpAnyH_take (i := 0) (oi := ⟨_, _, _, _, _, _⟩) (v := ?v1) rfl (by kernel_rfl) (by kernel_rfl) (by kernel_rfl) (fun _ _ _ h => h) ?y1 hS ?_
                case y1 => first | (refine Or.inr ⟨by rfl, ?_⟩; with_reducible rfl) | (refine Or.inl ⟨by rfl, ?_⟩; intro wS hSw; obtain ⟨c0, c1, c2, c3⟩ := deedO_cells hSw; go_simp; try with_reducible rfl)
                simp only [Act.put, List.setIfInBounds_toArray, List.set_cons_zero, List.set_cons_succ]
                refine wpAnyH_take (i := 1) (oi := ⟨_, _, _, _, _, _⟩) (v := ?v2) rfl (by kernel_rfl) (by kernel_rfl) (by kernel_rfl) (fun _ _ _ h => h) ?y2 hS ?_
                case y2 => first | (refine Or.inr ⟨by rfl, ?_⟩; with_reducible rfl) | (refine Or.inl ⟨by rfl, ?_⟩; intro wS hSw; obtain ⟨c0, c1, c2, c3⟩ := deedO_cells hSw; go_simp; try with_reducible rfl)
                simp only [Act.put, List.setIfInBounds_toArray, List.set_cons_zero, List.set_cons_succ]
                refine wpAnyH_take (i := 2) (oi := ⟨_, _, _, _, _, _⟩) (v := ?v3) rfl (by kernel_rfl) (by kernel_rfl) (by kernel_rfl) (fun _ _ _ h => h) ?y3 hS ?_
                case y3 => first | (refine Or.inr ⟨by rfl, ?_⟩; with_reducible rfl) | (refine Or.inl ⟨by rfl, ?_⟩; intro wS hSw; obtain ⟨c0, c1, c2, c3⟩ := deedO_cells hSw; go_simp; try with_reducible rfl)
                simp only [Act.put, List.setIfInBounds_toArray, List.set_cons_zero, List.set_cons_succ]
                refine wpAnyH_take (i := 3) (oi := ⟨_, _, _, _, _, _⟩) (v := ?v4) rfl (by kernel_rfl) (by kernel_rfl) (by kernel_rfl) (fun _ _ _ h => h) ?y4 hS ?_
                case y4 => first | (refine Or.inr ⟨by rfl, ?_⟩; with_reducible rfl) | (refine Or.inl ⟨by rfl, ?_⟩; intro wS hSw; obtain ⟨c0, c1, c2, c3⟩ := deedO_cells hSw; go_simp; try with_reducible rfl)
                simp only [Act.put, List.setIfInBounds_toArray, List.set_cons_zero, List.set_cons_succ]
                refine wpAnyH_take (i := 4) (oi := ⟨_, _, _, _, _, _⟩) (v := ?v5) rfl (by kernel_rfl) (by kernel_rfl) (by kernel_rfl) (fun _ _ _ h => h) ?y5 hS ?_
                case y5 => first | (refine Or.inr ⟨by rfl, ?_⟩; with_reducible rfl) | (refine Or.inl ⟨by rfl, ?_⟩; intro wS hSw; obtain ⟨c0, c1, c2, c3⟩ := deedO_cells hSw; go_simp; try with_reducible rfl)
                simp only [Act.put, List.setIfInBounds_toArray, List.set_cons_zero, List.set_cons_succ]
                refine wpAnyH_take (i := 6) (oi := ⟨_, _, _, _, _, _⟩) (v := ?v6) rfl (by kernel_rfl) (by kernel_rfl) (by kernel_rfl) (fun _ _ _ h => h) ?y6 hS ?_
                case y6 => first | (refine Or.inr ⟨by rfl, ?_⟩; with_reducible rfl) | (refine Or.inl ⟨by rfl, ?_⟩; intro wS hSw; obtain ⟨c0, c1, c2, c3⟩ := deedO_cells hSw; go_simp; try with_reducible rfl)
                simp only [Act.put, List.setIfInBounds_toArray, List.set_cons_zero, List.set_cons_succ]
                refine wpAnyH_take (i := 7) (oi := ⟨_, _, _, _, _, _⟩) (v := ?v7) rfl (by kernel_rfl) (by kernel_rfl) (by kernel_rfl) (fun _ _ _ h => h) ?y7 hS ?_
                case y7 => first | (refine Or.inr ⟨by rfl, ?_⟩; with_reducible rfl) | (refine Or.inl ⟨by rfl, ?_⟩; intro wS hSw; obtain ⟨c0, c1, c2, c3⟩ := deedO_cells hSw; go_simp; try with_reducible rfl)
                simp only [Act.put, List.setIfInBounds_toArray, List.set_cons_zero, List.set_cons_succ]
                refine wpAnyH_take (i := 8) (oi := ⟨_, _, _, _, _, _⟩) (v := ?v8) rfl (by kernel_rfl) (by kernel_rfl) (by kernel_rfl) (fun _ _ _ h => h) ?y8 hS ?_
                case y8 => first | (refine Or.inr ⟨by rfl, ?_⟩; with_reducible rfl) | (refine Or.inl ⟨by rfl, ?_⟩; intro wS hSw; obtain ⟨c0, c1, c2, c3⟩ := deedO_cells hSw; go_simp; try with_reducible rfl)
                simp only [Act.put, List.setIfInBounds_toArray, List.set_cons_zero, List.set_cons_succ]
                refine wpAnyH_take (i := 9) (oi := ⟨_, _, _, _, _, _⟩) (v := ?v9) rfl (by kernel_rfl) (by kernel_rfl) (by kernel_rfl) (fun _ _ _ h => h) ?y9 hS ?_
                case y9 => first | (refine Or.inr ⟨by rfl, ?_⟩; with_reducible rfl) | (refine Or.inl ⟨by rfl, ?_⟩; intro wS hSw; obtain ⟨c0, c1, c2, c3⟩ := deedO_cells hSw; go_simp; try with_reducible rfl)
                simp only [Act.put, List.setIfInBounds_toArray, List.set_cons_zero, List.set_cons_succ]
                refine wpAnyH_take (i := 10) (oi := ⟨_, _, _, _, _, _⟩) (v := ?v10) rfl (by kernel_rfl) (by kernel_rfl) (by kernel_rfl) (fun _ _ _ h => h) ?y10 hS ?_
                case y10 => first | (refine Or.inr ⟨by rfl, ?_⟩; with_reducible rfl) | (refine Or.inl ⟨by rfl, ?_⟩; intro wS hSw; obtain ⟨c0, c1, c2, c3⟩ := deedO_cells hSw; go_simp; try with_reducible rfl)
                simp only [Act.put, List.setIfInBounds_toArray, List.set_cons_zero, List.set_cons_succ]
                refine wpAnyH_ready (rs := [5]) (by kernel_rfl) (by simp) ?_
                refine AllReadyH.cons (o := ⟨_, _, _, _, _, _⟩) rfl (fun K hK => ?_) AllReadyH.nil
                go_simp
                refine (da_set_a _ d.n d.x HDr.out).mono ?_
                rintro e wx ⟨rfl, hD⟩; have hS := (hD.at (p := (x, deedO d aod capd)) (by simp))
                go_wp2_with fail
                refine hK.out _ _ hS (fun _ => ?_)
                clear hK K
                try simp only [Act.put, List.setIfInBounds_toArray, List.set_cons_zero, List.set_cons_succ]
                refine wpAnyH_ready (rs := [11]) (by kernel_rfl) (by simp) ?_
                refine AllReadyH.cons (o := ⟨_, _, _, _, _, _⟩) rfl (fun K hK => ?_) AllReadyH.nil
                go_simp
                refine (da_set_r wx d.n d.x hD).mono ?_
                rintro e wy ⟨rfl, hD2⟩; have hS := (hD2.at (p := (x, deedO d aod capd)) (by simp))
                go_wp2_with fail
                refine hK.out _ _ hS (fun _ => ?_)
                clear hK K
                try simp only [Act.put, List.setIfInBounds_toArray, List.set_cons_zero, List.set_cons_succ]
                refine wpAnyH_take (i := 12) (oi := ⟨_, _, _, _, _, _⟩) (v := ?v11) rfl (by kernel_rfl) (by kernel_rfl) (by kernel_rfl) (fun _ _ _ h => h) ?y11 hS ?_
                case y11 => first | (refine Or.inr ⟨by rfl, ?_⟩; with_reducible rfl) | (refine Or.inl ⟨by rfl, ?_⟩; intro wS hSw; obtain ⟨c0, c1, c2, c3⟩ := deedO_cells hSw; go_simp; try with_reducible rfl)
                simp only [Act.put, List.setIfInBounds_toArray, List.set_cons_zero, List.set_cons_succ]
                refine wpAnyH_done (by kernel_rfl) ?_ _
                go_wp2_with fail
                go_meet
                exact ⟨_, _, hD2, by rw [setL_len]; omega⟩
              · clear hpr
                go_upto_region 22 with (fail)
                have HDr := Lib.hid (HD2.out.later (Below.refl wp.heap.size wp).drew)
                refine wp_region_held_drew (S := fun w1 => w1.heap[x]? = some (deedO d aod capd)) (by kernel_rfl) (HDr.out.at (p := (x, deedO d aod capd)) (by simp)) (fun hS => ?_)
                refine wpAnyH_take (i := 0) (oi := ⟨_, _, _, _, _, _⟩) (v := ?v12) rfl (by kernel_rfl) (by kernel_rfl) (by kernel_rfl) (fun _ _ _ h => h) ?y12 hS ?_
                case y12 => first | (refine Or.inr ⟨by rfl, ?_⟩; with_reducible rfl) | (refine Or.inl ⟨by rfl, ?_⟩; intro wS hSw; obtain ⟨c0, c1, c2, c3⟩ := deedO_cells hSw; go_simp; try with_reducible rfl)
                simp only [Act.put, List.setIfInBounds_toArray, List.set_cons_zero, List.set_cons_succ]
                refine wpAnyH_take (i := 1) (oi := ⟨_, _, _, _, _, _⟩) (v := ?v13) rfl (by kernel_rfl) (by kernel_rfl) (by kernel_rfl) (fun _ _ _ h => h) ?y13 hS ?_
                case y13 => first | (refine Or.inr ⟨by rfl, ?_⟩; with_reducible rfl) | (refine Or.inl ⟨by rfl, ?_⟩; intro wS hSw; obtain ⟨c0, c1, c2, c3⟩ := deedO_cells hSw; go_simp; try with_reducible rfl)
                simp only [Act.put, List.setIfInBounds_toArray, List.set_cons_zero, List.set_cons_succ]
                refine wpAnyH_take (i := 2) (oi := ⟨_, _, _, _, _, _⟩) (v := ?v14) rfl (by kernel_rfl) (by kernel_rfl) (by kernel_rfl) (fun _ _ _ h => h) ?y14 hS ?_
                case y14 => first | (refine Or.inr ⟨by rfl, ?_⟩; with_reducible rfl) | (refine Or.inl ⟨by rfl, ?_⟩; intro wS hSw; obtain ⟨c0, c1, c2, c3⟩ := deedO_cells hSw; go_simp; try with_reducible rfl)
                simp only [Act.put, List.setIfInBounds_toArray, List.set_cons_zero, List.set_cons_succ]
                refine wpAnyH_take (i := 4) (oi := ⟨_, _, _, _, _, _⟩) (v := ?v15) rfl (by kernel_rfl) (by kernel_rfl) (by kernel_rfl) (fun _ _ _ h => h) ?y15 hS ?_
                case y15 => first | (refine Or.inr ⟨by rfl, ?_⟩; with_reducible rfl) | (refine Or.inl ⟨by rfl, ?_⟩; intro wS hSw; obtain ⟨c0, c1, c2, c3⟩ := deedO_cells hSw; go_simp; try with_reducible rfl)
                simp only [Act.put, List.setIfInBounds_toArray, List.set_cons_zero, List.set_cons_succ]
                refine wpAnyH_take (i := 5) (oi := ⟨_, _, _, _, _, _⟩) (v := ?v16) rfl (by kernel_rfl) (by kernel_rfl) (by kernel_rfl) (fun _ _ _ h => h) ?y16 hS ?_
                case y16 => first | (refine Or.inr ⟨by rfl, ?_⟩; with_reducible rfl) | (refine Or.inl ⟨by rfl, ?_⟩; intro wS hSw; obtain ⟨c0, c1, c2, c3⟩ := deedO_cells hSw; go_simp; try with_reducible rfl)
                simp only [Act.put, List.setIfInBounds_toArray, List.set_cons_zero, List.set_cons_succ]
                refine wpAnyH_take (i := 6) (oi := ⟨_, _, _, _, _, _⟩) (v := ?v17) rfl (by kernel_rfl) (by kernel_rfl) (by kernel_rfl) (fun _ _ _ h => h) ?y17 hS ?_
                case y17 => first | (refine Or.inr ⟨by rfl, ?_⟩; with_reducible rfl) | (refine Or.inl ⟨by rfl, ?_⟩; intro wS hSw; obtain ⟨c0, c1, c2, c3⟩ := deedO_cells hSw; go_simp; try with_reducible rfl)
                simp only [Act.put, List.setIfInBounds_toArray, List.set_cons_zero, List.set_cons_succ]
                refine wpAnyH_ready (rs := [3]) (by kernel_rfl) (by simp) ?_
                refine AllReadyH.cons (o := ⟨_, _, _, _, _, _⟩) rfl (fun K hK => ?_) AllReadyH.nil
                go_simp
                refine (da_back_a _ d.n HDr.out).mono ?_
                rintro e wx ⟨rfl, hD⟩; have hS := (hD.at (p := (x, deedO d aod capd)) (by simp))
                go_wp2_with fail
                refine hK.out _ _ hS (fun _ => ?_)
                clear hK K
                try simp only [Act.put, List.setIfInBounds_toArray, List.set_cons_zero, List.set_cons_succ]
                refine wpAnyH_ready (rs := [7]) (by kernel_rfl) (by simp) ?_
                refine AllReadyH.cons (o := ⟨_, _, _, _, _, _⟩) rfl (fun K hK => ?_) AllReadyH.nil
                go_simp
                refine (da_back_r wx d.n hD (by omega)).mono ?_
                rintro e wy ⟨rfl, hD2⟩; have hS := (hD2.at (p := (x, deedO d aod capd)) (by simp))
                go_wp2_with fail
                refine hK.out _ _ hS (fun _ => ?_)
                clear hK K
                try simp only [Act.put, List.setIfInBounds_toArray, List.set_cons_zero, List.set_cons_succ]
                refine wpAnyH_take (i := 8) (oi := ⟨_, _, _, _, _, _⟩) (v := ?v18) rfl (by kernel_rfl) (by kernel_rfl) (by kernel_rfl) (fun _ _ _ h => h) ?y18 hS ?_
                case y18 => first | (refine Or.inr ⟨by rfl, ?_⟩; with_reducible rfl) | (refine Or.inl ⟨by rfl, ?_⟩; intro wS hSw; obtain ⟨c0, c1, c2, c3⟩ := deedO_cells hSw; go_simp; try with_reducible rfl)
                simp only [Act.put, List.setIfInBounds_toArray, List.set_cons_zero, List.set_cons_succ]
                refine wpAnyH_done (by kernel_rfl) ?_ _
                go_wp2_with fail
                go_meet
                exact ⟨_, _, hD2, by have := backL_len zs d.n; omega⟩
              · clear hpr
                go_wp2_with fail
                go_meet
                exact ⟨_, _, HD2.out, by omega⟩
            case rest =>
              obtain ⟨zs', pk', hD, hl'⟩ := hcut
              have HD5 := Lib.hid (hD.tail)
              clear hD
              go_wp2_with fail
              refine (da_same wc HD5.out (by omega)).mono ?_
              rintro e w6 ⟨rfl, hD6⟩
              have HD6 := Lib.hid hD6
              clear hD6 HD5
              go_wp2_with fail
              go_roundw
              case rel => exact ⟨k + 1, zs', pk', by omega, by go_num, HD6.out, by have := HR.out; have := Hk1.out; omega⟩
              case measure => simp [intOf] <;> omega
          · obtain rfl : k = l.length := by omega
            have hkl : ¬ (l.length : Int) < l.length := by omega
            go_wp2_with fail
            refine (da_same wr HB.out (by omega)).mono ?_
            rintro e w8 ⟨rfl, hD8⟩
            have HB8 := Lib.hid hD8.bel
            clear hD8
            go_wp2_with fail
            refine (awake_any w8).mono ?_
            rintro e w9 ⟨rfl, hb9⟩
            go_wp2
            go_ret
            exact ⟨rfl, HB8.out.trans (hb9.mono HB8.out.size)⟩
end Go.Proofs.Ytonnolhhgeekpaa
