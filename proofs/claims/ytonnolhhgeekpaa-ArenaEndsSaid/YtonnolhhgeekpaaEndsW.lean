/-
  ArenaEnds: the walk.
-/
import Derived.Test.YtonnolhhgeekpaaEnds5
namespace Go.Proofs.Ytonnolhhgeekpaa
open Go.RowKit Go.Shelf
attribute [local go_sem] Oper.semAt_some

theorem deeds_ok {w : World} {x1 x2 k m : Nat} {e1 e2 : Int} (h1 : w.heap[x1]? = some (.cells (iv (zeros m)).toArray 3 (0, 0))) (h2 : w.heap[x2]? = some (.cells #[.int .i64 (k : Int)] 3 (0, 0))) (hm : m < 4) : ∀ d ∈ ([⟨0, 0, 0, .slice (some ⟨x1, 0, none⟩) m m, zeros m⟩, ⟨1, e1, k, .slice none 0 0, []⟩, ⟨2, e2, 0, .slice none 0 0, []⟩, ⟨0, 0, 0, .slice (some ⟨x2, 0, none⟩) 1 1, [(k : Int)]⟩, ⟨0, 0, 0, .slice none 0 0, []⟩] : List Deed), DO w d := by
  intro d hd
  simp only [List.mem_cons, List.not_mem_nil, or_false] at hd
  rcases hd with rfl | rfl | rfl | rfl | rfl
  · have := DO.block (wh := 0) (n := 0) (x := 0) (l := zeros m) (by decide) h1 (by simp [zeros]; omega)
    simpa [zeros] using this
  · exact DO.nil w (by decide)
  · exact DO.nil w (by decide)
  · exact DO.block (wh := 0) (n := 0) (x := 0) (l := [(k : Int)]) (by decide) h2 (by simp)
  · exact DO.nil w (by decide)

/-- the box of the number. -/
def EB (w0 : World) (NB : Nat) (z : Int) (w : World) : Prop := w.heap[NB]? = some (.cells #[.int .i64 z] 3 (0, 0)) ∧ Below w0.heap.size w0 w
theorem EB.put {w0 w : World} {NB : Nat} {z : Int} (h : EB w0 NB z w) (hN : w0.heap.size ≤ NB) (y : Int) : EB w0 NB y (w.setCell ⟨NB, 0, none⟩ (.int .i64 y)) :=
  ⟨by rw [block_setCell' h.1]; rfl, h.2.setCell (p := ⟨NB, 0, none⟩) hN _⟩
theorem ownFrom_EB {β : Type} {w0 : World} {NB B : Nat} {z : Int} (h1 : w0.heap.size ≤ B) (h2 : NB < B) : OwnFrom B (fun (_ : β) W => EB w0 NB z W) := fun s A C row h hg hrow =>
  ⟨(hg.block _ (lt_of_block h.1) (fun e => by have := (hrow _ e.symm).1; omega)).trans h.1, h.2.grown hg h.2.size (fun k e => by have := (hrow k e).1; omega)⟩

set_option maxRecDepth 100000 in
set_option maxHeartbeats 40000000 in
theorem arenaEnds_main (w : World) : Calls Try.prog 5 #[] w fun e w' => e = .returned (.bool true) ∧ Below w.heap.size w w' := by
  refine (callsIn_wide (n := 9)).1 ?_
  refine callsIn_of_wp_marks Try.func5 rfl trivial ?_ rfl
  simp only [Try.ntmps5, List.size_toArray, List.length_cons, List.length_nil, Nat.reduceAdd, Nat.reduceSub, Array.replicate_succ, Array.replicate_zero, List.push_toArray, List.append_toArray, List.nil_append, List.cons_append]
  refine wpIn_wide.2 (wp_mono (Q := noPanic (bodyPostM Fence.wide 9 Try.prog Try.f5 fun e w' => e = .returned (.bool true) ∧ Below w.heap.size w w')) ?_ (fun e a w h => noPanic_of h))
  go_wp2_with fail
  have hE0 : (w.alloc endsO).heap[w.heap.size]? = some endsO := heap_alloc_new _ _
  have hB0 : Below w.heap.size w (w.alloc endsO) := (Below.refl _ _).alloc (Nat.le_refl _) _
  obtain ⟨E, hE⟩ : ∃ E, E = w.heap.size := ⟨_, rfl⟩
  have HE0 : Hid ((w.alloc endsO).heap[E]? = some endsO) := Lib.hid (by rw [hE]; exact hE0)
  have HB0 := Lib.hid hB0
  rw [← hE]
  clear hE0 hB0 hE
  go_loopw [2, 3, 4] (fun i _ _ wr => ∃ n : Nat, n ≤ 4 ∧ i = .int .i64 ((n : Int) - 1) ∧ wr.heap[E]? = some endsO ∧ Below w.heap.size w wr) (fun i _ _ _ => 4 - (intOf i + 1).toNat)
  case atStart => exact ⟨0, by omega, rfl, HE0.out, HB0.out⟩
  case round =>
    obtain ⟨n, hn, rfl, hen, hbl⟩ := hrel
    have HEo := Lib.hid hen
    have HBo := Lib.hid hbl
    clear hen hbl HE0 HB0
    by_cases hlt : n < 4
    · have hlI : (n : Int) - 1 < 3 := by omega
      go_wp2_with fail
      go_loopw [3, 4] (fun lv j w9 => ∃ (k : Nat) (l : List Deed), k ≤ 7 ∧ j = .int .i64 k ∧ l.length = 5 * k ∧ w9.ownsRow w.heap.size 41 4 lv (5 * k) (l.flatMap deedc) ∧ (∀ d ∈ l, DO w9 d) ∧ w9.heap[E]? = some endsO ∧ Below w.heap.size w w9) (fun _ j _ => 7 - (intOf j).toNat)
      case atStart => exact ⟨0, [], by omega, rfl, rfl, World.ownsRow_nil _ _ _ _, fun d hd => by simp at hd, HEo.out, HBo.out⟩
      case round =>
        obtain ⟨k, l, hk, rfl, hlk, hown, hok, hen, hbl⟩ := hrel
        have HL := Lib.hid hlk
        have HO := Lib.hid hown
        have HK := Lib.hid hok
        have HEn := Lib.hid hen
        have HW := Lib.hid hbl
        clear hlk hown hok hbl hen HEo HBo
        by_cases hk7 : k < 7
        · have hkI : (k : Int) < 7 := by omega
          go_upto_region 9 with (fail)
          obtain ⟨m, t4, hm⟩ : ∃ m : Nat, (k : Int).tmod 4 = (m : Int) ∧ m < 4 := by
            have h := Int.tmod_eq_emod_of_nonneg (a := (k : Int)) (b := 4) (by omega)
            exact ⟨((k : Int) % 4).toNat, by rw [h]; omega, by omega⟩
          have w3 : IntKind.i64.wrap ((k : Int) * 3) = (k : Int) * 3 := IntWalk.i64_in _ (by omega)
          obtain ⟨j, t7, hj7⟩ : ∃ j : Nat, ((k : Int) * 3).tmod 7 = (j : Int) ∧ j < 7 := by
            have h := Int.tmod_eq_emod_of_nonneg (a := (k : Int) * 3) (b := 7) (by omega)
            exact ⟨(((k : Int) * 3) % 7).toNat, by rw [h]; omega, by omega⟩
          have hjI : (j : Int) < 7 := by omega
          obtain ⟨e1, he1⟩ : ∃ e1, e1 = ends k := ⟨_, rfl⟩
          obtain ⟨e2, he2⟩ : ∃ e2, e2 = ends j := ⟨_, rfl⟩
          have HE1 := Lib.hid he1
          have HE2 := Lib.hid he2
          have hmk := make_zeros m hm
          obtain ⟨nfo, hinfo, hz0, hz1, hz2⟩ := info_parts Try.infoDeed5
          clear he1 he2
          refine wp_region_held_drew (S := fun w1 => w1.heap[E]? = some endsO) (by kernel_rfl) HEn.out (fun hS => ?_)
          refine wpAnyH_take (i := 0) (oi := ⟨_, _, _, _, _, _⟩) (v := ?v1) rfl (by kernel_rfl) (by kernel_rfl) (by kernel_rfl) (fun _ _ _ h => h) ?y1 hS ?_
          case y1 => first | (refine Or.inr ⟨by rfl, ?_⟩; with_reducible rfl) | (refine Or.inl ⟨by rfl, ?_⟩; intro wS hSw; have q0 := ends_cell hSw hk7; have q1 := ends_cell hSw hj7; rw [← HE1.out] at q0; rw [← HE2.out] at q1; go_simp; try with_reducible rfl)
          simp only [Act.put, List.setIfInBounds_toArray, List.set_cons_zero, List.set_cons_succ]
          refine wpAnyH_take (i := 1) (oi := ⟨_, _, _, _, _, _⟩) (v := ?v2) rfl (by kernel_rfl) (by kernel_rfl) (by kernel_rfl) (fun _ _ _ h => h) ?y2 hS ?_
          case y2 => first | (refine Or.inr ⟨by rfl, ?_⟩; with_reducible rfl) | (refine Or.inl ⟨by rfl, ?_⟩; intro wS hSw; have q0 := ends_cell hSw hk7; have q1 := ends_cell hSw hj7; rw [← HE1.out] at q0; rw [← HE2.out] at q1; go_simp; try with_reducible rfl)
          simp only [Act.put, List.setIfInBounds_toArray, List.set_cons_zero, List.set_cons_succ]
          refine wpAnyH_take (i := 2) (oi := ⟨_, _, _, _, _, _⟩) (v := ?v3) rfl (by kernel_rfl) (by kernel_rfl) (by kernel_rfl) (fun _ _ _ h => h) ?y3 hS ?_
          case y3 => first | (refine Or.inr ⟨by rfl, ?_⟩; with_reducible rfl) | (refine Or.inl ⟨by rfl, ?_⟩; intro wS hSw; have q0 := ends_cell hSw hk7; have q1 := ends_cell hSw hj7; rw [← HE1.out] at q0; rw [← HE2.out] at q1; go_simp; try with_reducible rfl)
          simp only [Act.put, List.setIfInBounds_toArray, List.set_cons_zero, List.set_cons_succ]
          try simp only [t4]
          refine wpAnyH_take (i := 5) (oi := ⟨_, _, _, _, _, _⟩) (v := ?v4) rfl (by kernel_rfl) (by kernel_rfl) (by kernel_rfl) (fun _ _ _ h => h) ?y4 hS ?_
          case y4 => first | (refine Or.inr ⟨by rfl, ?_⟩; with_reducible rfl) | (refine Or.inl ⟨by rfl, ?_⟩; intro wS hSw; have q0 := ends_cell hSw hk7; have q1 := ends_cell hSw hj7; rw [← HE1.out] at q0; rw [← HE2.out] at q1; go_simp; try with_reducible rfl)
          simp only [Act.put, List.setIfInBounds_toArray, List.set_cons_zero, List.set_cons_succ]
          refine wpAnyH_take (i := 6) (oi := ⟨_, _, _, _, _, _⟩) (v := ?v5) rfl (by kernel_rfl) (by kernel_rfl) (by kernel_rfl) (fun _ _ _ h => h) ?y5 hS ?_
          case y5 => first | (refine Or.inr ⟨by rfl, ?_⟩; with_reducible rfl) | (refine Or.inl ⟨by rfl, ?_⟩; intro wS hSw; have q0 := ends_cell hSw hk7; have q1 := ends_cell hSw hj7; rw [← HE1.out] at q0; rw [← HE2.out] at q1; go_simp; try with_reducible rfl)
          simp only [Act.put, List.setIfInBounds_toArray, List.set_cons_zero, List.set_cons_succ]
          refine wpAnyH_take (i := 7) (oi := ⟨_, _, _, _, _, _⟩) (v := ?v6) rfl (by kernel_rfl) (by kernel_rfl) (by kernel_rfl) (fun _ _ _ h => h) ?y6 hS ?_
          case y6 => first | (refine Or.inr ⟨by rfl, ?_⟩; with_reducible rfl) | (refine Or.inl ⟨by rfl, ?_⟩; intro wS hSw; have q0 := ends_cell hSw hk7; have q1 := ends_cell hSw hj7; rw [← HE1.out] at q0; rw [← HE2.out] at q1; go_simp; try with_reducible rfl)
          simp only [Act.put, List.setIfInBounds_toArray, List.set_cons_zero, List.set_cons_succ]
          try simp only [Int.toNat_natCast]
          refine wpAnyH_take (i := 8) (oi := ⟨_, _, _, _, _, _⟩) (v := ?v7) rfl (by kernel_rfl) (by kernel_rfl) (by kernel_rfl) (fun _ _ _ h => h) ?y7 hS ?_
          case y7 => first | (refine Or.inr ⟨by rfl, ?_⟩; with_reducible rfl) | (refine Or.inl ⟨by rfl, ?_⟩; intro wS hSw; have q0 := ends_cell hSw hk7; have q1 := ends_cell hSw hj7; rw [← HE1.out] at q0; rw [← HE2.out] at q1; go_simp; try with_reducible rfl)
          simp only [Act.put, List.setIfInBounds_toArray, List.set_cons_zero, List.set_cons_succ]
          refine wpAnyH_take (i := 9) (oi := ⟨_, _, _, _, _, _⟩) (v := ?v8) rfl (by kernel_rfl) (by kernel_rfl) (by kernel_rfl) (fun _ _ _ h => h) ?y8 hS ?_
          case y8 => first | (refine Or.inr ⟨by rfl, ?_⟩; with_reducible rfl) | (refine Or.inl ⟨by rfl, ?_⟩; intro wS hSw; have q0 := ends_cell hSw hk7; have q1 := ends_cell hSw hj7; rw [← HE1.out] at q0; rw [← HE2.out] at q1; go_simp; try with_reducible rfl)
          simp only [Act.put, List.setIfInBounds_toArray, List.set_cons_zero, List.set_cons_succ]
          refine wpAnyH_take (i := 10) (oi := ⟨_, _, _, _, _, _⟩) (v := ?v9) rfl (by kernel_rfl) (by kernel_rfl) (by kernel_rfl) (fun _ _ _ h => h) ?y9 hS ?_
          case y9 => first | (refine Or.inr ⟨by rfl, ?_⟩; with_reducible rfl) | (refine Or.inl ⟨by rfl, ?_⟩; intro wS hSw; have q0 := ends_cell hSw hk7; have q1 := ends_cell hSw hj7; rw [← HE1.out] at q0; rw [← HE2.out] at q1; go_simp; try with_reducible rfl)
          simp only [Act.put, List.setIfInBounds_toArray, List.set_cons_zero, List.set_cons_succ]
          refine wpAnyH_take (i := 11) (oi := ⟨_, _, _, _, _, _⟩) (v := ?v10) rfl (by kernel_rfl) (by kernel_rfl) (by kernel_rfl) (fun _ _ _ h => h) ?y10 hS ?_
          case y10 => first | (refine Or.inr ⟨by rfl, ?_⟩; with_reducible rfl) | (refine Or.inl ⟨by rfl, ?_⟩; intro wS hSw; have q0 := ends_cell hSw hk7; have q1 := ends_cell hSw hj7; rw [← HE1.out] at q0; rw [← HE2.out] at q1; go_simp; try with_reducible rfl)
          simp only [Act.put, List.setIfInBounds_toArray, List.set_cons_zero, List.set_cons_succ]
          refine wpAnyH_take (i := 12) (oi := ⟨_, _, _, _, _, _⟩) (v := ?v11) rfl (by kernel_rfl) (by kernel_rfl) (by kernel_rfl) (fun _ _ _ h => h) ?y11 hS ?_
          case y11 => first | (refine Or.inr ⟨by rfl, ?_⟩; with_reducible rfl) | (refine Or.inl ⟨by rfl, ?_⟩; intro wS hSw; have q0 := ends_cell hSw hk7; have q1 := ends_cell hSw hj7; rw [← HE1.out] at q0; rw [← HE2.out] at q1; go_simp; try with_reducible rfl)
          simp only [Act.put, List.setIfInBounds_toArray, List.set_cons_zero, List.set_cons_succ]
          refine wpAnyH_take (i := 13) (oi := ⟨_, _, _, _, _, _⟩) (v := ?v12) rfl (by kernel_rfl) (by kernel_rfl) (by kernel_rfl) (fun _ _ _ h => h) ?y12 hS ?_
          case y12 => first | (refine Or.inr ⟨by rfl, ?_⟩; with_reducible rfl) | (refine Or.inl ⟨by rfl, ?_⟩; intro wS hSw; have q0 := ends_cell hSw hk7; have q1 := ends_cell hSw hj7; rw [← HE1.out] at q0; rw [← HE2.out] at q1; go_simp; try with_reducible rfl)
          simp only [Act.put, List.setIfInBounds_toArray, List.set_cons_zero, List.set_cons_succ]
          try simp only [w3]
          refine wpAnyH_take (i := 14) (oi := ⟨_, _, _, _, _, _⟩) (v := ?v13) rfl (by kernel_rfl) (by kernel_rfl) (by kernel_rfl) (fun _ _ _ h => h) ?y13 hS ?_
          case y13 => first | (refine Or.inr ⟨by rfl, ?_⟩; with_reducible rfl) | (refine Or.inl ⟨by rfl, ?_⟩; intro wS hSw; have q0 := ends_cell hSw hk7; have q1 := ends_cell hSw hj7; rw [← HE1.out] at q0; rw [← HE2.out] at q1; go_simp; try with_reducible rfl)
          simp only [Act.put, List.setIfInBounds_toArray, List.set_cons_zero, List.set_cons_succ]
          try simp only [t7]
          refine wpAnyH_take (i := 15) (oi := ⟨_, _, _, _, _, _⟩) (v := ?v14) rfl (by kernel_rfl) (by kernel_rfl) (by kernel_rfl) (fun _ _ _ h => h) ?y14 hS ?_
          case y14 => first | (refine Or.inr ⟨by rfl, ?_⟩; with_reducible rfl) | (refine Or.inl ⟨by rfl, ?_⟩; intro wS hSw; have q0 := ends_cell hSw hk7; have q1 := ends_cell hSw hj7; rw [← HE1.out] at q0; rw [← HE2.out] at q1; go_simp; try with_reducible rfl)
          simp only [Act.put, List.setIfInBounds_toArray, List.set_cons_zero, List.set_cons_succ]
          try simp only [Int.toNat_natCast]
          refine wpAnyH_take (i := 16) (oi := ⟨_, _, _, _, _, _⟩) (v := ?v15) rfl (by kernel_rfl) (by kernel_rfl) (by kernel_rfl) (fun _ _ _ h => h) ?y15 hS ?_
          case y15 => first | (refine Or.inr ⟨by rfl, ?_⟩; with_reducible rfl) | (refine Or.inl ⟨by rfl, ?_⟩; intro wS hSw; have q0 := ends_cell hSw hk7; have q1 := ends_cell hSw hj7; rw [← HE1.out] at q0; rw [← HE2.out] at q1; go_simp; try with_reducible rfl)
          simp only [Act.put, List.setIfInBounds_toArray, List.set_cons_zero, List.set_cons_succ]
          refine wpAnyH_take (i := 17) (oi := ⟨_, _, _, _, _, _⟩) (v := ?v16) rfl (by kernel_rfl) (by kernel_rfl) (by kernel_rfl) (fun _ _ _ h => h) ?y16 hS ?_
          case y16 => first | (refine Or.inr ⟨by rfl, ?_⟩; with_reducible rfl) | (refine Or.inl ⟨by rfl, ?_⟩; intro wS hSw; have q0 := ends_cell hSw hk7; have q1 := ends_cell hSw hj7; rw [← HE1.out] at q0; rw [← HE2.out] at q1; go_simp; try with_reducible rfl)
          simp only [Act.put, List.setIfInBounds_toArray, List.set_cons_zero, List.set_cons_succ]
          refine wpAnyH_take (i := 18) (oi := ⟨_, _, _, _, _, _⟩) (v := ?v17) rfl (by kernel_rfl) (by kernel_rfl) (by kernel_rfl) (fun _ _ _ h => h) ?y17 hS ?_
          case y17 => first | (refine Or.inr ⟨by rfl, ?_⟩; with_reducible rfl) | (refine Or.inl ⟨by rfl, ?_⟩; intro wS hSw; have q0 := ends_cell hSw hk7; have q1 := ends_cell hSw hj7; rw [← HE1.out] at q0; rw [← HE2.out] at q1; go_simp; try with_reducible rfl)
          simp only [Act.put, List.setIfInBounds_toArray, List.set_cons_zero, List.set_cons_succ]
          refine wpAnyH_take (i := 21) (oi := ⟨_, _, _, _, _, _⟩) (v := ?v18) rfl (by kernel_rfl) (by kernel_rfl) (by kernel_rfl) (fun _ _ _ h => h) ?y18 hS ?_
          case y18 => first | (refine Or.inr ⟨by rfl, ?_⟩; with_reducible rfl) | (refine Or.inl ⟨by rfl, ?_⟩; intro wS hSw; have q0 := ends_cell hSw hk7; have q1 := ends_cell hSw hj7; rw [← HE1.out] at q0; rw [← HE2.out] at q1; go_simp; try with_reducible rfl)
          simp only [Act.put, List.setIfInBounds_toArray, List.set_cons_zero, List.set_cons_succ]
          refine wpAnyH_gen (S' := fun w1 => w1.heap[E]? = some endsO) (T := fun w1 => Below wr.heap.size wr w1 ∧ w1.heap[E]? = some endsO) (fun _ h => h) ⟨(Below.refl _ _).drew, hS⟩ (fun wv hG => ?_)
          have hS := hG.2
          have HG := Lib.hid hG
          clear hG
          refine wpAnyH_ready (rs := [3, 19]) (by kernel_rfl) (by simp) ?_
          refine AllReadyH.cons (o := ⟨_, _, _, _, _, _⟩) rfl (fun K hK => ?_) (AllReadyH.cons (o := ⟨_, _, _, _, _, _⟩) rfl (fun K hK => ?_) AllReadyH.nil)
          · go_simp
            refine hK.out _ _ ((heap_alloc_old _ _ (lt_of_block hS)).trans hS) (fun _ => ?_)
            clear hK K
            try simp only [Act.put, List.setIfInBounds_toArray, List.set_cons_zero, List.set_cons_succ]
            obtain ⟨x1, hx1⟩ : ∃ x1, x1 = wv.heap.size := ⟨_, rfl⟩
            rw [← hx1]
            refine wpAnyH_gen (S' := fun w1 => w1.heap[E]? = some endsO) (T := fun w1 => Below wr.heap.size wr w1 ∧ w1.heap[x1]? = some (.cells (iv (zeros m)).toArray 3 (0, 0)) ∧ w1.heap[E]? = some endsO) (fun _ h => h) (by rw [hx1]; exact ⟨HG.out.1.trans (((Below.refl _ _).alloc (Nat.le_refl _) _).mono HG.out.1.size), heap_alloc_new wv _, (heap_alloc_old _ _ (lt_of_block HG.out.2)).trans HG.out.2⟩) (fun wv hG => ?_)
            have hS := hG.2.2
            have HG := Lib.hid hG
            clear hG hx1
            refine wpAnyH_take (i := 4) (oi := ⟨_, _, _, _, _, _⟩) (v := ?v19) rfl (by kernel_rfl) (by kernel_rfl) (by kernel_rfl) (fun _ _ _ h => h) ?y19 hS ?_
            case y19 => first | (refine Or.inr ⟨by rfl, ?_⟩; with_reducible rfl) | (refine Or.inl ⟨by rfl, ?_⟩; intro wS hSw; go_simp; try with_reducible rfl)
            simp only [Act.put, List.setIfInBounds_toArray, List.set_cons_zero, List.set_cons_succ]
            refine wpAnyH_ready (rs := [19]) (by kernel_rfl) (by simp) ?_
            refine AllReadyH.cons (o := ⟨_, _, _, _, _, _⟩) rfl (fun K hK => ?_) AllReadyH.nil
            go_simp
            refine hK.out _ _ ((heap_alloc_old _ _ (lt_of_block hS)).trans hS) (fun _ => ?_)
            clear hK K
            try simp only [Act.put, List.setIfInBounds_toArray, List.set_cons_zero, List.set_cons_succ]
            obtain ⟨x2, hx2⟩ : ∃ x2, x2 = wv.heap.size := ⟨_, rfl⟩
            rw [← hx2]
            refine wpAnyH_gen (S' := fun w1 => w1.heap[E]? = some endsO) (T := fun w1 => Below wr.heap.size wr w1 ∧ w1.heap[x1]? = some (.cells (iv (zeros m)).toArray 3 (0, 0)) ∧ w1.heap[x2]? = some (.cells #[.int .i64 (k : Int)] 3 (0, 0)) ∧ w1.heap[E]? = some endsO) (fun _ h => h) (by rw [hx2]; exact ⟨HG.out.1.trans (((Below.refl _ _).alloc (Nat.le_refl _) _).mono HG.out.1.size), (heap_alloc_old _ _ (lt_of_block HG.out.2.1)).trans HG.out.2.1, heap_alloc_new wv _, (heap_alloc_old _ _ (lt_of_block HG.out.2.2)).trans HG.out.2.2⟩) (fun wv hG => ?_)
            have hS := hG.2.2.2
            have HG := Lib.hid hG
            clear hG hx2
            refine wpAnyH_take (i := 20) (oi := ⟨_, _, _, _, _, _⟩) (v := ?v20) rfl (by kernel_rfl) (by kernel_rfl) (by kernel_rfl) (fun _ _ _ h => h) ?y20 hS ?_
            case y20 => first | (refine Or.inr ⟨by rfl, ?_⟩; with_reducible rfl) | (refine Or.inl ⟨by rfl, ?_⟩; intro wS hSw; go_simp; try with_reducible rfl)
            simp only [Act.put, List.setIfInBounds_toArray, List.set_cons_zero, List.set_cons_succ]
            refine wpAnyH_ready (rs := [22]) (by kernel_rfl) (by simp) ?_
            refine AllReadyH.cons (o := ⟨_, _, _, _, _, _⟩) rfl (fun K hK => ?_) AllReadyH.nil
            go_simp
            refine hK.out _ _ ((heap_alloc_old _ _ (lt_of_block hS)).trans hS) (fun hS => ?_)
            clear hK K
            try simp only [Act.put, List.setIfInBounds_toArray, List.set_cons_zero, List.set_cons_succ]
            refine wpAnyH_ready (rs := [23]) (by kernel_rfl) (by simp) ?_
            refine AllReadyH.cons (o := ⟨_, _, _, _, _, _⟩) rfl (fun K hK => ?_) AllReadyH.nil
            refine step_append_lies _ (by rfl) _ _ _ (by rfl) w.heap.size 41 nfo _ 4 48 Try.underlying35 hinfo hz0 hz1 hz2 rfl (by omega) u3 (5 * k) (l.flatMap deedc) (by rfl) (((Keeps.ofNew HG.out.1 (fun _ => False)).row HO.out (fun _ _ h => h)).alloc _) ⟨wv.heap.size, 0, none⟩ 5 5 [.int .i64 0, .int .i64 0, .int .i64 0, .slice (some ⟨x1, 0, none⟩) m m, .int .i64 1, .int .i64 e1, .int .i64 k, .slice none 0 0, .int .i64 2, .int .i64 e2, .int .i64 0, .slice none 0 0, .int .i64 0, .int .i64 0, .int .i64 0, .slice (some ⟨x2, 0, none⟩) 1 1, .int .i64 0, .int .i64 0, .int .i64 0, .slice none 0 0] (by rfl) (by rfl) (World.news_of_block (cs := #[.int .i64 0, .int .i64 0, .int .i64 0, .slice (some ⟨x1, 0, none⟩) m m, .int .i64 1, .int .i64 e1, .int .i64 k, .slice none 0 0, .int .i64 2, .int .i64 e2, .int .i64 0, .slice none 0 0, .int .i64 0, .int .i64 0, .int .i64 0, .slice (some ⟨x2, 0, none⟩) 1 1, .int .i64 0, .int .i64 0, .int .i64 0, .slice none 0 0]) (t := 41) (fr := (0, 0)) (heap_alloc_new wv _)) (by simp [Value.oneCell']) (by omega) (by unfold maxLen; omega) (by omega) (by have := HW.out.size; have := HG.out.1.size; simp; omega) (wv.heap.size + 1) (by simp) ?_
            intro g cap3 w2 hown2 hgrow hat hlt2
            have hcl := round_close (ds := [⟨0, 0, 0, .slice (some ⟨x1, 0, none⟩) m m, zeros m⟩, ⟨1, e1, k, .slice none 0 0, []⟩, ⟨2, e2, 0, .slice none 0 0, []⟩, ⟨0, 0, 0, .slice (some ⟨x2, 0, none⟩) 1 1, [(k : Int)]⟩, ⟨0, 0, 0, .slice none 0 0, []⟩]) HL.out (m := 5) rfl HW.out HO.out HG.out.1 HK.out (deeds_ok HG.out.2.1 HG.out.2.2.1 hm) HG.out.2.2.2 hown2 hgrow
            have HCL := Lib.hid hcl
            refine hK.out _ _ HCL.out.2.2.2 (fun hS => ?_)
            clear hK K
            try simp only [Act.put, List.setIfInBounds_toArray, List.set_cons_zero, List.set_cons_succ]
            clear hcl hown2 hgrow hat hlt2
            refine wpAnyH_take (i := 24) (oi := ⟨_, _, _, _, _, _⟩) (v := ?v21) rfl (by kernel_rfl) (by kernel_rfl) (by kernel_rfl) (fun _ _ _ h => h) ?y21 hS ?_
            case y21 => first | (refine Or.inr ⟨by rfl, ?_⟩; with_reducible rfl) | (refine Or.inl ⟨by rfl, ?_⟩; intro wS hSw; go_simp; try with_reducible rfl)
            simp only [Act.put, List.setIfInBounds_toArray, List.set_cons_zero, List.set_cons_succ]
            refine wpAnyH_done (by kernel_rfl) ?_ _
            go_wp2_with fail
            go_roundw
            case rel => exact ⟨k + 1, l ++ [⟨0, 0, 0, .slice (some ⟨x1, 0, none⟩) m m, zeros m⟩, ⟨1, e1, k, .slice none 0 0, []⟩, ⟨2, e2, 0, .slice none 0 0, []⟩, ⟨0, 0, 0, .slice (some ⟨x2, 0, none⟩) 1 1, [(k : Int)]⟩, ⟨0, 0, 0, .slice none 0 0, []⟩], by omega, by go_num, by simp [HL.out]; omega, by rw [show 5 * (k + 1) = 5 * k + 5 by omega]; exact HCL.out.2.1, HCL.out.2.2.1, HCL.out.2.2.2, HCL.out.1⟩
            case measure => simp [intOf] <;> omega
          · go_simp
            refine hK.out _ _ ((heap_alloc_old _ _ (lt_of_block hS)).trans hS) (fun _ => ?_)
            clear hK K
            try simp only [Act.put, List.setIfInBounds_toArray, List.set_cons_zero, List.set_cons_succ]
            obtain ⟨x2, hx2⟩ : ∃ x2, x2 = wv.heap.size := ⟨_, rfl⟩
            rw [← hx2]
            refine wpAnyH_gen (S' := fun w1 => w1.heap[E]? = some endsO) (T := fun w1 => Below wr.heap.size wr w1 ∧ w1.heap[x2]? = some (.cells #[.int .i64 (k : Int)] 3 (0, 0)) ∧ w1.heap[E]? = some endsO) (fun _ h => h) (by rw [hx2]; exact ⟨HG.out.1.trans (((Below.refl _ _).alloc (Nat.le_refl _) _).mono HG.out.1.size), heap_alloc_new wv _, (heap_alloc_old _ _ (lt_of_block HG.out.2)).trans HG.out.2⟩) (fun wv hG => ?_)
            have hS := hG.2.2
            have HG := Lib.hid hG
            clear hG hx2
            refine wpAnyH_take (i := 20) (oi := ⟨_, _, _, _, _, _⟩) (v := ?v22) rfl (by kernel_rfl) (by kernel_rfl) (by kernel_rfl) (fun _ _ _ h => h) ?y22 hS ?_
            case y22 => first | (refine Or.inr ⟨by rfl, ?_⟩; with_reducible rfl) | (refine Or.inl ⟨by rfl, ?_⟩; intro wS hSw; go_simp; try with_reducible rfl)
            simp only [Act.put, List.setIfInBounds_toArray, List.set_cons_zero, List.set_cons_succ]
            refine wpAnyH_ready (rs := [3]) (by kernel_rfl) (by simp) ?_
            refine AllReadyH.cons (o := ⟨_, _, _, _, _, _⟩) rfl (fun K hK => ?_) AllReadyH.nil
            go_simp
            refine hK.out _ _ ((heap_alloc_old _ _ (lt_of_block hS)).trans hS) (fun _ => ?_)
            clear hK K
            try simp only [Act.put, List.setIfInBounds_toArray, List.set_cons_zero, List.set_cons_succ]
            obtain ⟨x1, hx1⟩ : ∃ x1, x1 = wv.heap.size := ⟨_, rfl⟩
            rw [← hx1]
            refine wpAnyH_gen (S' := fun w1 => w1.heap[E]? = some endsO) (T := fun w1 => Below wr.heap.size wr w1 ∧ w1.heap[x1]? = some (.cells (iv (zeros m)).toArray 3 (0, 0)) ∧ w1.heap[x2]? = some (.cells #[.int .i64 (k : Int)] 3 (0, 0)) ∧ w1.heap[E]? = some endsO) (fun _ h => h) (by rw [hx1]; exact ⟨HG.out.1.trans (((Below.refl _ _).alloc (Nat.le_refl _) _).mono HG.out.1.size), heap_alloc_new wv _, (heap_alloc_old _ _ (lt_of_block HG.out.2.1)).trans HG.out.2.1, (heap_alloc_old _ _ (lt_of_block HG.out.2.2)).trans HG.out.2.2⟩) (fun wv hG => ?_)
            have hS := hG.2.2.2
            have HG := Lib.hid hG
            clear hG hx1
            refine wpAnyH_take (i := 4) (oi := ⟨_, _, _, _, _, _⟩) (v := ?v23) rfl (by kernel_rfl) (by kernel_rfl) (by kernel_rfl) (fun _ _ _ h => h) ?y23 hS ?_
            case y23 => first | (refine Or.inr ⟨by rfl, ?_⟩; with_reducible rfl) | (refine Or.inl ⟨by rfl, ?_⟩; intro wS hSw; go_simp; try with_reducible rfl)
            simp only [Act.put, List.setIfInBounds_toArray, List.set_cons_zero, List.set_cons_succ]
            refine wpAnyH_ready (rs := [22]) (by kernel_rfl) (by simp) ?_
            refine AllReadyH.cons (o := ⟨_, _, _, _, _, _⟩) rfl (fun K hK => ?_) AllReadyH.nil
            go_simp
            refine hK.out _ _ ((heap_alloc_old _ _ (lt_of_block hS)).trans hS) (fun hS => ?_)
            clear hK K
            try simp only [Act.put, List.setIfInBounds_toArray, List.set_cons_zero, List.set_cons_succ]
            refine wpAnyH_ready (rs := [23]) (by kernel_rfl) (by simp) ?_
            refine AllReadyH.cons (o := ⟨_, _, _, _, _, _⟩) rfl (fun K hK => ?_) AllReadyH.nil
            refine step_append_lies _ (by rfl) _ _ _ (by rfl) w.heap.size 41 nfo _ 4 48 Try.underlying35 hinfo hz0 hz1 hz2 rfl (by omega) u3 (5 * k) (l.flatMap deedc) (by rfl) (((Keeps.ofNew HG.out.1 (fun _ => False)).row HO.out (fun _ _ h => h)).alloc _) ⟨wv.heap.size, 0, none⟩ 5 5 [.int .i64 0, .int .i64 0, .int .i64 0, .slice (some ⟨x1, 0, none⟩) m m, .int .i64 1, .int .i64 e1, .int .i64 k, .slice none 0 0, .int .i64 2, .int .i64 e2, .int .i64 0, .slice none 0 0, .int .i64 0, .int .i64 0, .int .i64 0, .slice (some ⟨x2, 0, none⟩) 1 1, .int .i64 0, .int .i64 0, .int .i64 0, .slice none 0 0] (by rfl) (by rfl) (World.news_of_block (cs := #[.int .i64 0, .int .i64 0, .int .i64 0, .slice (some ⟨x1, 0, none⟩) m m, .int .i64 1, .int .i64 e1, .int .i64 k, .slice none 0 0, .int .i64 2, .int .i64 e2, .int .i64 0, .slice none 0 0, .int .i64 0, .int .i64 0, .int .i64 0, .slice (some ⟨x2, 0, none⟩) 1 1, .int .i64 0, .int .i64 0, .int .i64 0, .slice none 0 0]) (t := 41) (fr := (0, 0)) (heap_alloc_new wv _)) (by simp [Value.oneCell']) (by omega) (by unfold maxLen; omega) (by omega) (by have := HW.out.size; have := HG.out.1.size; simp; omega) (wv.heap.size + 1) (by simp) ?_
            intro g cap3 w2 hown2 hgrow hat hlt2
            have hcl := round_close (ds := [⟨0, 0, 0, .slice (some ⟨x1, 0, none⟩) m m, zeros m⟩, ⟨1, e1, k, .slice none 0 0, []⟩, ⟨2, e2, 0, .slice none 0 0, []⟩, ⟨0, 0, 0, .slice (some ⟨x2, 0, none⟩) 1 1, [(k : Int)]⟩, ⟨0, 0, 0, .slice none 0 0, []⟩]) HL.out (m := 5) rfl HW.out HO.out HG.out.1 HK.out (deeds_ok HG.out.2.1 HG.out.2.2.1 hm) HG.out.2.2.2 hown2 hgrow
            have HCL := Lib.hid hcl
            refine hK.out _ _ HCL.out.2.2.2 (fun hS => ?_)
            clear hK K
            try simp only [Act.put, List.setIfInBounds_toArray, List.set_cons_zero, List.set_cons_succ]
            clear hcl hown2 hgrow hat hlt2
            refine wpAnyH_take (i := 24) (oi := ⟨_, _, _, _, _, _⟩) (v := ?v24) rfl (by kernel_rfl) (by kernel_rfl) (by kernel_rfl) (fun _ _ _ h => h) ?y24 hS ?_
            case y24 => first | (refine Or.inr ⟨by rfl, ?_⟩; with_reducible rfl) | (refine Or.inl ⟨by rfl, ?_⟩; intro wS hSw; go_simp; try with_reducible rfl)
            simp only [Act.put, List.setIfInBounds_toArray, List.set_cons_zero, List.set_cons_succ]
            refine wpAnyH_done (by kernel_rfl) ?_ _
            go_wp2_with fail
            go_roundw
            case rel => exact ⟨k + 1, l ++ [⟨0, 0, 0, .slice (some ⟨x1, 0, none⟩) m m, zeros m⟩, ⟨1, e1, k, .slice none 0 0, []⟩, ⟨2, e2, 0, .slice none 0 0, []⟩, ⟨0, 0, 0, .slice (some ⟨x2, 0, none⟩) 1 1, [(k : Int)]⟩, ⟨0, 0, 0, .slice none 0 0, []⟩], by omega, by go_num, by simp [HL.out]; omega, by rw [show 5 * (k + 1) = 5 * k + 5 by omega]; exact HCL.out.2.1, HCL.out.2.2.1, HCL.out.2.2.2, HCL.out.1⟩
            case measure => simp [intOf] <;> omega
        · have hkI : ¬ (k : Int) < 7 := by omega
          have hds : DeedsAt wr u3 l := own_deeds HL.out.symm HO.out HK.out
          have HDs := Lib.hid hds
          have hwf : (Lit.int .i64 ((n : Int) - 1)).wf = true := by simp [Lit.wf, IntKind.min, IntKind.max, IntKind.signed, IntKind.bits]; omega
          have HWf := Lib.hid hwf
          clear hds hwf
          go_wp2_with fail
          refine (arenaDoes_main _ _ _ l HWf.out HDs.out (by have := HL.out; omega)).mono ?_
          rintro e w3 ⟨rfl, hb3⟩
          go_wp2_with fail
          go_roundw
          case rel => exact ⟨n + 1, by omega, by go_num, (hb3.block _ (lt_of_block HEn.out)).trans HEn.out, HW.out.trans (hb3.mono HW.out.size)⟩
          case measure => simp [intOf] <;> omega
    · have hlI : ¬ (n : Int) - 1 < 3 := by omega
      clear hlt HEo
      go_wp2_with fail
      refine (new_max wr).mono ?_
      rintro e w2 ⟨M, hM3, rfl, hI, hb2⟩
      have HI := Lib.hid (hI.later ((Below.refl w2.heap.size w2).alloc (Nat.le_refl _) (.cells #[.int .i64 7, .int .i64 8, .int .i64 9] 3)))
      have HB2 := Lib.hid ((HBo.out.trans (hb2.mono HBo.out.size)).alloc (HBo.out.trans (hb2.mono HBo.out.size)).size (.cells #[.int .i64 7, .int .i64 8, .int .i64 9] 3))
      have HC := Lib.hid (three_cells (heap_alloc_new w2 (.cells #[.int .i64 7, .int .i64 8, .int .i64 9] 3)))
      have HSz := Lib.hid (hb2.size)
      have HSw := Lib.hid HBo.out.size
      obtain ⟨x, hx⟩ : ∃ x, x = wr.heap.size := ⟨_, rfl⟩
      rw [← hx] at HI HSz HSw ⊢
      clear hI hb2 hx HBo
      go_wp2_with fail
      refine (Iput _ HI.out HC.out (by simpa [iv] using hM3) (by simp [iv]) (by simp; have := HSz.out; omega)).mono ?_
      rintro e w3 ⟨rfl, va, hI3, hK3, -⟩
      have hB3 := HB2.out.trans (hK3.below HB2.out.size (fun k hk => by rcases hk with rfl | hk; exact HSw.out; simp [Value.ownBlock] at hk))
      have hI3' : IAr x w3 x va (iv [7, 8, 9]) M 3 := by simpa [iv] using hI3
      have HI3 := Lib.hid hI3'
      have HB3 := Lib.hid hB3
      clear hI3 hI3' hK3 hB3 HC HI HB2
      simp only [iv, List.map_nil, List.length_nil]
      go_wp2_with fail
      have hI4 := HI3.out.later ((Below.refl w3.heap.size w3).alloc (Nat.le_refl _) (.cells #[.int .i64 0] 3))
      have hB4 := HB3.out.alloc HB3.out.size (.cells #[.int .i64 0] 3)
      have hN4 := heap_alloc_new w3 (.cells #[.int .i64 0] 3)
      have HI4 := Lib.hid hI4
      have HB4 := Lib.hid hB4
      have HN4 := Lib.hid hN4
      have HNl := Lib.hid HB3.out.size
      clear hI4 hB4 hN4
      have hGN : ∀ k, va.ownBlock = some k → k ≠ w3.heap.size := fun k hk e => by have := (HI3.out.2.1.lt k hk).2; omega
      have HGN := Lib.hid hGN
      clear hGN HI3 HB3
      obtain ⟨NB, hNB⟩ : ∃ NB, NB = w3.heap.size := ⟨_, rfl⟩
      rw [← hNB] at HN4 HNl HGN ⊢
      clear hNB
      generalize w3.alloc (.cells #[.int .i64 0] 3) = w4 at HI4 HB4 HN4 ⊢
      refine (callsIn_wide.1 (all_in 5 (some ⟨x, 0, none⟩) w4)).mono ?_
      rintro e w9 ⟨rfl, rfl⟩
      have HI5 := Lib.hid (HI4.out.later ((Below.refl w4.heap.size w4).alloc (Nat.le_refl _) (.cells #[.pointer (some ⟨x, 0, none⟩)] 24)))
      have HB5 := Lib.hid (HB4.out.alloc HB4.out.size (.cells #[.pointer (some ⟨x, 0, none⟩)] 24))
      have HN5 := Lib.hid ((heap_alloc_old w4 (.cells #[.pointer (some ⟨x, 0, none⟩)] 24) (lt_of_block HN4.out)).trans HN4.out)
      have HBa := Lib.hid (heap_alloc_new w4 (.cells #[.pointer (some ⟨x, 0, none⟩)] 24))
      obtain ⟨Ba, hBaE⟩ : ∃ Ba, Ba = w4.heap.size := ⟨_, rfl⟩
      rw [← hBaE] at HBa
      go_wp2_with fail
      rw [← hBaE]
      clear hBaE HI4 HB4 HN4
      generalize w4.alloc (.cells #[.pointer (some ⟨x, 0, none⟩)] 24) = w5 at HI5 HB5 HN5 HBa ⊢
      obtain ⟨zs, hzs⟩ : ∃ zs : List Int, zs = [7, 8, 9] := ⟨_, rfl⟩
      rw [← hzs] at HI5
      have hz3 : zs.length = 3 := by rw [hzs]; rfl
      have hz7 : ∀ h : 0 < zs.length, zs[0] = 7 := by subst hzs; intro _; rfl
      have HZ7 := Lib.hid hz7
      clear hzs hz7
      have HBN : Hid (Ba ≠ NB) := Lib.hid (fun e => by have h := HBa.out; rw [e, HN5.out] at h; simp at h)
      have HXN : Hid (x ≠ NB) := Lib.hid (fun e => by have h := HI5.out.1; rw [e, HN5.out] at h; simp at h)
      have hx5 := lt_of_block HI5.out.1
      have hb5 := lt_of_block HBa.out
      have hnb5 := lt_of_block HN5.out
      refine (wpIn_wide (n := 9)).1 ?_
      refine range_strong2 (α := Fin zs.length) #[10, 10] (by omega) (gf := 40) (lb := #[.pointer (some ⟨Ba, 0, none⟩)]) rfl (enters_of Try.func40 (by kernel_rfl) rfl)
        (encs := fun y => #[.int .i64 ((y : Fin zs.length).val : Int), .int .i64 (zs[y.val]'y.isLt)]) (Kp := KpX fun k => k = w5.heap.size + 1 ∨ k = NB) (S := fun ys => ys.map Fin.val = List.range zs.length) (Sp := fun pre => ∃ k, k ≤ zs.length ∧ pre.map Fin.val = List.range k) (N := zs.length)
        (fun l2 J2 Jx2 W3 hb hs3 hJ2 hJx2 hY2 h02 => all1_in 8 (by omega) l2 Ba x _ x va zs M 3 J2 Jx2 W3 (fun k hk => by omega) (fun e => by have := HBN.out; omega) (fun e => by have := HXN.out; omega) (fun k hk e => by have := (HI5.out.2.1.lt k hk).2; have := HGN.out k hk; omega) hJ2 hJx2 hY2 ((hb.block _ (lt_of_block HBa.out)).trans HBa.out) (HI5.out.later hb) h02)
        KpX.trans (fun W o o' ho hc => KpX.putObj W _ o' (Or.inl rfl) ho) (fun _ => rfl)
        (fun pre W' => pre = [] ∧ EB w NB 0 W') (fun c pre W' => c = .exit 4 ∧ ∃ y : Fin zs.length, pre = [y] ∧ EB w NB (zs[y.val]'y.isLt) W')
        (fun s A C row h hg hr => ⟨h.1, ownFrom_EB (β := Unit) HB5.out.size hnb5 () A C row h.2 hg hr⟩)
        (fun _ s A C row h hg hr => ⟨h.1, h.2.elim fun y hy => ⟨y, hy.1, ownFrom_EB (β := Unit) HB5.out.size hnb5 () A C row hy.2 hg hr⟩⟩)
        ⟨rfl, HN5.out, HB5.out⟩ ?assign ?body ?done ?stop
      case assign =>
        intro l x W K hK
        simp only [fold2, List.setIfInBounds_toArray, List.set_cons_zero, List.set_cons_succ] at hK
        gi_wp2
        exact hK
      case body =>
        rintro l2 pre y W' hl2 ⟨rfl, hEB⟩ hlen
        simp only [fold2, List.setIfInBounds_toArray, List.set_cons_zero, List.set_cons_succ]
        have hcN := (block_cell' hEB.1 0).1
        have hfN := (block_cell' hEB.1 0).2
        have HEB := Lib.hid hEB
        generalize hzy : zs[y.val]'_ = zy
        have HZY := Lib.hid hzy
        clear hEB hzy
        gi_wp2
        exact ⟨(KeepsOthers.setCell _ _ _).from _, kpX_put (n := 0) 0 (Or.inr rfl) _, rfl, y, rfl, by rw [HZY.out]; exact HEB.out.put HNl.out zy⟩
      case done =>
        rintro D ys W' hD hys ⟨rfl, -⟩ hKD
        have := congrArg List.length hys
        simp at this
        omega
      case stop =>
        rintro D c pre W' hD ⟨k, hk, hpre⟩ ⟨rfl, y, rfl, hEB⟩ hKD
        have hk1 : k = 1 := by have := congrArg List.length hpre; simpa using this.symm
        subst hk1
        have hy0 : y.val = 0 := by simpa using hpre
        have hzy : zs[y.val]'y.isLt = 7 := by simp only [hy0]; exact HZ7.out (by omega)
        rw [hzy] at hEB
        have hcN := (block_cell' hEB.1 0).1
        have HEB := Lib.hid hEB
        have HKD := Lib.hid hKD
        have HDw := Lib.hid (Nat.le_trans HB5.out.size hD)
        clear hEB hKD hD hzy hpre hy0
        refine wpIn_wide.2 ?_
        go_wp2_with fail
        refine (Inew_neg (-9223372036854775808) _ (by omega)).mono ?_
        rintro e w6 ⟨rfl, rfl⟩
        go_wp2_with fail
        refine (none_any _).mono ?_
        rintro e w6 ⟨rfl, hb6⟩
        go_wp2_with fail
        refine (awake_any _).mono ?_
        rintro e w7 ⟨rfl, hb7⟩
        go_wp2_with fail
        have hB7 := (HEB.out.2.trans (hb6.mono HEB.out.2.size)).trans (hb7.mono (HEB.out.2.trans (hb6.mono HEB.out.2.size)).size)
        have hD7 : w7.heap[D]? = some (.deferred (some [])) := (hb7.block _ (Nat.lt_of_lt_of_le (Array.getElem?_eq_some_iff.1 HKD.out).1 hb6.size)).trans ((hb6.block _ (Array.getElem?_eq_some_iff.1 HKD.out).1).trans HKD.out)
        refine ⟨by simp, .inl ⟨_, _, rfl, run_takeDeferred hD7, ?_⟩⟩
        refine ⟨.bool true, by simp [results, Try.f5, go_sem], rfl, hB7.grown (grownBy_putObj' _ D (.deferred none)) hB7.size (fun k hk => by cases hk; exact HDw.out)⟩
end Go.Proofs.Ytonnolhhgeekpaa
