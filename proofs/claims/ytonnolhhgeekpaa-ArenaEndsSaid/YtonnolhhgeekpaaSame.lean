/-
  Chapter 05: an arena and the document's: same.
-/
import Derived.Test.YtonnolhhgeekpaaRec
import Derived.Test.YtonnolhhgeekpaaSetsW
import Derived.Test.YtonnolhhgeekpaaQuietIn
import Derived.StillTailTactics
namespace Go.Proofs.Ytonnolhhgeekpaa
open Go.RowKit Go.Shelf
attribute [local go_sem] Oper.semAt_some

/-- the walk's own boxes. -/
structure SB (w0 : World) (r NB n : Nat) (w : World) : Prop where
  pB : w.heap[w0.heap.size]? = some (.cells #[.pointer (some ⟨r, 0, none⟩)] 37 (0, 0))
  pR : w.heap[w0.heap.size + 1]? = some (.cells #[.bool false] 4 (0, 0))
  pN : w.heap[NB]? = some (.cells #[.int .i64 n] 3 (0, 0))
  bel : Below w0.heap.size w0 w
  lt : w0.heap.size + 2 ≤ NB
theorem SB.later {w0 : World} {r NB n : Nat} {w w' : World} (h : SB w0 r NB n w) (hb : Below w.heap.size w w') : SB w0 r NB n w' :=
  ⟨(hb.block _ (lt_of_block h.pB)).trans h.pB, (hb.block _ (lt_of_block h.pR)).trans h.pR, (hb.block _ (lt_of_block h.pN)).trans h.pN, h.bel.trans (hb.mono (by have := lt_of_block h.pB; omega)), h.lt⟩
theorem SB.put {w0 : World} {r NB n : Nat} {w : World} (h : SB w0 r NB n w) (m : Nat) : SB w0 r NB m (w.setCell ⟨NB, 0, none⟩ (.int .i64 m)) := by
  have := h.lt
  refine ⟨?_, ?_, ?_, h.bel.setCell (p := ⟨NB, 0, none⟩) (by simp; omega) _, h.lt⟩
  · rw [Below.heap_setCell _ _ _ _ (by simp; omega)]; exact h.pB
  · rw [Below.heap_setCell _ _ _ _ (by simp; omega)]; exact h.pR
  · rw [block_setCell' h.pN]; rfl
theorem ownFrom_SB {β : Type} {w0 : World} {r NB n B : Nat} (hB : w0.heap.size ≤ B) : OwnFrom B (fun (_ : β) W => SB w0 r NB n W) := fun s A C row h hg hr => by
  have hc : KcX (fun _ => False) A C := (ownFrom_kcX (β := β) (w := A) B s A C row (KcX.refl _ _) hg hr)
  have n : ¬ False := fun h => h
  exact ⟨hc.2 _ _ _ _ n h.pB, hc.2 _ _ _ _ n h.pR, hc.2 _ _ _ _ n h.pN, h.bel.grown hg (by have := lt_of_block h.pB; omega) (fun k e => by have := (hr k e).1; omega), h.lt⟩

theorem keepsFrom_put {B : Nat} (W : World) (n : Nat) (p : Addr) (v : Value) : KeepsFrom B W ((W.drewN n).setCell p v) :=
  have h := (KeepsOthers.setCell (W.drewN n) p v).from B
  ⟨h.size, h.same⟩
theorem kpX_put {X : Nat → Prop} {W : World} {n : Nat} {b : Nat} (o : Nat) (hb : X b) (v : Value) : KpX X W ((W.drewN n).setCell ⟨b, o, none⟩ v) :=
  ⟨by simp [World.setCell], fun k ob hk ho => (Below.heap_setCell _ _ _ _ (fun e => hk (by rw [show k = b from e]; exact hb))).trans ho⟩

set_option maxRecDepth 100000 in
set_option maxHeartbeats 8000000 in
theorem same_true (w : World) {B a r : Nat} {va vr : Value} {zs : List Int} {most pk : Nat} (hA : IAr B w a va (iv zs) most pk) (hR : RAr B w r vr zs most pk) (hl : zs.length ≤ 1000000) :
    Calls Try.prog 25 #[.pointer (some ⟨a, 0, none⟩), .pointer (some ⟨r, 0, none⟩)] w fun e w' => e = .returned (.bool true) ∧ Below w.heap.size w w' := by
  have HA := Lib.hid hA
  have HR := Lib.hid hR
  obtain ⟨ao, cap, rfl⟩ := own_val hR.2.1
  clear hA hR
  refine (callsIn_wide (n := 9)).1 ?_
  refine callsIn_of_wp_marks Try.func25 rfl trivial ?_ rfl
  simp only [Try.ntmps25, List.size_toArray, List.length_cons, List.length_nil, Nat.reduceAdd, Nat.reduceSub, Array.replicate_succ, Array.replicate_zero, List.push_toArray, List.append_toArray, List.nil_append, List.cons_append]
  refine wpIn_wide.2 (wp_mono (Q := noPanic (bodyPostM Fence.wide 9 Try.prog Try.f25 fun e w' => e = .returned (.bool true) ∧ Below w.heap.size w w')) ?_ (fun e a w h => noPanic_of h))
  go_wp2_with fail
  have hb0 : Below w.heap.size w ((w.alloc (.cells #[.pointer (some ⟨r, 0, none⟩)] 37)).alloc (.cells #[.bool false] 4)) := ((Below.refl _ _).alloc (Nat.le_refl _) _).alloc (by simp) _
  have hpB : ((w.alloc (.cells #[.pointer (some ⟨r, 0, none⟩)] 37)).alloc (.cells #[.bool false] 4)).heap[w.heap.size]? = some (.cells #[.pointer (some ⟨r, 0, none⟩)] 37 (0, 0)) := (heap_alloc_old _ _ (by simp)).trans (heap_alloc_new w _)
  have hpR : ((w.alloc (.cells #[.pointer (some ⟨r, 0, none⟩)] 37)).alloc (.cells #[.bool false] 4)).heap[w.heap.size + 1]? = some (.cells #[.bool false] 4 (0, 0)) := by
    have := heap_alloc_new (w.alloc (.cells #[.pointer (some ⟨r, 0, none⟩)] 37)) (.cells #[.bool false] 4)
    simpa using this
  generalize (w.alloc (.cells #[.pointer (some ⟨r, 0, none⟩)] 37)).alloc (.cells #[.bool false] 4) = w1 at hb0 hpB hpR ⊢
  have hA1 := HA.out.later hb0
  have hR1 := HR.out.later hb0
  obtain ⟨r0, r1, r2, r3⟩ := hR1.cells
  have hcB := (block_cell' hpB 0).1
  have hmost : zs.length ≤ most ∧ most ≤ 9223372036854775807 := by have := HA.out; exact ⟨by simpa [iv] using this.2.2.1, this.2.2.2.1⟩
  have hw : IntKind.i64.wrap ((most : Int) - zs.length) = (most : Int) - zs.length := IntWalk.i64_in _ (by omega)
  have hivl : (iv zs).length = zs.length := by simp [iv]
  have HLen := Lib.hid (fun m => by have := Ilen (w1.drewN m) (show IAr B (w1.drewN m) a va (iv zs) most pk from hA1); rw [hivl] at this; exact this)
  have HMark := Lib.hid (fun m => by have := Imark (w1.drewN m) (show IAr B (w1.drewN m) a va (iv zs) most pk from hA1); rw [hivl] at this; exact this)
  have HLeft := Lib.hid (fun m => by have := Ileft (w1.drewN m) (show IAr B (w1.drewN m) a va (iv zs) most pk from hA1); rw [hivl] at this; exact this)
  have HPeak := Lib.hid (fun m => Ipeak (w1.drewN m) (show IAr B (w1.drewN m) a va (iv zs) most pk from hA1))
  have Hb0 := Lib.hid hb0
  have HpB := Lib.hid hpB
  have HpR := Lib.hid hpR
  have HA1 := Lib.hid hA1
  clear hA1 hR1 hb0 hpB hpR hivl
  go_quiet (first
    | (go_at_call 12; exact Calls.quiet_of_same ((HLen.out _).mono fun e w' h => ⟨h.1, h.2.symm⟩))
    | (go_at_call 10; exact Calls.quiet_of_same ((HMark.out _).mono fun e w' h => ⟨h.1, h.2.symm⟩))
    | (go_at_call 13; exact Calls.quiet_of (HLeft.out _))
    | (go_at_call 15; exact Calls.quiet_of_same ((HPeak.out _).mono fun e w' h => ⟨h.1, h.2.symm⟩)))
  have hb2 : Below w.heap.size w (w1.drewN nq) := below_draws Hb0.out nq
  have hpB2 : (w1.drewN nq).heap[w.heap.size]? = some (.cells #[.pointer (some ⟨r, 0, none⟩)] 37 (0, 0)) := HpB.out
  have hpR2 : (w1.drewN nq).heap[w.heap.size + 1]? = some (.cells #[.bool false] 4 (0, 0)) := HpR.out
  clear r0 r1 r2 r3 hcB HLen HMark HLeft HPeak Hb0 HpB HpR HA1
  generalize w1.drewN nq = w2 at hb2 hpB2 hpR2 ⊢
  have hsb : SB w r w2.heap.size 0 (w2.alloc (.cells #[.int .i64 0] 3)) := ⟨(heap_alloc_old _ _ (lt_of_block hpB2)).trans hpB2, (heap_alloc_old _ _ (lt_of_block hpR2)).trans hpR2, heap_alloc_new w2 _, hb2.alloc hb2.size _, lt_of_block hpR2⟩
  have HSB := Lib.hid hsb
  clear hb2 hpB2 hpR2
  obtain ⟨NB, hNB⟩ : ∃ NB, NB = w2.heap.size := ⟨_, rfl⟩
  rw [← hNB] at hsb HSB
  go_wp2_with fail
  rw [← hNB]
  clear hNB
  generalize w2.alloc (.cells #[.int .i64 0] 3) = w3 at hsb HSB ⊢
  refine (callsIn_wide.1 (all_in 5 (some ⟨a, 0, none⟩) w3)).mono ?_
  rintro e w9 ⟨rfl, rfl⟩
  have hsb9 := hsb.later ((Below.refl _ _).alloc (Nat.le_refl _) (.cells #[.pointer (some ⟨a, 0, none⟩)] 24))
  have hBa := heap_alloc_new w3 (.cells #[.pointer (some ⟨a, 0, none⟩)] 24)
  have HS9 := Lib.hid hsb9
  have HBa := Lib.hid hBa
  have hNBa := lt_of_block hsb.pN
  clear hsb9 hBa hsb HSB
  go_wp2_with fail
  obtain ⟨Ba, hBaE⟩ : ∃ Ba, Ba = w3.heap.size := ⟨_, rfl⟩
  rw [← hBaE] at HBa hNBa ⊢
  clear hBaE
  generalize w3.alloc (.cells #[.pointer (some ⟨a, 0, none⟩)] 24) = w9 at HS9 HBa ⊢
  have hA9 := HA.out.later HS9.out.bel
  have hNl := lt_of_block HS9.out.pN
  have hal : a < w.heap.size := lt_of_block HA.out.1
  have hgl : ∀ k, va.ownBlock = some k → k < w.heap.size := fun k hk => (HA.out.2.1.lt k hk).2
  have hwl := HS9.out.bel.size
  have hNl2 := HS9.out.lt
  have HA9 := Lib.hid hA9
  clear hA9
  refine (wpIn_wide (n := 9)).1 ?_
  refine range_strong2 (α := Fin zs.length) #[6, 7] (by omega) (gf := 40) (lb := #[.pointer (some ⟨Ba, 0, none⟩)]) rfl (enters_of Try.func40 (by kernel_rfl) rfl)
    (encs := fun y => #[.int .i64 ((y : Fin zs.length).val : Int), .int .i64 (zs[y.val]'y.isLt)]) (Kp := KpX fun k => k = w9.heap.size + 1 ∨ k = NB ∨ k = w.heap.size + 1) (S := fun ys => ys.map Fin.val = List.range zs.length) (Sp := fun pre => ∃ k, k ≤ zs.length ∧ pre.map Fin.val = List.range k) (N := zs.length)
    (fun l2 J2 Jx2 W3 hb hs3 hJ2 hJx2 hY2 h02 => all1_in 8 (by omega) l2 Ba a _ B va zs most pk J2 Jx2 W3 (fun k hk => by omega) (fun e => by have := lt_of_block HBa.out; omega) (fun e => by omega) (fun k hk e => by have := hgl k hk; omega) hJ2 hJx2 hY2 ((hb.block _ (lt_of_block HBa.out)).trans HBa.out) (HA9.out.later hb) h02)
    KpX.trans (fun W o o' ho hc => KpX.putObj W _ o' (Or.inl rfl) ho) (fun _ => rfl)
    (fun pre W' => pre.map Fin.val = List.range pre.length ∧ SB w r NB pre.length W') (fun c pre _ => c = .ret ∧ ¬ ∃ k, pre.map Fin.val = List.range k)
    (fun s A C row h hg hr => ⟨h.1, ownFrom_SB (β := Unit) (B := w9.heap.size) (by omega) () A C row h.2 hg hr⟩)
    (fun _ _ _ _ _ hs _ _ => hs)
    ⟨rfl, HS9.out⟩ ?assign ?body ?done ?stop
  case assign =>
    intro l x W K hK
    simp only [fold2, List.setIfInBounds_toArray, List.set_cons_zero, List.set_cons_succ] at hK
    gi_wp2
    exact hK
  case body =>
    rintro l2 pre y W' hl2 ⟨hp, hsb⟩ hlen
    have hyl := y.isLt
    simp only [fold2, List.setIfInBounds_toArray, List.set_cons_zero, List.set_cons_succ]
    have hRW := HR.out.later hsb.bel
    have hcB := (block_cell' hsb.pB 0).1
    have hcN := (block_cell' hsb.pN 0).1
    have hfN := (block_cell' hsb.pN 0).2
    have hcR := (block_cell' hsb.pR 0).1
    have hfR := (block_cell' hsb.pR 0).2
    by_cases hy : y.val = pre.length
    · obtain ⟨g, cap', he⟩ := own_shape hRW.2.1 (by omega)
      simp only [Value.slice.injEq] at he
      obtain ⟨rfl, _, rfl⟩ := he
      have hcE := hRW.2.1.cellAt y.val (by omega)
      rw [List.getElem?_eq_getElem (by simp [iv])] at hcE
      simp only [iv, List.getElem_map] at hcE
      obtain ⟨r0, r1, r2, r3⟩ := hRW.cells
      have hp2 : (pre ++ [y]).map Fin.val = List.range (pre ++ [y]).length := by
        rw [List.map_append, hp, List.length_append, List.length_singleton, List.range_succ]; simp [hy]
      generalize zs[y.val]'_ = d at hcE ⊢
      have HP2 := Lib.hid hp2
      obtain ⟨k, hk⟩ : ∃ k, k = pre.length := ⟨_, rfl⟩
      rw [← hk] at hsb hcN hlen hy
      rw [hy] at hcE hyl ⊢
      have hkI : decide ((zs.length : Int) ≤ (k : Int)) = false := by simp; omega
      have hkN : decide (zs.length ≤ k) = false := by simp; omega
      have hkJ : (k : Int) < zs.length := by omega
      have HSW := Lib.hid hsb
      have HK := Lib.hid hk
      clear hsb hp2 hp hRW hy hk
      gi_wp2
      refine wpIn_region_quiet_lit (by kernel_rfl) (by kernel_rfl) (by kernel_rfl) ?_
      repeat (go_big_quiet_step (fail))
      refine wpQuiet_nil ?_
      intro _ hw'
      obtain ⟨nq, hw''⟩ := hw'
      subst hw''
      have HSW2 := Lib.hid (HSW.out.later (below_draws (Below.refl W'.heap.size W') nq))
      clear hkI hkN hkJ
      gi_wp2
      refine ⟨keepsFrom_put _ _ _ _, kpX_put _ (.inr (.inl rfl)) _, HP2.out, ?_⟩
      have h := HSW2.out.put (k + 1)
      have hl1 : (pre ++ [y]).length = k + 1 := by rw [List.length_append, HK.out]; rfl
      rw [hl1]
      exact h
    · have hq : ((y.val : Int) != (pre.length : Int)) = true := by simp; omega
      have hq2 : ((y.val : Int) == (pre.length : Int)) = false := by simp; omega
      gi_wp2
      refine wpIn_region_quiet_lit (by kernel_rfl) (by kernel_rfl) (by kernel_rfl) ?_
      repeat (go_big_quiet_step (fail))
      refine wpQuiet_nil ?_
      intro _ hw'
      obtain ⟨nq, hw''⟩ := hw'
      subst hw''
      gi_wp2
      refine ⟨keepsFrom_put _ _ _ _, kpX_put _ (.inr (.inr rfl)) _, rfl, ?_⟩
      rintro ⟨k, hk⟩
      apply hy
      have hl1 := congrArg List.length hk
      simp only [List.length_map, List.length_append, List.length_singleton, List.length_range] at hl1
      subst hl1
      rw [List.map_append, List.range_succ] at hk
      have := (List.append_inj hk (by simp)).2
      simpa using this
  case done =>
    rintro D ys W' hD hys ⟨hp, hsb⟩ hKD
    have hyl : ys.length = zs.length := by have := congrArg List.length (hp.symm.trans hys); simpa using this
    rw [hyl] at hsb
    have hRW := HR.out.later hsb.bel
    have hAW := HA.out.later hsb.bel
    obtain ⟨r0, r1, r2, r3⟩ := hRW.cells
    have hcB := (block_cell' hsb.pB 0).1
    have hcN := (block_cell' hsb.pN 0).1
    have hcR := (block_cell' hsb.pR 0).1
    have hfR := (block_cell' hsb.pR 0).2
    have HSB := Lib.hid hsb
    have HKD := Lib.hid hKD
    have HAW := Lib.hid hAW
    have HRW := Lib.hid hRW
    have hD2 := hD
    clear hsb hKD hAW hRW hp hys hyl
    go_wp2_with fail
    go_loop [8] (fun i => ∃ k : Nat, k ≤ zs.length + 2 ∧ i = .int .i64 ((k : Int) - 1)) (fun i => zs.length + 2 - ((intOf i) + 1).toNat)
    case atStart => exact ⟨0, by omega, rfl⟩
    case round =>
      obtain ⟨k, hk, rfl⟩ := hrel
      by_cases hlt : k < zs.length + 2
      · cases k with
        | zero =>
          have h1 : (-1 : Int) ≤ zs.length := by omega
          have hat := Iat W' (-1) HAW.out
          rw [if_neg (by omega), decide_eq_false (by omega)] at hat
          have HAT := Lib.hid hat
          clear hat
          go_wp2_with fail
          refine HAT.out.mono ?_
          rintro e w' ⟨rfl, rfl⟩
          go_wp2
          go_round
          case rel => exact ⟨1, by omega, by go_num⟩
          case measure => simp [intOf] <;> omega
        | succ j =>
          have hj1 : ((j + 1 : Nat) : Int) - 1 = j := by omega
          rw [hj1]
          have h1 : (j : Int) ≤ zs.length := by omega
          have h2 : (j : Int) ≥ 0 := by omega
          by_cases hjl : j < zs.length
          · obtain ⟨g, cap', he⟩ := own_shape HRW.out.2.1 (by omega)
            simp only [Value.slice.injEq] at he
            obtain ⟨rfl, _, rfl⟩ := he
            have hcE := HRW.out.2.1.cellAt j (by omega)
            rw [List.getElem?_eq_getElem (by simpa [iv] using hjl)] at hcE
            simp only [iv, List.getElem_map] at hcE
            have hat := Iat W' (j : Int) HAW.out
            rw [if_pos (by omega), decide_eq_true (by simp [iv]; omega)] at hat
            simp only [Int.toNat_natCast, List.getD_eq_getElem?_getD] at hat
            rw [List.getElem?_eq_getElem (by simpa [iv] using hjl)] at hat
            simp only [iv, List.getElem_map, Option.getD_some] at hat
            generalize zs[j] = d at hcE hat
            have hj2 : (j : Int) < zs.length := by omega
            have HAT := Lib.hid hat
            clear hat
            go_wp2_with fail
            refine HAT.out.mono ?_
            rintro e w' ⟨rfl, rfl⟩
            go_wp2
            go_round
            case rel => exact ⟨j + 2, by omega, by go_num⟩
            case measure => simp [intOf] <;> omega
          · obtain rfl : j = zs.length := by omega
            have hat := Iat W' (zs.length : Int) HAW.out
            rw [if_pos (by omega), decide_eq_false (by simp [iv])] at hat
            simp only [Int.toNat_natCast, List.getD_eq_getElem?_getD] at hat
            rw [List.getElem?_eq_none (by simp [iv])] at hat
            simp only [Option.getD_none] at hat
            have hj2 : ¬ (zs.length : Int) < zs.length := by omega
            have HAT := Lib.hid hat
            clear hat
            go_wp2_with fail
            refine HAT.out.mono ?_
            rintro e w' ⟨rfl, rfl⟩
            go_wp2
            go_round
            case rel => exact ⟨zs.length + 2, by omega, by go_num⟩
            case measure => simp [intOf] <;> omega
      · obtain rfl : k = zs.length + 2 := by omega
        have hj1 : ((zs.length + 2 : Nat) : Int) - 1 = (zs.length : Int) + 1 := by omega
        rw [hj1]
        have h1 : ¬ (zs.length : Int) + 1 ≤ zs.length := by omega
        have hqe : ((zs.length : Int) == (zs.length : Int)) = true := by simp
        go_wp2_with fail
        go_still_tail 7, (by kernel_rfl)
        go_wp2_with fail
        have hKD : (W'.drew).heap[D]? = some (.deferred (some [])) := HKD.out
        have hKD0 : W'.heap[D]? = some (.deferred (some [])) := HKD.out
        have hK' := (KeepsOthers.setCell W' ⟨w.heap.size + 1, 0, none⟩ (.bool true)).same D _ hKD0 rfl
        have hK2 : ((W'.setCell ⟨w.heap.size + 1, 0, none⟩ (.bool true)).drew).heap[D]? = some (.deferred (some [])) := hK'
        have hbx : Boxed W' (w.heap.size + 1) 4 (.bool false) := HSB.out.pR
        have hc4 : ((W'.setCell ⟨w.heap.size + 1, 0, none⟩ (.bool true)).drew).cell? ⟨w.heap.size + 1, 0, none⟩ = some (.bool true) := (hbx.set (.bool true)).cell
        have hc5 : ((W'.setCell ⟨w.heap.size + 1, 0, none⟩ (.bool true)).drew.putObj D (.deferred none)).cell? ⟨w.heap.size + 1, 0, none⟩ = some (.bool true) := cell_kept hc4 (grownBy_putObj' _ D (.deferred none)) (fun r e => by cases e; exact ⟨_, hK2, rfl⟩)
        have hbel := HSB.out.bel.setCell (p := ⟨w.heap.size + 1, 0, none⟩) (by simp) (.bool true)
        have hbel2 : Below w.heap.size w (W'.setCell ⟨w.heap.size + 1, 0, none⟩ (.bool true)).drew := hbel.trans ⟨rfl, rfl, rfl, Nat.le_refl _, fun _ _ => rfl⟩
        refine ⟨by simp, .inl ⟨_, _, rfl, run_takeDeferred hK2, ?_⟩⟩
        refine ⟨.bool true, ?_, rfl, hbel2.trans (belowK_b (w := w) (Nat.le_refl _) _ D _ _ (by omega) hK2 rfl rfl)⟩
        simp [results, Try.f25, go_sem, hc5]
  case stop =>
    rintro D c pre W' hD ⟨k, _, hpre⟩ ⟨_, h⟩ hKD
    exact (h ⟨k, hpre⟩).elim
end Go.Proofs.Ytonnolhhgeekpaa
