/-
  ArenaSets: the walk.
-/
import Derived.Test.YtonnolhhgeekpaaSets
import Derived.Deep.RegionHeld
import Derived.Deep.RegionWith
namespace Go.Proofs.Ytonnolhhgeekpaa
open Go.RowKit Go.Shelf
attribute [local go_sem] Oper.semAt_some

/-- as Q, but no panic. -/
def noPanic (Q : Exit → Act → World → Prop) : Exit → Act → World → Prop
  | .panic _, _, _ => False
  | .outgrown, _, _ => False
  | .normal, a, w => Q .normal a w
  | .ret, a, w => Q .ret a w
  | .exit i, a, w => Q (.exit i) a w
  | .goto t, a, w => Q (.goto t) a w
theorem noPanic_of {Q : Exit → Act → World → Prop} {e : Exit} {a : Act} {w : World} (h : noPanic Q e a w) : Q e a w := by
  cases e <;> first | exact h | exact False.elim h
theorem sets_cell {w : World} {b off n cap : Nat} {zs : List Int} (h : CellsAt w (.slice (some ⟨b, off, none⟩) n cap) (iv zs)) {k : Nat} (hk : k < zs.length) : w.cell? ⟨b, off + k, none⟩ = some (.int .i64 zs[k]) := by
  obtain ⟨ao, b', off', cap', he, _, _, _, hao, _, hc⟩ := h
  have hl : (iv zs).length = zs.length := by simp [iv]
  have h1 := hao (by omega)
  rw [h1] at he
  simp at he
  obtain ⟨⟨rfl, rfl⟩, _⟩ := he
  have := hc k (by omega)
  simpa [iv] using this
theorem fold2 (t : Array Value) (p q : Tmp) (v u : Value) : (#[p, q].zip #[v, u]).foldl (fun (t : Array Value) (x : Tmp × Value) => t.setIfInBounds x.1 x.2) t = (t.setIfInBounds p v).setIfInBounds q u := by
  have h : (#[p, q] : Array Tmp).zip #[v, u] = #[(p, v), (q, u)] := by rw [List.zip_toArray]; rfl
  rw [h]
  simp
theorem inew_succ (k : Nat) (w : World) (hk : k ≤ 400) : Calls Try.prog 8 #[.int .i64 ((k : Int) + 1)] w fun e w' => e = .returned (.pointer (some ⟨w.heap.size, 0, none⟩)) ∧ IAr w.heap.size w' w.heap.size (.slice none 0 0) [] (k + 1) 0 ∧ Below w.heap.size w w' := Inew (k + 1) w (by omega)
theorem wpAnyH_listed {P : Program} {md : Region.Mode} {ops : Array Oper} {Q : Exit → Act → World → Prop} {S : World → Prop} {fuel : Nat} {listed L : Array Bool} {a : Act} {w : World} (h : listed = L)
    (H : wpAnyH P md ops Q S fuel L a w) : wpAnyH P md ops Q S fuel listed a w := by rw [h]; exact H

set_option maxRecDepth 100000 in
set_option maxHeartbeats 8000000 in
theorem arenaSets_main (w : World) (v0 : Value) (zs : List Int) (at' xx : Int) (hv : CellsAt w v0 (iv zs)) (hwf : (Lit.int .i64 at').wf = true) (hlen : zs.length ≤ 17592186044416) :
    Calls Try.prog 6 #[v0, .int .i64 at', .int .i64 xx] w fun e w' => e = .returned (.bool true) ∧ Below w.heap.size w w' := by
  have HV := Lib.hid hv
  have HWF := Lib.hid hwf
  obtain ⟨ao, b0, off, cap, rfl, hlc, hm, hnil, hao, _, hc⟩ := hv
  simp only [List.length_map, iv] at hlc hnil hao
  have hlv : (iv zs).length = zs.length := by simp [iv]
  rw [hlv] at HV ⊢
  clear hc hwf hlv
  refine (callsIn_wide (n := 9)).1 ?_
  refine callsIn_of_wp_marks Try.func6 rfl trivial ?_ rfl
  simp only [Try.ntmps6, List.size_toArray, List.length_cons, List.length_nil, Nat.reduceAdd, Nat.reduceSub, Array.replicate_succ, Array.replicate_zero, List.push_toArray, List.append_toArray, List.nil_append, List.cons_append]
  refine wpIn_wide.2 (wp_mono (Q := noPanic (bodyPostM Fence.wide 9 Try.prog Try.f6 fun e w' => e = .returned (.bool true) ∧ Below w.heap.size w w')) ?_ (fun e a w h => noPanic_of h))
  have hbw : BW w (.slice ao zs.length cap) xx (((w.alloc (.cells #[.slice ao zs.length cap] 22)).alloc (.cells #[.int .i64 xx] 3)).alloc (.cells #[.bool false] 4)) := by
    have h1 := Boxed.new w 22 (.slice ao zs.length cap)
    have h2 := Boxed.new (w.alloc (.cells #[.slice ao zs.length cap] 22)) 3 (.int .i64 xx)
    have h3 := Boxed.new ((w.alloc (.cells #[.slice ao zs.length cap] 22)).alloc (.cells #[.int .i64 xx] 3)) 4 (.bool false)
    simp only [World.size_alloc] at h2 h3
    exact ⟨(h1.alloc _).alloc _, h2.alloc _, h3, (((Below.refl _ _).alloc (Nat.le_refl _) _).alloc (by simp) _).alloc (by simp; omega) _⟩
  have HBW := Lib.hid hbw
  clear hbw
  go_wp2_with fail
  refine (awake_any _).mono ?_
  rintro e w1 ⟨rfl, hb⟩
  have hbw := HBW.out.later hb
  have hcA := (Boxed.cell (t := 22) hbw.pA)
  have hcR := (Boxed.cell (t := 4) hbw.pR)
  have hfR := (Boxed.frozen (t := 4) hbw.pR)
  have HBW := Lib.hid hbw
  clear hb hbw
  by_cases hbig : 400 < zs.length
  · have hbI : (400 : Int) < zs.length := by omega
    have hbw2 := Boxed.set (.bool true) (show Boxed w1 (w.heap.size + 2) 4 (.bool false) from HBW.out.pR)
    have hc2 := hbw2.cell
    have hbel2 := HBW.out.bel.setCell (p := ⟨w.heap.size + 2, 0, none⟩) (by simp) (.bool true)
    have HC2 := Lib.hid hc2
    have HBEL := Lib.hid hbel2
    clear hc2 hbw2 hbel2
    go_wp2
    have hc2 := HC2.out
    refine ⟨.bool true, ?_, rfl, HBEL.out⟩
    simp [results, Try.f6, go_sem, hc2]
  · have hbI : ¬ (400 : Int) < zs.length := by omega
    go_wp2_with fail
    have wq : IntKind.i64.wrap ((zs.length : Int) + 1) = (zs.length : Int) + 1 := IntWalk.i64_in _ (by omega)
    refine wp_region_held_drew (S := BW w (.slice ao zs.length cap) xx) (by kernel_rfl) (HBW.out.later ⟨rfl, rfl, rfl, Nat.le_refl _, fun _ _ => rfl⟩) (fun hS => ?_)
    clear HBW hcA hcR hfR
    generalize w1.drew = wv at hS ⊢
    refine wpAnyH_take (i := 0) (oi := ⟨_, _, _, _, _, _⟩) (v := ?v15) rfl (by kernel_rfl) (by kernel_rfl) (by kernel_rfl) (fun _ _ _ h => h) ?y15 hS ?_
    case y15 => first | (refine Or.inr ⟨by rfl, ?_⟩; with_reducible rfl) | (refine Or.inl ⟨by rfl, ?_⟩; intro wS hSw; have q0 := (Boxed.cell (t := 22) hSw.pA); go_simp; try with_reducible rfl)
    simp only [Act.put, List.setIfInBounds_toArray, List.set_cons_zero, List.set_cons_succ]
    refine wpAnyH_take (i := 1) (oi := ⟨_, _, _, _, _, _⟩) (v := ?v16) rfl (by kernel_rfl) (by kernel_rfl) (by kernel_rfl) (fun _ _ _ h => h) ?y16 hS ?_
    case y16 => first | (refine Or.inr ⟨by rfl, ?_⟩; with_reducible rfl) | (refine Or.inl ⟨by rfl, ?_⟩; intro wS hSw; have q0 := (Boxed.cell (t := 22) hSw.pA); go_simp; try with_reducible rfl)
    simp only [Act.put, List.setIfInBounds_toArray, List.set_cons_zero, List.set_cons_succ]
    refine wpAnyH_take (i := 3) (oi := ⟨_, _, _, _, _, _⟩) (v := ?v17) rfl (by kernel_rfl) (by kernel_rfl) (by kernel_rfl) (fun _ _ _ h => h) ?y17 hS ?_
    case y17 => first | (refine Or.inr ⟨by rfl, ?_⟩; with_reducible rfl) | (refine Or.inl ⟨by rfl, ?_⟩; intro wS hSw; have q0 := (Boxed.cell (t := 22) hSw.pA); go_simp; try with_reducible rfl)
    simp only [Act.put, List.setIfInBounds_toArray, List.set_cons_zero, List.set_cons_succ]
    refine wpAnyH_take (i := 4) (oi := ⟨_, _, _, _, _, _⟩) (v := ?v18) rfl (by kernel_rfl) (by kernel_rfl) (by kernel_rfl) (fun _ _ _ h => h) ?y18 hS ?_
    case y18 => first | (refine Or.inr ⟨by rfl, ?_⟩; with_reducible rfl) | (refine Or.inl ⟨by rfl, ?_⟩; intro wS hSw; have q0 := (Boxed.cell (t := 22) hSw.pA); go_simp; try with_reducible rfl)
    simp only [Act.put, List.setIfInBounds_toArray, List.set_cons_zero, List.set_cons_succ]
    refine wpAnyH_take (i := 5) (oi := ⟨_, _, _, _, _, _⟩) (v := ?v19) rfl (by kernel_rfl) (by kernel_rfl) (by kernel_rfl) (fun _ _ _ h => h) ?y19 hS ?_
    case y19 => first | (refine Or.inr ⟨by rfl, ?_⟩; with_reducible rfl) | (refine Or.inl ⟨by rfl, ?_⟩; intro wS hSw; have q0 := (Boxed.cell (t := 22) hSw.pA); go_simp; try with_reducible rfl)
    simp only [Act.put, List.setIfInBounds_toArray, List.set_cons_zero, List.set_cons_succ]
    try simp only [wq]
    have HN1 := fun wv => Inew zs.length wv (by omega)
    have HN2 := fun wv => inew_succ zs.length wv (by omega)
    apply cut_in
    · intro key
      refine wpAnyH_ready (rs := [2, 7]) (by kernel_rfl) (by simp) ?_
      refine AllReadyH.cons (o := ⟨_, _, _, _, _, _⟩) rfl (fun K hK => ?_) (AllReadyH.cons (o := ⟨_, _, _, _, _, _⟩) rfl (fun K hK => ?_) AllReadyH.nil)
      · go_simp
        refine (HN1 wv).mono ?_
        rintro e wx ⟨rfl, hI, hb⟩
        go_wp2_with fail
        refine hK.out _ _ (hS.later hb) (fun hS' => ?_)
        clear hK K
        try simp only [Act.put, List.setIfInBounds_toArray, List.set_cons_zero, List.set_cons_succ]
        have hA := hI.base hS.sz
        have hla := hS.sz
        obtain ⟨xa, hxa⟩ : ∃ xa, xa = wv.heap.size := ⟨_, rfl⟩
        rw [← hxa] at hA hla ⊢
        have HXA := lt_of_block hA.1
        clear hI hb hxa
        have hS := hS'
        clear hS'
        obtain ⟨wv, hwv⟩ : ∃ wv, wv = wx := ⟨_, rfl⟩
        rw [← hwv] at hS hA ⊢
        replace HXA := lt_of_block hA.1
        clear hwv
        refine wpAnyH_ready (rs := [6, 7]) (by kernel_rfl) (by simp) ?_
        refine AllReadyH.cons (o := ⟨_, _, _, _, _, _⟩) rfl (fun K hK => ?_) (AllReadyH.cons (o := ⟨_, _, _, _, _, _⟩) rfl (fun K hK => ?_) AllReadyH.nil)
        · go_simp
          refine (HN2 wv).mono ?_
          rintro e wx ⟨rfl, hI, hb⟩
          go_wp2_with fail
          refine hK.out _ _ (hS.later hb) (fun hS' => ?_)
          clear hK K
          try simp only [Act.put, List.setIfInBounds_toArray, List.set_cons_zero, List.set_cons_succ]
          have hB := hI.base hS.sz
          have hlb := hS.sz
          replace hA := hA.later hb
          obtain ⟨xb, hxb⟩ : ∃ xb, xb = wv.heap.size := ⟨_, rfl⟩
          rw [← hxb] at hB hlb ⊢
          have hne : xa ≠ xb := by rw [hxb]; exact Nat.ne_of_lt HXA
          clear hI hb hxb
          have hS := hS'
          clear hS'
          obtain ⟨wv, hwv⟩ : ∃ wv, wv = wx := ⟨_, rfl⟩
          rw [← hwv] at hS hA hB ⊢
          replace HXA := lt_of_block hA.1
          clear hwv
          refine wpAnyH_ready (rs := [7]) (by kernel_rfl) (by simp) ?_
          refine AllReadyH.cons (o := ⟨_, _, _, _, _, _⟩) rfl (fun K hK => ?_) AllReadyH.nil
          go_simp
          refine hK.out _ _ (hS.later ((Below.refl wv.heap.size wv).alloc (Nat.le_refl _) (.cells #[.pointer none] 24))) (fun hS' => ?_)
          clear hK K
          try simp only [Act.put, List.setIfInBounds_toArray, List.set_cons_zero, List.set_cons_succ]
          have hlP := hS.sz
          replace hA := hA.later ((Below.refl wv.heap.size wv).alloc (Nat.le_refl _) (.cells #[.pointer none] 24))
          replace hB := hB.later ((Below.refl wv.heap.size wv).alloc (Nat.le_refl _) (.cells #[.pointer none] 24))
          have hP := heap_alloc_new wv (.cells #[.pointer none] 24)
          obtain ⟨PB, hPB⟩ : ∃ PB, PB = wv.heap.size := ⟨_, rfl⟩
          rw [← hPB] at hP hlP ⊢
          clear hPB
          have hS := hS'
          clear hS'
          generalize wv.alloc (.cells #[.pointer none] 24) = wv at hS hA hB hP ⊢
          replace HXA := lt_of_block hA.1
          refine wpAnyH_listed (L := #[true, true, true, true, true, true, true, true, false, false]) (by kernel_rfl) ?_
          clear HXA
          revert hlP
          revert hlb
          revert hla
          revert hne
          revert hP
          revert hB
          revert hA
          revert PB
          revert xb
          revert xa
          revert hS
          revert wv
          exact key
        · go_simp
          refine hK.out _ _ (hS.later ((Below.refl wv.heap.size wv).alloc (Nat.le_refl _) (.cells #[.pointer none] 24))) (fun hS' => ?_)
          clear hK K
          try simp only [Act.put, List.setIfInBounds_toArray, List.set_cons_zero, List.set_cons_succ]
          have hlP := hS.sz
          replace hA := hA.later ((Below.refl wv.heap.size wv).alloc (Nat.le_refl _) (.cells #[.pointer none] 24))
          have hP := heap_alloc_new wv (.cells #[.pointer none] 24)
          obtain ⟨PB, hPB⟩ : ∃ PB, PB = wv.heap.size := ⟨_, rfl⟩
          rw [← hPB] at hP hlP ⊢
          clear hPB
          have hS := hS'
          clear hS'
          generalize wv.alloc (.cells #[.pointer none] 24) = wv at hS hA hP ⊢
          replace HXA := lt_of_block hA.1
          refine wpAnyH_ready (rs := [6]) (by kernel_rfl) (by simp) ?_
          refine AllReadyH.cons (o := ⟨_, _, _, _, _, _⟩) rfl (fun K hK => ?_) AllReadyH.nil
          go_simp
          refine (HN2 wv).mono ?_
          rintro e wx ⟨rfl, hI, hb⟩
          go_wp2_with fail
          refine hK.out _ _ (hS.later hb) (fun hS' => ?_)
          clear hK K
          try simp only [Act.put, List.setIfInBounds_toArray, List.set_cons_zero, List.set_cons_succ]
          have hB := hI.base hS.sz
          have hlb := hS.sz
          replace hA := hA.later hb
          replace hP := (hb.block _ (lt_of_block hP)).trans hP
          obtain ⟨xb, hxb⟩ : ∃ xb, xb = wv.heap.size := ⟨_, rfl⟩
          rw [← hxb] at hB hlb ⊢
          have hne : xa ≠ xb := by rw [hxb]; exact Nat.ne_of_lt HXA
          clear hI hb hxb
          have hS := hS'
          clear hS'
          obtain ⟨wv, hwv⟩ : ∃ wv, wv = wx := ⟨_, rfl⟩
          rw [← hwv] at hS hA hB hP ⊢
          replace HXA := lt_of_block hA.1
          clear hwv
          refine wpAnyH_listed (L := #[true, true, true, true, true, true, true, true, false, false]) (by kernel_rfl) ?_
          clear HXA
          revert hlP
          revert hlb
          revert hla
          revert hne
          revert hP
          revert hB
          revert hA
          revert PB
          revert xb
          revert xa
          revert hS
          revert wv
          exact key
      · go_simp
        refine hK.out _ _ (hS.later ((Below.refl wv.heap.size wv).alloc (Nat.le_refl _) (.cells #[.pointer none] 24))) (fun hS' => ?_)
        clear hK K
        try simp only [Act.put, List.setIfInBounds_toArray, List.set_cons_zero, List.set_cons_succ]
        have hlP := hS.sz
        have hP := heap_alloc_new wv (.cells #[.pointer none] 24)
        obtain ⟨PB, hPB⟩ : ∃ PB, PB = wv.heap.size := ⟨_, rfl⟩
        rw [← hPB] at hP hlP ⊢
        clear hPB
        have hS := hS'
        clear hS'
        generalize wv.alloc (.cells #[.pointer none] 24) = wv at hS hP ⊢
        refine wpAnyH_ready (rs := [2]) (by kernel_rfl) (by simp) ?_
        refine AllReadyH.cons (o := ⟨_, _, _, _, _, _⟩) rfl (fun K hK => ?_) AllReadyH.nil
        go_simp
        refine (HN1 wv).mono ?_
        rintro e wx ⟨rfl, hI, hb⟩
        go_wp2_with fail
        refine hK.out _ _ (hS.later hb) (fun hS' => ?_)
        clear hK K
        try simp only [Act.put, List.setIfInBounds_toArray, List.set_cons_zero, List.set_cons_succ]
        have hA := hI.base hS.sz
        have hla := hS.sz
        replace hP := (hb.block _ (lt_of_block hP)).trans hP
        obtain ⟨xa, hxa⟩ : ∃ xa, xa = wv.heap.size := ⟨_, rfl⟩
        rw [← hxa] at hA hla ⊢
        have HXA := lt_of_block hA.1
        clear hI hb hxa
        have hS := hS'
        clear hS'
        obtain ⟨wv, hwv⟩ : ∃ wv, wv = wx := ⟨_, rfl⟩
        rw [← hwv] at hS hA hP ⊢
        replace HXA := lt_of_block hA.1
        clear hwv
        refine wpAnyH_ready (rs := [6]) (by kernel_rfl) (by simp) ?_
        refine AllReadyH.cons (o := ⟨_, _, _, _, _, _⟩) rfl (fun K hK => ?_) AllReadyH.nil
        go_simp
        refine (HN2 wv).mono ?_
        rintro e wx ⟨rfl, hI, hb⟩
        go_wp2_with fail
        refine hK.out _ _ (hS.later hb) (fun hS' => ?_)
        clear hK K
        try simp only [Act.put, List.setIfInBounds_toArray, List.set_cons_zero, List.set_cons_succ]
        have hB := hI.base hS.sz
        have hlb := hS.sz
        replace hA := hA.later hb
        replace hP := (hb.block _ (lt_of_block hP)).trans hP
        obtain ⟨xb, hxb⟩ : ∃ xb, xb = wv.heap.size := ⟨_, rfl⟩
        rw [← hxb] at hB hlb ⊢
        have hne : xa ≠ xb := by rw [hxb]; exact Nat.ne_of_lt HXA
        clear hI hb hxb
        have hS := hS'
        clear hS'
        obtain ⟨wv, hwv⟩ : ∃ wv, wv = wx := ⟨_, rfl⟩
        rw [← hwv] at hS hA hB hP ⊢
        replace HXA := lt_of_block hA.1
        clear hwv
        refine wpAnyH_listed (L := #[true, true, true, true, true, true, true, true, false, false]) (by kernel_rfl) ?_
        clear HXA
        revert hlP
        revert hlb
        revert hla
        revert hne
        revert hP
        revert hB
        revert hA
        revert PB
        revert xb
        revert xa
        revert hS
        revert wv
        exact key
    · intro wv hS xa xb PB hA hB hP hne hla hlb hlP
      refine wpAnyH_take (i := 8) (oi := ⟨_, _, _, _, _, _⟩) (v := ?v20) rfl (by kernel_rfl) (by kernel_rfl) (by kernel_rfl) (fun _ _ _ h => h) ?y20 hS ?_
      case y20 => first | (refine Or.inr ⟨by rfl, ?_⟩; with_reducible rfl) | (refine Or.inl ⟨by rfl, ?_⟩; intro wS hSw; go_simp; try with_reducible rfl)
      simp only [Act.put, List.setIfInBounds_toArray, List.set_cons_zero, List.set_cons_succ]
      refine wpAnyH_ready (rs := [9]) (by kernel_rfl) (by simp) ?_
      refine AllReadyH.cons (o := ⟨_, _, _, _, _, _⟩) rfl (fun K hK => ?_) AllReadyH.nil
      have hcP := (Boxed.cell (t := 24) hP)
      have hfP := (Boxed.frozen (t := 24) hP)
      go_simp
      refine hK.out _ _ (hS.keeps ((Below.refl _ _).setCell (p := ⟨PB, 0, none⟩) hlP _)) (fun hS' => ?_)
      clear hK K
      try simp only [Act.put, List.setIfInBounds_toArray, List.set_cons_zero, List.set_cons_succ]
      refine wpAnyH_done (by kernel_rfl) ?_ _
      have hkP := (Keeps.refl (fun k => k = PB) wv).setCell (p := ⟨PB, 0, none⟩) rfl (.pointer (some ⟨xb, 0, none⟩))
      have hTW : TW w (.slice ao zs.length cap) xx xa xb PB [] [] zs.length (zs.length + 1) (wv.setCell ⟨PB, 0, none⟩ (.pointer (some ⟨xb, 0, none⟩))) :=
        ⟨hS', Boxed.set _ (show Boxed wv PB 24 (.pointer none) from hP), ⟨.slice none 0 0, .slice none 0 0, 0, 0, hA.keeps hkP (fun e => (hA.ne_block hP (by decide) (by decide)).1 e.symm) (fun k hk => by simp [Value.ownBlock] at hk), hB.keeps hkP (fun e => (hB.ne_block hP (by decide) (by decide)).1 e.symm) (fun k hk => by simp [Value.ownBlock] at hk), fun k hk => by simp [Value.ownBlock] at hk⟩, hne, hla, hlb⟩
      have HTW := Lib.hid hTW
      generalize wv.setCell ⟨PB, 0, none⟩ (.pointer (some ⟨xb, 0, none⟩)) = w3 at hTW HTW ⊢
      have hput := tw_put_a w3 HTW.out (HV.out.later HTW.out.bw.bel) (by simp) (by simp; omega)
      have HPUT := Lib.hid hput
      have hcA := Boxed.cell (t := 22) hTW.bw.pA
      clear hTW hkP hS' hS hA hB hP hne hla hlb hlP hput HN1 HN2
      go_wp2_with fail
      refine HPUT.out.mono ?_
      rintro e w4 ⟨rfl, hTW⟩
      rw [List.nil_append] at hTW
      have HTW4 := Lib.hid hTW
      have hcA4 := Boxed.cell (t := 22) hTW.bw.pA
      clear hTW HPUT HTW hcA
      go_wp2_with fail
      go_loopw [11] (fun i wr => ∃ k : Nat, k ≤ zs.length ∧ i = .int .i64 k ∧ TW w (.slice ao zs.length cap) xx xa xb PB zs (zs.take k) zs.length (zs.length + 1) wr) (fun i _ => zs.length - (intOf i).toNat)
      case atStart => exact ⟨0, by omega, rfl, by simpa using HTW4.out⟩
      case round =>
        obtain ⟨k, hk, rfl, hT⟩ := hrel
        have HT := Lib.hid hT
        have hcA := Boxed.cell (t := 22) hT.bw.pA
        clear hT HTW4 hcA4
        by_cases hlt : k < zs.length
        · have hltI : (k : Int) < zs.length := by omega
          have HL := Lib.hid hlt
          have hltk : (zs.take k).length = k := by simp; omega
          obtain ⟨zk, hzk⟩ : ∃ zk, zk = zs[k]'hlt := ⟨_, rfl⟩
          have HZK := Lib.hid hzk
          clear hzk
          obtain rfl := hao (by omega)
          go_wp2_with fail
          refine wp_region_held_drew (S := fun wS => BW w (.slice (some ⟨b0, off, none⟩) zs.length cap) xx wS ∧ wS.heap[PB]? = some (.cells #[.pointer (some ⟨xb, 0, none⟩)] 24 (0, 0))) (by kernel_rfl) ⟨HT.out.bw.later ⟨rfl, rfl, rfl, Nat.le_refl _, fun _ _ => rfl⟩, HT.out.pP⟩ (fun hS => ?_)
          have hTd : TW w (.slice (some ⟨b0, off, none⟩) zs.length cap) xx xa xb PB zs (zs.take k) zs.length (zs.length + 1) wr.drew := HT.out.later ⟨rfl, rfl, rfl, Nat.le_refl _, fun _ _ => rfl⟩
          have HTd := Lib.hid hTd
          clear hTd
          generalize wr.drew = wv at hS HTd ⊢
          refine wpAnyH_take (i := 0) (oi := ⟨_, _, _, _, _, _⟩) (v := ?v5) rfl (by kernel_rfl) (by kernel_rfl) (by kernel_rfl) (fun _ _ _ h => h) ?y5 hS ?_
          case y5 => first | (refine Or.inr ⟨by rfl, ?_⟩; with_reducible rfl) | (refine Or.inl ⟨by rfl, ?_⟩; intro wS hSw; have q0 := (Boxed.cell (t := 24) hSw.2); go_simp; try with_reducible rfl)
          simp only [Act.put, List.setIfInBounds_toArray, List.set_cons_zero, List.set_cons_succ]
          refine wpAnyH_take (i := 1) (oi := ⟨_, _, _, _, _, _⟩) (v := ?v6) rfl (by kernel_rfl) (by kernel_rfl) (by kernel_rfl) (fun _ _ _ h => h) ?y6 hS ?_
          case y6 => first | (refine Or.inr ⟨by rfl, ?_⟩; with_reducible rfl) | (refine Or.inl ⟨by rfl, ?_⟩; intro wS hSw; have q0 := (Boxed.cell (t := 22) hSw.1.pA); go_simp; try with_reducible rfl)
          simp only [Act.put, List.setIfInBounds_toArray, List.set_cons_zero, List.set_cons_succ]
          refine wpAnyH_take (i := 2) (oi := ⟨_, _, _, _, _, _⟩) (v := ?v7) rfl (by kernel_rfl) (by kernel_rfl) (by kernel_rfl) (fun _ _ _ h => h) ?y7 hS ?_
          case y7 => first | (refine Or.inr ⟨by rfl, ?_⟩; with_reducible rfl) | (refine Or.inl ⟨by rfl, ?_⟩; intro wS hSw; go_simp; try with_reducible rfl)
          simp only [Act.put, List.setIfInBounds_toArray, List.set_cons_zero, List.set_cons_succ]
          refine wpAnyH_take (i := 3) (oi := ⟨_, _, _, _, _, _⟩) (v := ?v8) rfl (by kernel_rfl) (by kernel_rfl) (by kernel_rfl) (fun _ _ _ h => h) ?y8 hS ?_
          case y8 => first | (refine Or.inr ⟨by rfl, ?_⟩; with_reducible rfl) | (refine Or.inl ⟨by rfl, ?_⟩; intro wS hSw; go_simp; try with_reducible rfl)
          simp only [Act.put, List.setIfInBounds_toArray, List.set_cons_zero, List.set_cons_succ]
          refine wpAnyH_take (i := 4) (oi := ⟨_, _, _, _, _, _⟩) (v := ?v9) rfl (by kernel_rfl) (by kernel_rfl) (by kernel_rfl) (fun _ _ _ h => h) ?y9 hS ?_
          case y9 => first | (refine Or.inr ⟨by rfl, ?_⟩; with_reducible rfl) | (refine Or.inl ⟨by rfl, ?_⟩; intro wS hSw; have q0 := sets_cell (HV.out.later hSw.1.bel) HL.out; rw [← HZK.out] at q0; go_simp; try with_reducible rfl)
          simp only [Act.put, List.setIfInBounds_toArray, List.set_cons_zero, List.set_cons_succ]
          refine wpAnyH_ready (rs := [5]) (by kernel_rfl) (by simp) ?_
          refine AllReadyH.cons (o := ⟨_, _, _, _, _, _⟩) rfl (fun K hK => ?_) AllReadyH.nil
          go_simp
          refine hK.out _ _ ⟨hS.1.later ((Below.refl _ _).alloc (Nat.le_refl _) _), (heap_alloc_old _ _ (lt_of_block hS.2)).trans hS.2⟩ (fun hS => ?_)
          clear hK K
          try simp only [Act.put, List.setIfInBounds_toArray, List.set_cons_zero, List.set_cons_succ]
          refine wpAnyH_ready (rs := [6]) (by kernel_rfl) (by simp) ?_
          refine AllReadyH.cons (o := ⟨_, _, _, _, _, _⟩) rfl (fun K hK => ?_) AllReadyH.nil
          go_simp
          refine (tw_put_b _ (HTd.out.alloc _) (cells_lit wv #[.int .i64 zk] 3 (0, 0) 1 rfl (by simp [Value.oneCell']) (by omega)) (ys := [zk]) (by rw [hltk]; simp; omega) (by rw [hltk]; simp; omega)).mono ?_
          rintro e w5 ⟨rfl, hT5⟩
          go_wp2_with fail
          refine hK.out _ _ ⟨hT5.bw, hT5.pP⟩ (fun hS => ?_)
          clear hK K
          try simp only [Act.put, List.setIfInBounds_toArray, List.set_cons_zero, List.set_cons_succ]
          have HT5 := Lib.hid hT5
          clear hT5
          try simp only [hltk]
          refine wpAnyH_take (i := 7) (oi := ⟨_, _, _, _, _, _⟩) (v := ?v10) rfl (by kernel_rfl) (by kernel_rfl) (by kernel_rfl) (fun _ _ _ h => h) ?y10 hS ?_
          case y10 => first | (refine Or.inr ⟨by rfl, ?_⟩; with_reducible rfl) | (refine Or.inl ⟨by rfl, ?_⟩; intro wS hSw; go_simp; try with_reducible rfl)
          simp only [Act.put, List.setIfInBounds_toArray, List.set_cons_zero, List.set_cons_succ]
          refine wpAnyH_take (i := 8) (oi := ⟨_, _, _, _, _, _⟩) (v := ?v11) rfl (by kernel_rfl) (by kernel_rfl) (by kernel_rfl) (fun _ _ _ h => h) ?y11 hS ?_
          case y11 => first | (refine Or.inr ⟨by rfl, ?_⟩; with_reducible rfl) | (refine Or.inl ⟨by rfl, ?_⟩; intro wS hSw; go_simp; try with_reducible rfl)
          simp only [Act.put, List.setIfInBounds_toArray, List.set_cons_zero, List.set_cons_succ]
          refine wpAnyH_take (i := 9) (oi := ⟨_, _, _, _, _, _⟩) (v := ?v12) rfl (by kernel_rfl) (by kernel_rfl) (by kernel_rfl) (fun _ _ _ h => h) ?y12 hS ?_
          case y12 => first | (refine Or.inr ⟨by rfl, ?_⟩; with_reducible rfl) | (refine Or.inl ⟨by rfl, ?_⟩; intro wS hSw; go_simp; try with_reducible rfl)
          simp only [Act.put, List.setIfInBounds_toArray, List.set_cons_zero, List.set_cons_succ]
          refine wpAnyH_take (i := 10) (oi := ⟨_, _, _, _, _, _⟩) (v := ?v13) rfl (by kernel_rfl) (by kernel_rfl) (by kernel_rfl) (fun _ _ _ h => h) ?y13 hS ?_
          case y13 => first | (refine Or.inr ⟨by rfl, ?_⟩; with_reducible rfl) | (refine Or.inl ⟨by rfl, ?_⟩; intro wS hSw; go_simp; try with_reducible rfl)
          simp only [Act.put, List.setIfInBounds_toArray, List.set_cons_zero, List.set_cons_succ]
          refine wpAnyH_take (i := 11) (oi := ⟨_, _, _, _, _, _⟩) (v := ?v14) rfl (by kernel_rfl) (by kernel_rfl) (by kernel_rfl) (fun _ _ _ h => h) ?y14 hS ?_
          case y14 => first | (refine Or.inr ⟨by rfl, ?_⟩; with_reducible rfl) | (refine Or.inl ⟨by rfl, ?_⟩; intro wS hSw; go_simp; try with_reducible rfl)
          simp only [Act.put, List.setIfInBounds_toArray, List.set_cons_zero, List.set_cons_succ]
          refine wpAnyH_done (by kernel_rfl) ?_ _
          have hT6 := HT5.out
          rw [HZK.out, ← List.take_succ_eq_append_getElem HL.out] at hT6
          have HT6 := Lib.hid hT6
          clear hT6
          go_wp2_with fail
          go_roundw
          case rel => exact ⟨k + 1, by omega, by go_num, HT6.out⟩
          case measure => simp [intOf]; omega
        · obtain rfl : k = zs.length := by omega
          have hltI : ¬ (zs.length : Int) < zs.length := by omega
          have hT2 := HT.out
          rw [List.take_length] at hT2
          have HT2 := Lib.hid hT2
          clear hT2
          have hwr : -9223372036854775808 ≤ at' ∧ at' ≤ 9223372036854775807 := by simpa [Lit.wf, IntKind.min, IntKind.max, IntKind.signed, IntKind.bits] using HWF.out
          obtain ⟨q, hq, hql⟩ : ∃ q : Nat, at' % ((zs.length : Int) + 1) = (q : Int) ∧ q ≤ zs.length := ⟨(at' % ((zs.length : Int) + 1)).toNat, (Int.toNat_of_nonneg (Int.emod_nonneg _ (by omega))).symm, by have h1 := Int.emod_lt_of_pos at' (show (0 : Int) < (zs.length : Int) + 1 by omega); have h2 := Int.emod_nonneg at' (show (zs.length : Int) + 1 ≠ 0 by omega); omega⟩
          have hpk := fun wz => pick_any at' ((zs.length : Int) + 1) wz (by omega) HWF.out
          rw [hq] at hpk
          have HPK := Lib.hid hpk
          clear hpk hq hwr
          go_wp2_with fail
          refine (HPK.out _).mono ?_
          rintro e w6 ⟨rfl, rfl⟩
          have hT7 := HT2.out.alloc (.cells #[.int .i64 q] 3)
          have hcX7 := Boxed.cell (t := 3) hT7.bw.pX
          have hcA7 := Boxed.cell (t := 22) hT7.bw.pA
          clear hT7 HPK HT
          by_cases hqz : q < zs.length
          · have hqI : (q : Int) < zs.length := by omega
            have HQ := Lib.hid hqz
            clear hqz
            go_wp2_with fail
            refine (tw_set_box wr q xx _ HT2.out (by exact HQ.out)).mono ?_
            rintro e w8 ⟨rfl, hT8, hK8⟩
            have hzl : (zs.set q xx).length = zs.length := by simp
            have hzg : ∀ (i : Nat) (h : i < zs.length), (zs.set q xx)[i]'(by rw [hzl]; exact h) = if q = i then xx else zs[i] := fun i h => by rw [List.getElem_set]
            have HZG := Lib.hid hzg
            clear hzg
            generalize zs.set q xx = za at hT8 hzl HZG
            obtain ⟨PK, hPK⟩ : ∃ PK, PK = wr.heap.size := ⟨_, rfl⟩
            rw [← hPK] at hK8 ⊢
            have hcK := Boxed.cell (t := 3) hK8
            have hcA8 := Boxed.cell (t := 22) hT8.bw.pA
            have HT8 := Lib.hid hT8
            have HK8 := Lib.hid hK8
            clear hT8 hK8 hPK hcX7 hcA7 HT2
            go_wp2_with fail
            refine (callsIn_wide.1 (all_in 5 (some ⟨xa, 0, none⟩) w8)).mono ?_
            rintro e w9 ⟨rfl, rfl⟩
            have hT9 := HT8.out.alloc (.cells #[.pointer (some ⟨xa, 0, none⟩)] 24)
            have hK9 := (heap_alloc_old _ (.cells #[.pointer (some ⟨xa, 0, none⟩)] 24) (lt_of_block HK8.out)).trans HK8.out
            have hBa := heap_alloc_new w8 (.cells #[.pointer (some ⟨xa, 0, none⟩)] 24)
            have HT9 := Lib.hid hT9
            have HK9 := Lib.hid hK9
            have HBa := Lib.hid hBa
            clear hT9 hK9 hBa HT8 HK8 hcK hcA8
            go_wp2_with fail
            obtain ⟨Ba, hBaE⟩ : ∃ Ba, Ba = w8.heap.size := ⟨_, rfl⟩
            rw [← hBaE] at HBa ⊢
            clear hBaE
            generalize w8.alloc (.cells #[.pointer (some ⟨xa, 0, none⟩)] 24) = w9 at HT9 HK9 HBa ⊢
            refine (wpIn_wide (n := 9)).1 ?_
            obtain ⟨va, vb, pa, pb, ha1, ha2, ha3⟩ := HT9.out.two
            refine range_strong2 (α := Fin za.length) #[16, 17] (by omega) (gf := 40) (lb := #[.pointer (some ⟨Ba, 0, none⟩)]) rfl (enters_of Try.func40 (by kernel_rfl) rfl)
              (encs := fun y => #[.int .i64 ((y : Fin za.length).val : Int), .int .i64 (za[y.val]'y.isLt)]) (Kp := KpX fun k => k = w9.heap.size + 1) (S := fun ys => ys.map Fin.val = List.range za.length) (Sp := fun pre => ∃ k, k ≤ za.length ∧ pre.map Fin.val = List.range k) (N := za.length)
              (fun l2 J2 Jx2 W3 hb hs3 hJ2 hJx2 hY2 h02 => all1_in 8 (by omega) l2 Ba xa _ (w.heap.size + 3) va za zs.length pa J2 Jx2 W3 (fun k hk => by omega) (fun e => by have := lt_of_block HBa.out; omega) (fun e => by have := lt_of_block ha1.1; omega) (fun k hk e => by have := ha1.own_lt k hk; omega) hJ2 hJx2 hY2 ((hb.block _ (lt_of_block HBa.out)).trans HBa.out) (ha1.later hb) h02)
              KpX.trans (fun W o o' ho hc => KpX.putObj W _ o' rfl ho) (fun _ => rfl)
              (fun pre W' => TW w (.slice ao zs.length cap) xx xa xb PB za zs zs.length (zs.length + 1) W' ∧ W'.heap[PK]? = some (.cells #[.int .i64 q] 3 (0, 0))) (fun _ _ _ => False)
              (OwnFrom.and (ownFrom_TW (by have := HT9.out.bw.sz; omega)) (fun s A C row hs hg hr => (hg.block _ (lt_of_block hs) (fun e => by obtain ⟨_, o, ho, hc⟩ := hr _ e.symm; rw [hs] at ho; cases ho; cases hc)).trans hs))
              (fun _ _ _ _ _ hs _ _ => hs.elim)
              ⟨HT9.out, HK9.out⟩ ?assign ?body ?done ?stop
            case assign =>
              intro l x W K hK
              simp only [fold2, List.setIfInBounds_toArray, List.set_cons_zero, List.set_cons_succ] at hK
              gi_wp2
              exact hK
            case body =>
              rintro l2 pre y W' hl2 ⟨hT, hK⟩ hlen
              have hy := y.isLt
              simp only [fold2, List.setIfInBounds_toArray, List.set_cons_zero, List.set_cons_succ]
              have hyz : y.val < zs.length := by omega
              obtain rfl := hao (by omega)
              have hat := tw_at_b W' y.val hT hyz
              have hcl := sets_cell (HV.out.later hT.bw.bel) hyz
              have hz := HZG.out y.val hyz
              have hcP := Boxed.cell (t := 24) hT.pP
              have hcA := Boxed.cell (t := 22) hT.bw.pA
              have hcX := Boxed.cell (t := 3) hT.bw.pX
              have hcK := Boxed.cell (t := 3) hK
              have hyI : (y.val : Int) < zs.length := by omega
              have HTb := Lib.hid hT
              have HKb := Lib.hid hK
              generalize za[y.val]'_ = e at hz ⊢
              generalize zs[y.val]'_ = d at hz hat hcl
              have HAT := Lib.hid hat
              clear hat hT hK
              by_cases hqy : q = y.val
              · rw [if_pos hqy] at hz
                subst hz
                have hq1 : ((y.val : Int) == (q : Int)) = true := by simp; omega
                have hq2 : ((y.val : Int) != (q : Int)) = false := by simp; omega
                clear hqy
                gi_wp2_with (refine ⟨trivial, ?_⟩; gi_at_call 16; refine (CallsIn.inRound l2 (callsIn_wide.2 HAT.out)).mono ?_; rintro e w' ⟨rfl, rfl⟩)
                exact ⟨KeepsFrom.refl _ _, KpX.refl _ _, HTb.out, HKb.out⟩
              · rw [if_neg hqy] at hz
                subst hz
                have hq1 : ((y.val : Int) == (q : Int)) = false := by simp; omega
                have hq2 : ((y.val : Int) != (q : Int)) = true := by simp; omega
                clear hqy
                gi_wp2_with (refine ⟨trivial, ?_⟩; gi_at_call 16; refine (CallsIn.inRound l2 (callsIn_wide.2 HAT.out)).mono ?_; rintro e w' ⟨rfl, rfl⟩)
                exact ⟨KeepsFrom.refl _ _, KpX.refl _ _, HTb.out, HKb.out⟩
            case done =>
              rintro D ys W' hD hys ⟨hT, hK⟩ hKD
              have HTd := Lib.hid hT
              have HD := Lib.hid hKD
              have hcR := Boxed.cell (t := 4) hT.bw.pR
              have hfR := Boxed.frozen (t := 4) hT.bw.pR
              clear hT hK hKD
              go_wp2_with fail
              refine wp_region_held_drew (S := fun wS => wS.heap[w.heap.size]? = some (.cells #[.slice ao zs.length cap] 22 (0, 0))) (by kernel_rfl) HTd.out.bw.pA (fun hS => ?_)
              have HLA := Lib.hid (tw_len_a W'.drew (HTd.out.later ⟨rfl, rfl, rfl, Nat.le_refl _, fun _ _ => rfl⟩))
              refine wpAnyH_take (i := 0) (oi := ⟨_, _, _, _, _, _⟩) (v := ?v1) rfl (by kernel_rfl) (by kernel_rfl) (by kernel_rfl) (fun _ _ _ h => h) ?y1 hS ?_
              case y1 => first | (refine Or.inr ⟨by rfl, ?_⟩; with_reducible rfl) | (refine Or.inl ⟨by rfl, ?_⟩; intro wS hSw; go_simp; try with_reducible rfl)
              simp only [Act.put, List.setIfInBounds_toArray, List.set_cons_zero, List.set_cons_succ]
              refine wpAnyH_take (i := 2) (oi := ⟨_, _, _, _, _, _⟩) (v := ?v2) rfl (by kernel_rfl) (by kernel_rfl) (by kernel_rfl) (fun _ _ _ h => h) ?y2 hS ?_
              case y2 => first | (refine Or.inr ⟨by rfl, ?_⟩; with_reducible rfl) | (refine Or.inl ⟨by rfl, ?_⟩; intro wS hSw; have q0 := (Boxed.cell (t := 22) hSw); go_simp; try with_reducible rfl)
              simp only [Act.put, List.setIfInBounds_toArray, List.set_cons_zero, List.set_cons_succ]
              refine wpAnyH_take (i := 3) (oi := ⟨_, _, _, _, _, _⟩) (v := ?v3) rfl (by kernel_rfl) (by kernel_rfl) (by kernel_rfl) (fun _ _ _ h => h) ?y3 hS ?_
              case y3 => first | (refine Or.inr ⟨by rfl, ?_⟩; with_reducible rfl) | (refine Or.inl ⟨by rfl, ?_⟩; intro wS hSw; go_simp; try with_reducible rfl)
              simp only [Act.put, List.setIfInBounds_toArray, List.set_cons_zero, List.set_cons_succ]
              refine wpAnyH_ready (rs := [1]) (by kernel_rfl) (by simp) ?_
              refine AllReadyH.cons (o := ⟨_, _, _, _, _, _⟩) rfl (fun K hK => ?_) AllReadyH.nil
              go_simp
              refine HLA.out.mono ?_
              rintro e wq ⟨rfl, rfl⟩
              rw [hzl]
              go_wp2_with fail
              refine hK.out _ _ hS (fun hS => ?_)
              clear hK K
              try simp only [Act.put, List.setIfInBounds_toArray, List.set_cons_zero, List.set_cons_succ]
              have hqe : ((zs.length : Int) == (zs.length : Int)) = true := by simp
              refine wpAnyH_take (i := 4) (oi := ⟨_, _, _, _, _, _⟩) (v := ?v4) rfl (by kernel_rfl) (by kernel_rfl) (by kernel_rfl) (fun _ _ _ h => h) ?y4 hS ?_
              case y4 => first | (refine Or.inr ⟨by rfl, ?_⟩; with_reducible rfl) | (refine Or.inl ⟨by rfl, ?_⟩; intro wS hSw; go_simp; try with_reducible rfl)
              simp only [Act.put, List.setIfInBounds_toArray, List.set_cons_zero, List.set_cons_succ]
              try simp only [hqe]
              refine wpAnyH_ready (rs := [5]) (by kernel_rfl) (by simp) ?_
              refine AllReadyH.cons (o := ⟨_, _, _, _, _, _⟩) rfl (fun K hK => ?_) AllReadyH.nil
              go_simp
              refine hK.out _ _ ((Below.heap_setCell _ _ _ _ (by simp; try omega)).trans hS) (fun hS => ?_)
              clear hK K
              try simp only [Act.put, List.setIfInBounds_toArray, List.set_cons_zero, List.set_cons_succ]
              refine wpAnyH_done (by kernel_rfl) ?_ _
              go_wp2_with fail
              have hRd : Boxed W'.drew (w.heap.size + 1 + 1) 4 (.bool false) := HTd.out.bw.pR
              have hKD : W'.drew.heap[D]? = some (.deferred (some [])) := HD.out
              have hK' := (KeepsOthers.setCell W'.drew ⟨w.heap.size + 1 + 1, 0, none⟩ (.bool true)).same D _ hKD rfl
              have hc5 : ((W'.setCell ⟨w.heap.size + 1 + 1, 0, none⟩ (.bool true)).drew.putObj D (.deferred none)).cell? ⟨w.heap.size + 1 + 1, 0, none⟩ = some (.bool true) := cell_kept (hRd.set (.bool true)).cell (grownBy_putObj' _ D (.deferred none)) (fun r e => by cases e; exact ⟨_, hK', rfl⟩)
              have hbel := (HTd.out.bw.bel.trans (show Below w.heap.size W' W'.drew from ⟨rfl, rfl, rfl, Nat.le_refl _, fun _ _ => rfl⟩)).setCell (p := ⟨w.heap.size + 1 + 1, 0, none⟩) (by simp; omega) (.bool true)
              refine ⟨by simp, .inl ⟨_, _, rfl, run_takeDeferred hK', ?_⟩⟩
              refine ⟨.bool true, ?_, rfl, hbel.trans (belowK_b (w := w) (Nat.le_refl _) _ D _ _ (by have := HT9.out.bw.sz; omega) hK' rfl rfl)⟩
              simp [results, Try.f6, go_sem, hc5]
            case stop =>
              rintro D c pre W' hD hpre h hKD
              exact h.elim
          · have hqI : ¬ (q : Int) < zs.length := by omega
            have HQ := Lib.hid hqz
            clear hqz
            go_wp2_with fail
            refine (tw_set_out _ q xx (HT2.out.alloc _) (by have := HQ.out; omega)).mono ?_
            rintro e w8 ⟨rfl, rfl⟩
            have hT8 := HT2.out.alloc (.cells #[.int .i64 q] 3)
            have hK8 := heap_alloc_new wr (.cells #[.int .i64 q] 3)
            obtain ⟨za, hza⟩ : ∃ za, za = zs := ⟨_, rfl⟩
            have hzl : za.length = zs.length := by rw [hza]
            have hzg : ∀ (i : Nat) (h : i < zs.length), za[i]'(by rw [hzl]; exact h) = if q = i then xx else zs[i] := fun i h => by subst hza; rw [if_neg (by have := HQ.out; omega)]
            have HZG := Lib.hid hzg
            have hT8 : TW w (.slice ao zs.length cap) xx xa xb PB za zs zs.length (zs.length + 1) (wr.alloc (.cells #[.int .i64 q] 3)) := by rw [hza]; exact hT8
            clear hzg hza
            generalize wr.alloc (.cells #[.int .i64 q] 3) = w8 at hT8 hK8 ⊢
            obtain ⟨PK, hPK⟩ : ∃ PK, PK = wr.heap.size := ⟨_, rfl⟩
            rw [← hPK] at hK8 ⊢
            have hcK := Boxed.cell (t := 3) hK8
            have hcA8 := Boxed.cell (t := 22) hT8.bw.pA
            have HT8 := Lib.hid hT8
            have HK8 := Lib.hid hK8
            clear hT8 hK8 hPK hcX7 hcA7 HT2
            go_wp2_with fail
            refine (callsIn_wide.1 (all_in 5 (some ⟨xa, 0, none⟩) w8)).mono ?_
            rintro e w9 ⟨rfl, rfl⟩
            have hT9 := HT8.out.alloc (.cells #[.pointer (some ⟨xa, 0, none⟩)] 24)
            have hK9 := (heap_alloc_old _ (.cells #[.pointer (some ⟨xa, 0, none⟩)] 24) (lt_of_block HK8.out)).trans HK8.out
            have hBa := heap_alloc_new w8 (.cells #[.pointer (some ⟨xa, 0, none⟩)] 24)
            have HT9 := Lib.hid hT9
            have HK9 := Lib.hid hK9
            have HBa := Lib.hid hBa
            clear hT9 hK9 hBa HT8 HK8 hcK hcA8
            go_wp2_with fail
            obtain ⟨Ba, hBaE⟩ : ∃ Ba, Ba = w8.heap.size := ⟨_, rfl⟩
            rw [← hBaE] at HBa ⊢
            clear hBaE
            generalize w8.alloc (.cells #[.pointer (some ⟨xa, 0, none⟩)] 24) = w9 at HT9 HK9 HBa ⊢
            refine (wpIn_wide (n := 9)).1 ?_
            obtain ⟨va, vb, pa, pb, ha1, ha2, ha3⟩ := HT9.out.two
            refine range_strong2 (α := Fin za.length) #[16, 17] (by omega) (gf := 40) (lb := #[.pointer (some ⟨Ba, 0, none⟩)]) rfl (enters_of Try.func40 (by kernel_rfl) rfl)
              (encs := fun y => #[.int .i64 ((y : Fin za.length).val : Int), .int .i64 (za[y.val]'y.isLt)]) (Kp := KpX fun k => k = w9.heap.size + 1) (S := fun ys => ys.map Fin.val = List.range za.length) (Sp := fun pre => ∃ k, k ≤ za.length ∧ pre.map Fin.val = List.range k) (N := za.length)
              (fun l2 J2 Jx2 W3 hb hs3 hJ2 hJx2 hY2 h02 => all1_in 8 (by omega) l2 Ba xa _ (w.heap.size + 3) va za zs.length pa J2 Jx2 W3 (fun k hk => by omega) (fun e => by have := lt_of_block HBa.out; omega) (fun e => by have := lt_of_block ha1.1; omega) (fun k hk e => by have := ha1.own_lt k hk; omega) hJ2 hJx2 hY2 ((hb.block _ (lt_of_block HBa.out)).trans HBa.out) (ha1.later hb) h02)
              KpX.trans (fun W o o' ho hc => KpX.putObj W _ o' rfl ho) (fun _ => rfl)
              (fun pre W' => TW w (.slice ao zs.length cap) xx xa xb PB za zs zs.length (zs.length + 1) W' ∧ W'.heap[PK]? = some (.cells #[.int .i64 q] 3 (0, 0))) (fun _ _ _ => False)
              (OwnFrom.and (ownFrom_TW (by have := HT9.out.bw.sz; omega)) (fun s A C row hs hg hr => (hg.block _ (lt_of_block hs) (fun e => by obtain ⟨_, o, ho, hc⟩ := hr _ e.symm; rw [hs] at ho; cases ho; cases hc)).trans hs))
              (fun _ _ _ _ _ hs _ _ => hs.elim)
              ⟨HT9.out, HK9.out⟩ ?assign ?body ?done ?stop
            case assign =>
              intro l x W K hK
              simp only [fold2, List.setIfInBounds_toArray, List.set_cons_zero, List.set_cons_succ] at hK
              gi_wp2
              exact hK
            case body =>
              rintro l2 pre y W' hl2 ⟨hT, hK⟩ hlen
              have hy := y.isLt
              simp only [fold2, List.setIfInBounds_toArray, List.set_cons_zero, List.set_cons_succ]
              have hyz : y.val < zs.length := by omega
              obtain rfl := hao (by omega)
              have hat := tw_at_b W' y.val hT hyz
              have hcl := sets_cell (HV.out.later hT.bw.bel) hyz
              have hz := HZG.out y.val hyz
              have hcP := Boxed.cell (t := 24) hT.pP
              have hcA := Boxed.cell (t := 22) hT.bw.pA
              have hcX := Boxed.cell (t := 3) hT.bw.pX
              have hcK := Boxed.cell (t := 3) hK
              have hyI : (y.val : Int) < zs.length := by omega
              have HTb := Lib.hid hT
              have HKb := Lib.hid hK
              generalize za[y.val]'_ = e at hz ⊢
              generalize zs[y.val]'_ = d at hz hat hcl
              have HAT := Lib.hid hat
              clear hat hT hK
              by_cases hqy : q = y.val
              · rw [if_pos hqy] at hz
                subst hz
                have hq1 : ((y.val : Int) == (q : Int)) = true := by simp; omega
                have hq2 : ((y.val : Int) != (q : Int)) = false := by simp; omega
                clear hqy
                gi_wp2_with (refine ⟨trivial, ?_⟩; gi_at_call 16; refine (CallsIn.inRound l2 (callsIn_wide.2 HAT.out)).mono ?_; rintro e w' ⟨rfl, rfl⟩)
                exact ⟨KeepsFrom.refl _ _, KpX.refl _ _, HTb.out, HKb.out⟩
              · rw [if_neg hqy] at hz
                subst hz
                have hq1 : ((y.val : Int) == (q : Int)) = false := by simp; omega
                have hq2 : ((y.val : Int) != (q : Int)) = true := by simp; omega
                clear hqy
                gi_wp2_with (refine ⟨trivial, ?_⟩; gi_at_call 16; refine (CallsIn.inRound l2 (callsIn_wide.2 HAT.out)).mono ?_; rintro e w' ⟨rfl, rfl⟩)
                exact ⟨KeepsFrom.refl _ _, KpX.refl _ _, HTb.out, HKb.out⟩
            case done =>
              rintro D ys W' hD hys ⟨hT, hK⟩ hKD
              have HTd := Lib.hid hT
              have HD := Lib.hid hKD
              have hcR := Boxed.cell (t := 4) hT.bw.pR
              have hfR := Boxed.frozen (t := 4) hT.bw.pR
              clear hT hK hKD
              go_wp2_with fail
              refine wp_region_held_drew (S := fun wS => wS.heap[w.heap.size]? = some (.cells #[.slice ao zs.length cap] 22 (0, 0))) (by kernel_rfl) HTd.out.bw.pA (fun hS => ?_)
              have HLA := Lib.hid (tw_len_a W'.drew (HTd.out.later ⟨rfl, rfl, rfl, Nat.le_refl _, fun _ _ => rfl⟩))
              refine wpAnyH_take (i := 0) (oi := ⟨_, _, _, _, _, _⟩) (v := ?v1) rfl (by kernel_rfl) (by kernel_rfl) (by kernel_rfl) (fun _ _ _ h => h) ?y1 hS ?_
              case y1 => first | (refine Or.inr ⟨by rfl, ?_⟩; with_reducible rfl) | (refine Or.inl ⟨by rfl, ?_⟩; intro wS hSw; go_simp; try with_reducible rfl)
              simp only [Act.put, List.setIfInBounds_toArray, List.set_cons_zero, List.set_cons_succ]
              refine wpAnyH_take (i := 2) (oi := ⟨_, _, _, _, _, _⟩) (v := ?v2) rfl (by kernel_rfl) (by kernel_rfl) (by kernel_rfl) (fun _ _ _ h => h) ?y2 hS ?_
              case y2 => first | (refine Or.inr ⟨by rfl, ?_⟩; with_reducible rfl) | (refine Or.inl ⟨by rfl, ?_⟩; intro wS hSw; have q0 := (Boxed.cell (t := 22) hSw); go_simp; try with_reducible rfl)
              simp only [Act.put, List.setIfInBounds_toArray, List.set_cons_zero, List.set_cons_succ]
              refine wpAnyH_take (i := 3) (oi := ⟨_, _, _, _, _, _⟩) (v := ?v3) rfl (by kernel_rfl) (by kernel_rfl) (by kernel_rfl) (fun _ _ _ h => h) ?y3 hS ?_
              case y3 => first | (refine Or.inr ⟨by rfl, ?_⟩; with_reducible rfl) | (refine Or.inl ⟨by rfl, ?_⟩; intro wS hSw; go_simp; try with_reducible rfl)
              simp only [Act.put, List.setIfInBounds_toArray, List.set_cons_zero, List.set_cons_succ]
              refine wpAnyH_ready (rs := [1]) (by kernel_rfl) (by simp) ?_
              refine AllReadyH.cons (o := ⟨_, _, _, _, _, _⟩) rfl (fun K hK => ?_) AllReadyH.nil
              go_simp
              refine HLA.out.mono ?_
              rintro e wq ⟨rfl, rfl⟩
              rw [hzl]
              go_wp2_with fail
              refine hK.out _ _ hS (fun hS => ?_)
              clear hK K
              try simp only [Act.put, List.setIfInBounds_toArray, List.set_cons_zero, List.set_cons_succ]
              have hqe : ((zs.length : Int) == (zs.length : Int)) = true := by simp
              refine wpAnyH_take (i := 4) (oi := ⟨_, _, _, _, _, _⟩) (v := ?v4) rfl (by kernel_rfl) (by kernel_rfl) (by kernel_rfl) (fun _ _ _ h => h) ?y4 hS ?_
              case y4 => first | (refine Or.inr ⟨by rfl, ?_⟩; with_reducible rfl) | (refine Or.inl ⟨by rfl, ?_⟩; intro wS hSw; go_simp; try with_reducible rfl)
              simp only [Act.put, List.setIfInBounds_toArray, List.set_cons_zero, List.set_cons_succ]
              try simp only [hqe]
              refine wpAnyH_ready (rs := [5]) (by kernel_rfl) (by simp) ?_
              refine AllReadyH.cons (o := ⟨_, _, _, _, _, _⟩) rfl (fun K hK => ?_) AllReadyH.nil
              go_simp
              refine hK.out _ _ ((Below.heap_setCell _ _ _ _ (by simp; try omega)).trans hS) (fun hS => ?_)
              clear hK K
              try simp only [Act.put, List.setIfInBounds_toArray, List.set_cons_zero, List.set_cons_succ]
              refine wpAnyH_done (by kernel_rfl) ?_ _
              go_wp2_with fail
              have hRd : Boxed W'.drew (w.heap.size + 1 + 1) 4 (.bool false) := HTd.out.bw.pR
              have hKD : W'.drew.heap[D]? = some (.deferred (some [])) := HD.out
              have hK' := (KeepsOthers.setCell W'.drew ⟨w.heap.size + 1 + 1, 0, none⟩ (.bool true)).same D _ hKD rfl
              have hc5 : ((W'.setCell ⟨w.heap.size + 1 + 1, 0, none⟩ (.bool true)).drew.putObj D (.deferred none)).cell? ⟨w.heap.size + 1 + 1, 0, none⟩ = some (.bool true) := cell_kept (hRd.set (.bool true)).cell (grownBy_putObj' _ D (.deferred none)) (fun r e => by cases e; exact ⟨_, hK', rfl⟩)
              have hbel := (HTd.out.bw.bel.trans (show Below w.heap.size W' W'.drew from ⟨rfl, rfl, rfl, Nat.le_refl _, fun _ _ => rfl⟩)).setCell (p := ⟨w.heap.size + 1 + 1, 0, none⟩) (by simp; omega) (.bool true)
              refine ⟨by simp, .inl ⟨_, _, rfl, run_takeDeferred hK', ?_⟩⟩
              refine ⟨.bool true, ?_, rfl, hbel.trans (belowK_b (w := w) (Nat.le_refl _) _ D _ _ (by have := HT9.out.bw.sz; omega) hK' rfl rfl)⟩
              simp [results, Try.f6, go_sem, hc5]
            case stop =>
              rintro D c pre W' hD hpre h hKD
              exact h.elim
end Go.Proofs.Ytonnolhhgeekpaa
