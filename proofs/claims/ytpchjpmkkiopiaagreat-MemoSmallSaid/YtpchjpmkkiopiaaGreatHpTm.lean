import Derived.Test.YtpchjpmkkiopiaaGreatHpQm
namespace Go.Proofs.YtpchjpmkkiopiaaGreat
open Go.RowKit Go.Lib

theorem Tryz.infoEntry : (Tryz.prog.info? 133).map (fun i => (i.zero, i.size, i.bytes)) = some (some (.agg #[.int .i64 0, .int .i64 0, .int .i64 0]), 3, 24) := by kernel_rfl
theorem pos_push_lt {L : List En} {e : En} {k : Nat} (h : k < L.length) : pos (L ++ [e]) k = pos L k := by
  rw [pos_get (by simp; omega), pos_get h, List.getElem_append_left h]
theorem pos_push_eq (L : List En) (e : En) : pos (L ++ [e]) L.length = e := by
  rw [pos_get (by simp)]; simp
theorem once_push {L : List En} (ho : Once L) {e : En} (hn : whr L e.name = none) : Once (L ++ [e]) := by
  unfold Once at ho ⊢
  rw [List.map_append, List.nodup_append]
  refine ⟨ho, by simp, fun a ha b hb => ?_⟩
  simp at hb
  subst hb
  obtain ⟨x, hx, rfl⟩ := List.mem_map.1 ha
  obtain ⟨k, hk, rfl⟩ := List.getElem_of_mem hx
  have := whr_not hn k hk
  rwa [pos_get hk] at this
theorem whr_push {L : List En} (ho : Once L) {e : En} (hn : whr L e.name = none) (x : Int) : whr (L ++ [e]) x = setF (whr L) e.name (some L.length) x := by
  have ho' := once_push ho hn
  unfold setF
  by_cases hx : x = e.name
  · rw [if_pos hx]
    exact whr_some ho' (by simp) (by rw [pos_push_eq, hx])
  · rw [if_neg hx]
    cases hw : whr L x with
    | none =>
      refine whr_none fun k hk => ?_
      by_cases hkl : k < L.length
      · rw [pos_push_lt hkl]; exact whr_not hw k hkl
      · have : k = L.length := by simp at hk; omega
        rw [this, pos_push_eq]
        exact fun h => hx h.symm
    | some k =>
      obtain ⟨hk, hkx⟩ := whr_is hw
      exact whr_some ho' (by simp; omega) (by rw [pos_push_lt hk]; exact hkx)
theorem push_end [Watch] {base n n' r m s : Nat} {lv lv' : Value} {xs xs' : List Value} {f : Int → Option Nat} {u2 w1 w2 : World} (hbl : u2.heap[r]? = some (.cells #[lv, .map (some m)] 111 (0, 0))) (hr : u2.ownsRow base 133 3 lv n xs) (hb : Below u2.heap.size u2 w1)
    (hown : w2.ownsRow base 133 3 lv' n' xs') (hg : w1.grownBy w2 lv.ownBlock) (hfn : MapFn u2 m s f) (hbr : base ≤ r) (hnr : ¬ Watch.W r) (hnl : ∀ k, lv.ownBlock = some k → ¬ Watch.W k) :
    (w2.setCell ⟨r, 0, none⟩ lv').heap[r]? = some (.cells #[lv', .map (some m)] 111 (0, 0)) ∧ (w2.setCell ⟨r, 0, none⟩ lv').ownsRow base 133 3 lv' n' xs' ∧ MapFn (w2.setCell ⟨r, 0, none⟩ lv') m s f ∧ KeepH base u2 (w2.setCell ⟨r, 0, none⟩ lv') := by
  have hK2 : Keeps (fun k => lv.ownBlock = some k) u2 w2 := (Keeps.ofNew hb _).grown hg (fun k hk => hk)
  have hne := own_ne' hbl (by decide) hr
  have h3 := hK2.obj hbl hne
  have hga := own_ne' h3 (by decide) hown
  have hset : Keeps (fun k => k = r) w2 (w2.setCell ⟨r, 0, none⟩ lv') := (Keeps.refl (fun k => k = r) w2).setCell (p := ⟨r, 0, none⟩) rfl _
  have hmr : m ≠ r := fun e => by obtain ⟨D, ⟨es, clock, h1, -⟩, -⟩ := hfn; rw [e, hbl] at h1; simp at h1
  have hcells : ∀ k, lv.ownBlock = some k → base ≤ k ∧ ∃ cs, u2.heap[k]? = some (.cells cs 133 (0, 0)) := fun k hk => by
    rcases hr.2 with ⟨e, _⟩ | ⟨g, cap, cur, e, hg, hc, _⟩
    · rw [e] at hk; simp [Value.ownBlock] at hk
    · rw [e] at hk
      simp [Value.ownBlock] at hk
      subst hk
      exact ⟨hg, _, hc⟩
  have hmo : ¬ lv.ownBlock = some m := fun e => by
    obtain ⟨-, cs, h1⟩ := hcells m e
    obtain ⟨D, ⟨es, clock, h2, -⟩, -⟩ := hfn
    rw [h1] at h2
    simp at h2
  refine ⟨block_setCell' h3, hset.row hown (fun k hk e => hga (by rw [hk, e])), (hfn.keeps hK2 hmo).keeps hset hmr, KeepH.trans (Keeps.mono hK2 fun k _ hk => ?_) (Keeps.mono hset fun k _ e => ?_)⟩
  · obtain ⟨h1, cs, h2⟩ := hcells k hk
    exact ⟨⟨h1, hnl k hk⟩, by rw [h2]; simp⟩
  · subst e
    exact ⟨⟨hbr, hnr⟩, by rw [h3]; simp⟩
set_option maxRecDepth 100000 in
set_option maxHeartbeats 2000000 in
theorem rPush_any [Watch] {base r m : Nat} {lv : Value} {L : List En} {e : En} (w : World) (h : RowIs base w r m lv L) (hw : (kx e.name).wf = true) (hn : whr L e.name = none) (hl : L.length < 100000) :
    Calls Tryz.prog 117 #[.pointer (some ⟨r, 0, none⟩), .iface 133 (env e)] w fun en w' => en = .returned (.tuple #[]) ∧ ∃ lv', RowIs base w' r m lv' (L ++ [e]) ∧ KeepH base w w' := by
  have H := Lib.hid h
  have Hw := Lib.hid hw
  have Hn := Lib.hid hn
  have Hl := Lib.hid hl
  obtain ⟨vo, vc, rfl⟩ := own_val h.row
  obtain ⟨n, hne⟩ : ∃ n, n = L.length := ⟨_, rfl⟩
  have HN := Lib.hid hne
  clear h hw hn hl hne
  have qA : ∀ w, (Instr.typeAssert (.iface 133 (env e)) 20 133 true).run Tryz.prog w = .ok (.tuple #[env e, .bool true]) w := fun _ => by kernel_rfl
  go_enter Tryz.func117, Tryz.ntmps117
  go_upto_region 2 with (fail)
  obtain ⟨hb1, hx1⟩ := one_new w (.cells #[.int .i64 e.key, .int .i64 e.name, .int .i64 e.turn] 133 (0, 0))
  refine gen_world (S := fun u => Below w.heap.size w u ∧ u.heap[w.heap.size]? = some (.cells #[.int .i64 e.key, .int .i64 e.name, .int .i64 e.turn] 133 (0, 0))) ⟨hb1, hx1⟩ (fun u hu => ?_)
  obtain ⟨hbu, hxu⟩ := hu
  have HU := Lib.hid (H.out.later hbu)
  have HB := Lib.hid hbu
  have HX := Lib.hid hxu
  have hXr : w.heap.size ≠ r := by have := lt_of_block H.out.blk; omega
  obtain ⟨X, hX⟩ : ∃ X, X = w.heap.size := ⟨_, rfl⟩
  rw [← hX] at HX hXr ⊢
  have HXr := Lib.hid hXr
  have hbl := HU.out.blk
  rw [← HN.out] at hbl
  obtain ⟨d0, d1⟩ := two_box hbl
  obtain ⟨y0, y1, y2, -⟩ := three_box HX.out
  obtain ⟨u2, hrun, hm2, hk2⟩ := (HU.out.fn.of_block (w' := u.drew) rfl).put (by have := Hl.out; omega) Hw.out (i := n) (by have := HN.out; have := Hl.out; omega)
  have HM2 := Lib.hid hm2
  have HK2 := Lib.hid hk2
  clear hb1 hx1 hbu hxu hX hXr hbl hm2 hk2
  go_region
  go_upto_region 3 with (fail)
  have hmr : m ≠ r := fun e => by obtain ⟨D, ⟨es, clock, h1, -⟩, -⟩ := H.out.fn; rw [e, H.out.blk] at h1; simp at h1
  have hxm : X ≠ m := fun e => by obtain ⟨D, ⟨es, clock, h1, -⟩, -⟩ := HU.out.fn; rw [← e, HX.out] at h1; simp at h1
  have hku : Keeps (· = m) u u2 := ((Keeps.refl (· = m) u).drew).trans HK2.out
  have hbl2 := hku.obj HU.out.blk (Ne.symm hmr)
  have hx2 := hku.obj HX.out hxm
  have hmc : ∀ k cs, u.heap[k]? = some (.cells cs 133 (0, 0)) → ¬ k = m := fun k cs h e => by obtain ⟨D, ⟨es, clock, h1, -⟩, -⟩ := HU.out.fn; rw [e, h1] at h; simp at h
  have hrow := row_kept HU.out.row hku hmc
  rw [← HN.out] at hbl2 hrow
  have Hrow := Lib.hid hrow
  have Hne := Lib.hid (own_ne' hbl2 (by decide) hrow)
  have Hbl2 := Lib.hid hbl2
  have HKu := Lib.hid hku
  have HMr := Lib.hid hmr
  clear d0 d1 y0 y1 y2
  obtain ⟨c0, -⟩ := two_box hbl2
  have f0 : u2.frozen? ⟨r, 0, none⟩ = false := (block_cell' hbl2 0).2
  have hru := lt_of_block hbl2
  obtain ⟨y0, y1, y2, -⟩ := three_box hx2
  have hbw : base ≤ u2.heap.size := by have := H.out.br; omega
  have hn5 := Hl.out
  have hn6 := HN.out
  obtain ⟨i0, hi0, hz0, hz1, hz2⟩ := info_parts Tryz.infoEntry
  clear hmr hxm hku hbl2 hx2 hmc hrow
  have hn7 : n < 100000 := by omega
  clear hn5 hn6
  go_region_law (refine step_append_lies _ (by rfl) _ _ _ (by rfl) base 133 i0 _ 3 24 Tryz.underlying109 hi0 hz0 hz1 hz2 rfl (by omega) (.slice vo n vc) n (L.flatMap enc) (by rfl) (((Keeps.drew (Keeps.refl (fun _ => False) u2)).row Hrow.out (fun _ _ h => h)).alloc _) ⟨u2.heap.size, 0, none⟩ 1 1 [.int .i64 e.key, .int .i64 e.name, .int .i64 e.turn] (by rfl) (by rfl) (World.news_of_block (cs := #[.int .i64 e.key, .int .i64 e.name, .int .i64 e.turn]) (t := 133) (fr := (0, 0)) (heap_alloc_new u2.drew _)) (by simp [Value.oneCell']) (by omega) (by unfold maxLen; omega) (by omega) (by simp; omega) (u2.heap.size + 1) (by simp) ?_; intro g cap w2 hown2 hgrow hat hlt; have e0 := (hgrow.cell_far ⟨r, 0, none⟩ (by simp; omega) (Ne.symm Hne.out)).trans ((World.cell?_alloc_old u2.drew _ ⟨r, 0, none⟩ (by simp <;> omega)).trans c0); have e1 := (hgrow.frozen_far ⟨r, 0, none⟩ (by simp; omega) (Ne.symm Hne.out)).trans ((Below.frozen (p := ⟨r, 0, none⟩) ((Below.refl u2.heap.size u2).drew.alloc (Nat.le_refl _) _) hru).trans f0))
  all_goals go_wp2
  all_goals go_end0
  all_goals
    have hm2 := HM2.out
    rw [Hn.out] at hm2
    have hnl : ∀ k, (Value.slice vo n vc).ownBlock = some k → ¬ Watch.W k := by rw [HN.out]; exact H.out.nl
    obtain ⟨p1, p2, p3, p4⟩ := push_end Hbl2.out Hrow.out ((Below.refl u2.heap.size u2).drew.alloc (Nat.le_refl _) _) hown2 hgrow hm2 H.out.br H.out.nr hnl
    have hl1 : (L ++ [e]).length = n + 1 := by simp [HN.out]
    have hf1 : (L ++ [e]).flatMap enc = L.flatMap enc ++ [.int .i64 e.key, .int .i64 e.name, .int .i64 e.turn] := by simp [enc]
    refine ⟨rfl, _, ⟨p1, by rw [hl1, hf1]; exact p2, ?_, once_push H.out.once Hn.out, fun a ha => ?_, H.out.br, H.out.bm, by rw [hl1]; omega, H.out.nr, H.out.nm, ?_, ?_⟩, KeepH.trans (KeepH.ofBelow HB.out) (KeepH.trans (KeepH.ofMap HU.out.fn H.out.bm H.out.nm HKu.out) p4)⟩
    · have : (L ++ [e]).length = L.length + 1 := by simp
      rw [this]
      exact p3.ext fun x _ => by rw [whr_push H.out.once Hn.out, HN.out]
    · rcases List.mem_append.1 ha with ha | ha
      · exact H.out.wf a ha
      · simp at ha; subst ha; exact Hw.out
    · intro k hk hW
      simp only [Value.ownBlock, Option.some.injEq] at hk
      subst hk
      rcases hat with h1 | h1
      · exact hnl _ h1 hW
      · have h2 := Watch.lt _ hW
        have h3 := H.out.lim
        have h4 := HB.out.size
        have h5 := HKu.out.size
        omega
    · exact Nat.le_trans H.out.lim (Nat.le_trans HB.out.size (Nat.le_trans HKu.out.size p4.size))
end Go.Proofs.YtpchjpmkkiopiaaGreat
namespace Go.Proofs.YtpchjpmkkiopiaaGreat
open Go.RowKit Go.Lib

set_option maxRecDepth 100000 in
set_option maxHeartbeats 2000000 in
theorem hPush_any [Watch] {base r m : Nat} {lv : Value} {L : List En} {e : En} (w : World) (h : RowIs base w r m lv L) (hh : Hp (pos L) L.length) (hw : (kx e.name).wf = true) (hn : whr L e.name = none) (hl : L.length < 100000) :
    Calls Tryz.prog 70 #[.iface 107 (.pointer (some ⟨r, 0, none⟩)), .iface 133 (env e)] w fun en w' => en = .returned (.tuple #[]) ∧ ∃ lv' L', RowIs base w' r m lv' L' ∧ Hp (pos L') L'.length ∧ L'.Perm (L ++ [e]) ∧ KeepH base w w' := by
  have mP : ∀ w, (method 287 107 (.pointer (some ⟨r, 0, none⟩)) "Push").run Tryz.prog w = .ok (117, .pointer (some ⟨r, 0, none⟩)) w := fun _ => by kernel_rfl
  have mN : ∀ w, (method 287 107 (.pointer (some ⟨r, 0, none⟩)) "Len").run Tryz.prog w = .ok (114, .pointer (some ⟨r, 0, none⟩)) w := fun _ => by kernel_rfl
  have eP : ∀ args w, (callFunc 117 args).run Tryz.prog w = .ok (.enter 117 args) w := fun _ _ => by kernel_rfl
  have eN : ∀ args w, (callFunc 114 args).run Tryz.prog w = .ok (.enter 114 args) w := fun _ _ => by kernel_rfl
  have hlen : (L ++ [e]).length = L.length + 1 := by simp
  have hu : UpI (pos (L ++ [e])) (L.length + 1) L.length := up_push (fun k k0 hk => by
    have := par_lt k0
    rw [pos_push_lt hk, pos_push_lt (by omega)]
    exact hh k k0 hk)
  have H := Lib.hid h
  have Hu := Lib.hid hu
  have Hw := Lib.hid hw
  have Hn := Lib.hid hn
  have Hl := Lib.hid hl
  have HLen := Lib.hid hlen
  obtain ⟨n, hnn⟩ : ∃ n, n = L.length := ⟨_, rfl⟩
  have HN := Lib.hid hnn
  have hn1 : n < 100000 := by omega
  have hwr : IntKind.i64.wrap (((n + 1 : Nat) : Int) - 1) = (n : Int) := (IntWalk.i64_in _ (by omega)).trans (by omega)
  obtain ⟨n1, hn1e⟩ : ∃ n1, n1 = n + 1 := ⟨_, rfl⟩
  rw [← hn1e] at hwr
  have HN1 := Lib.hid hn1e
  clear h hu hw hn hl hh hlen hnn hn1e
  go_enter Tryz.func70, Tryz.ntmps70
  go_wp2_with fail
  refine (rPush_any w H.out Hw.out Hn.out Hl.out).mono ?_
  rintro en w2 ⟨rfl, lv2, hr2, hk2⟩
  have HR2 := Lib.hid hr2
  have HK2 := Lib.hid hk2
  have hLn := rLen_any w2 hr2
  rw [HLen.out, ← HN.out, ← HN1.out] at hLn
  have HLn := Lib.hid hLn
  clear hr2 hk2 hLn
  go_wp2_with fail
  refine HLn.out.mono ?_
  rintro en w3 ⟨rfl, rfl⟩
  go_wp2_with fail
  refine (up_any n n1 w2 HR2.out (by rw [HLen.out, HN1.out, HN.out]; omega) (by have := HN1.out; omega) (by rw [HN1.out, HN.out]; exact Hu.out)).mono ?_
  rintro en w4 ⟨rfl, L', hr4, hp4, hpm, hl4, -, hk4⟩
  have HE := Lib.hid (show ∃ lv' L', RowIs base w4 r m lv' L' ∧ Hp (pos L') L'.length ∧ L'.Perm (L ++ [e]) ∧ KeepH base w w4 from ⟨lv2, L', hr4, by rw [hl4, HLen.out, ← HN.out, ← HN1.out]; exact hp4, hpm, KeepH.trans HK2.out hk4⟩)
  clear hr4 hp4 hpm hl4 hk4
  go_wp2
  go_end0
  exact ⟨rfl, HE.out⟩
end Go.Proofs.YtpchjpmkkiopiaaGreat
