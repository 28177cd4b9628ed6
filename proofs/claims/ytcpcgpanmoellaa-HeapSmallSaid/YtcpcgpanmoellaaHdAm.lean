import Derived.Test.YtcpcgpanmoellaaRfDm
import Derived.Test.YtcpcgpanmoellaaShS
namespace Go.Proofs.Ytcpcgpanmoellaa
open Go.RowKit Go.Lib

set_option maxHeartbeats 1000000 in
theorem rDrop {base r : Nat} {v : Value} {M : List En} (x : Int) (w : World) (h : Rq base w r v M) (ho : Once M) (hbase : base ≤ w.heap.size) :
    Calls Try.prog 37 #[.pointer (some ⟨r, 0, none⟩), .int .i64 x] w fun en w' => en = .returned (.bool (hasN M x)) ∧ ∃ v', Rq base w' r v' (dropN M x) ∧ Keeps (fun k => k = r) w w' ∧ ∀ k, v'.ownBlock = some k → v.ownBlock = some k ∨ w.heap.size ≤ k := by
  cases hb : hasN M x with
  | true =>
    obtain ⟨e, he, hn⟩ := hasN_iff.1 hb
    obtain ⟨i, hi, hie⟩ := List.mem_iff_getElem.1 he
    have hp : (pos M i).name = x := by rw [pos_get hi, hie]; exact hn
    rw [← hp]
    refine (rDrop_yes w h ho hi hbase).mono ?_
    rintro en w1 ⟨h1, v', h2, h3, h4⟩
    exact ⟨h1, v', h2, h3, fun k hk => .inr (h4 k hk)⟩
  | false =>
    have HA := Lib.hid (rAt_no x w h hb)
    have H := Lib.hid h
    rw [dropN_none hb]
    clear h ho hb
    go_enter Try.func37, Try.ntmps37
    go_wp2_with fail
    refine HA.out.mono ?_
    rintro e w1 ⟨rfl, rfl⟩
    go_wp2
    go_ret
    exact ⟨rfl, v, H.out, Keeps.refl _ _, fun _ h => .inl h⟩
set_option maxRecDepth 100000 in
set_option maxHeartbeats 2000000 in
theorem rTake0 {base r : Nat} {v : Value} (w : World) (h : Rq base w r v []) :
    Calls Try.prog 36 #[.pointer (some ⟨r, 0, none⟩)] w fun e w' => e = .returned (.tuple #[.agg #[.int .i64 0, .int .i64 0], .bool false]) ∧ Below w.heap.size w w' := by
  have H := Lib.hid h
  clear h
  go_enter Try.func36, Try.ntmps36
  go_upto_region 1 with (fail)
  refine gen_world (S := fun u => Below w.heap.size w u ∧ u.heap[w.heap.size]? = some (.cells #[.int .i64 0, .int .i64 0] 79 (0, 0))) (one_new w _) (fun u hu => ?_)
  obtain ⟨hb, hx⟩ := hu
  have HU := Lib.hid (H.out.later hb)
  have HB := Lib.hid hb
  have HX := Lib.hid hx
  clear hb hx
  go_wp2_with fail
  refine (rFirst0 u HU.out).mono ?_
  rintro e w1 ⟨rfl, hb1⟩
  have HX1 := Lib.hid ((hb1.block _ (lt_of_block HX.out)).trans HX.out)
  have f0 : w1.frozen? ⟨w.heap.size, 0, none⟩ = false := (block_cell' HX1.out 0).2
  have f1 : w1.frozen? ⟨w.heap.size, 1, none⟩ = false := (block_cell' HX1.out 1).2
  obtain ⟨x0, x1⟩ := two_box HX1.out
  have hlt := lt_of_block HX1.out
  have HB1 := Lib.hid hb1
  clear hb1
  go_wp2
  have hset : Keeps (fun k => k = w.heap.size) w1 ((w1.setCell ⟨w.heap.size, 0, none⟩ (.int .i64 0)).setCell ⟨w.heap.size, 1, none⟩ (.int .i64 0)) := ((Keeps.refl (fun k => k = w.heap.size) _).setCell (p := ⟨w.heap.size, 0, none⟩) rfl _).setCell (p := ⟨w.heap.size, 1, none⟩) rfl _
  have hb2 : (((w1.setCell ⟨w.heap.size, 0, none⟩ (.int .i64 0)).setCell ⟨w.heap.size, 1, none⟩ (.int .i64 0)).alloc (.cells #[.int .i64 0, .int .i64 0] 79)).heap[w.heap.size]? = some (.cells #[.int .i64 0, .int .i64 0] 79 (0, 0)) := (Below.heap_alloc _ _ _ (Nat.lt_of_lt_of_le hlt hset.size)).trans (block_setCell' (block_setCell' HX1.out))
  obtain ⟨q0, q1⟩ := two_box hb2
  have hB := Below.keeps (HB.out.trans (HB1.out.mono HB.out.size)) hset (Nat.le_refl _)
  exact bodyPost_ret (v := .tuple #[.agg #[.int .i64 0, .int .i64 0], .bool false]) (by simp [results, Try.f36, go_sem, q0, q1]) rfl ⟨rfl, hB.alloc hB.size _⟩
set_option maxRecDepth 100000 in
set_option maxHeartbeats 2000000 in
theorem rTake {base r : Nat} {v : Value} {t : Int} {M : List En} {e : En} (w : World) (h : Rq base w r v M) (ht : Trn t M) (he : FirstN M e) (hbase : base ≤ w.heap.size) :
    Calls Try.prog 36 #[.pointer (some ⟨r, 0, none⟩)] w fun en w' => en = .returned (.tuple #[.agg #[.int .i64 e.key, .int .i64 e.name], .bool true]) ∧ ∃ v', Rq base w' r v' (dropN M e.name) ∧ Keeps (fun k => k = r) w w' ∧ ∀ k, v'.ownBlock = some k → v.ownBlock = some k ∨ w.heap.size ≤ k := by
  have H := Lib.hid h
  have HT := Lib.hid ht
  have HF := Lib.hid he
  clear h ht he
  go_enter Try.func36, Try.ntmps36
  go_upto_region 1 with (fail)
  refine gen_world (S := fun u => Below w.heap.size w u ∧ u.heap[w.heap.size]? = some (.cells #[.int .i64 0, .int .i64 0] 79 (0, 0))) (one_new w _) (fun u hu => ?_)
  obtain ⟨hb, hx⟩ := hu
  have HU := Lib.hid (H.out.later hb)
  have HB := Lib.hid hb
  have HX := Lib.hid hx
  clear hb hx
  go_wp2_with fail
  refine (rFirst u HU.out HT.out HF.out).mono ?_
  rintro en w1 ⟨rfl, hb1⟩
  have HX1 := Lib.hid ((hb1.block _ (lt_of_block HX.out)).trans HX.out)
  have HQ1 := Lib.hid (HU.out.later hb1)
  have hlt := lt_of_block HX1.out
  have HB1 := Lib.hid (HB.out.trans (hb1.mono HB.out.size))
  clear hb1
  go_wp2_with fail
  refine (rDrop e.name _ (HQ1.out.later ((Below.refl _ _).alloc (Nat.le_refl _) _)) HT.out.once (by have := HB1.out.size; simp; omega)).mono ?_
  rintro en w4 ⟨rfl, v', hr, hk, hv'⟩
  have hrl := lt_of_block HQ1.out.blk
  have hX4 := hk.obj ((Below.heap_alloc _ _ _ hlt).trans HX1.out) (fun e => by
    have h5 := H.out.blk
    have := lt_of_block h5
    omega)
  have hY4 := hk.obj (heap_alloc_new w1 _) (fun e => by omega)
  have HX4 := Lib.hid hX4
  have HR4 := Lib.hid hr
  have HK4 := Lib.hid hk
  have HV4 := Lib.hid hv'
  obtain ⟨y0, y1⟩ := two_box hY4
  obtain ⟨x0, x1⟩ := two_box hX4
  have f0 : w4.frozen? ⟨w.heap.size, 0, none⟩ = false := (block_cell' hX4 0).2
  have f1 : w4.frozen? ⟨w.heap.size, 1, none⟩ = false := (block_cell' hX4 1).2
  clear hX4 hY4 hr hk hv' hlt hrl
  go_wp2
  have hset : Keeps (fun k => k = w.heap.size) w4 ((w4.setCell ⟨w.heap.size, 0, none⟩ (.int .i64 e.key)).setCell ⟨w.heap.size, 1, none⟩ (.int .i64 e.name)) := ((Keeps.refl (fun k => k = w.heap.size) w4).setCell (p := ⟨w.heap.size, 0, none⟩) rfl _).setCell (p := ⟨w.heap.size, 1, none⟩) rfl _
  have hb2 : ((w4.setCell ⟨w.heap.size, 0, none⟩ (.int .i64 e.key)).setCell ⟨w.heap.size, 1, none⟩ (.int .i64 e.name)).heap[w.heap.size]? = some (.cells #[.int .i64 e.key, .int .i64 e.name] 79 (0, 0)) := block_setCell' (block_setCell' HX4.out)
  obtain ⟨q0, q1⟩ := two_box hb2
  have hs1 := HB1.out.size
  have hK1 : Keeps (fun k => k = r) w w4 := (Keeps.ofNew (HB1.out.alloc hs1 _) _).trans HK4.out
  have hvx : ∀ k, v'.ownBlock = some k → v.ownBlock = some k ∨ w.heap.size ≤ k := fun k hk => by
    rcases HV4.out k hk with h | h
    · exact .inl h
    · right
      simp at h
      omega
  refine bodyPost_ret (v := .tuple #[.agg #[.int .i64 e.key, .int .i64 e.name], .bool true]) (by simp [results, Try.f36, go_sem, q0, q1]) rfl ⟨rfl, v', ?_, Keeps.set_new hK1 hset (Nat.le_refl _), hvx⟩
  refine ⟨hset.obj HR4.out.blk (fun e => ?_), Keeps.row hset HR4.out.row (fun k hk e => ?_), HR4.out.le⟩
  · have := lt_of_block H.out.blk
    omega
  · rcases HV4.out k hk with h | h
    · have := (H.out.row.lt k h).2
      omega
    · simp at h
      omega
/-- things of a list, as they come. -/
def takeAll : Nat → List En → List En → Prop
  | 0, M, out => M = [] ∧ out = []
  | n + 1, M, out => ∃ e r, FirstN M e ∧ out = e :: r ∧ takeAll n (dropN M e.name) r
theorem takeAll_sorted {t : Int} : ∀ (n : Nat) (M S : List En), Trn t M → S.Perm M → S.Pairwise En.le → ∀ out, takeAll n M out → out = S
  | 0, M, S, _, hp, _, out, h => by
    obtain ⟨h1, h2⟩ := h
    subst h1
    rw [h2, hp.eq_nil]
  | n + 1, M, S, ht, hp, hs, out, h => by
    obtain ⟨e, r, h1, rfl, h2⟩ := h
    cases S with
    | nil => exact absurd (hp.mem_iff.2 h1.1) (by simp)
    | cons s S' =>
      have hf : FirstN M s := ⟨hp.mem_iff.1 (by simp), fun a ha => by
        rcases List.mem_cons.1 (hp.mem_iff.2 ha) with rfl | h3
        · exact En.le_refl _
        · exact (List.pairwise_cons.1 hs).1 a h3⟩
      obtain rfl := first_one ht h1 hf
      have hp2 : S'.Perm (dropN M e.name) := drop_perm ht.once ((List.perm_append_singleton _ _).trans hp)
      rw [takeAll_sorted n (dropN M e.name) S' (ht.drop _) hp2 (List.pairwise_cons.1 hs).2 r h2]
end Go.Proofs.Ytcpcgpanmoellaa
namespace Go.Proofs.Ytcpcgpanmoellaa
open Go.RowKit Go.Lib

theorem rq_news {w : World} {base n cap : Nat} {ao : Option Addr} {t : TypeId} {M : List En} (h : w.ownsRow base t 2 (.slice ao n cap) n (M.flatMap it2)) : (ao = none → n = 0 ∧ cap = 0) ∧ ∀ ad, ao = some ad → ∀ j u, (M.flatMap it2)[j]? = some u → w.cell? (ad.add j) = some u := by
  rcases h.2 with ⟨hv, h0⟩ | ⟨g, cap', cur, hv, _, hg, _, _, _, ht⟩
  · simp only [Value.slice.injEq] at hv
    obtain ⟨rfl, rfl, rfl⟩ := hv
    exact ⟨fun _ => ⟨rfl, rfl⟩, fun ad h => by simp at h⟩
  · simp only [Value.slice.injEq] at hv
    obtain ⟨rfl, -, rfl⟩ := hv
    refine ⟨fun h => by simp at h, fun ad had j u hj => ?_⟩
    simp only [Option.some.injEq] at had
    subst had
    rw [add_none, Nat.zero_add, (block_cell' hg _).1]
    rw [← ht] at hj
    have h2 := hj
    rw [List.getElem?_take] at h2
    split at h2
    · simpa using h2
    · simp at h2
/-- while all are taken. -/
structure AlS (w : World) (M : List En) (t : Int) (o : Nat) (vo : Value) (wr : World) (vL : Value) (M' out : List En) : Prop where
  rq : Rq w.heap.size wr o vL M'
  trn : Trn t M'
  row : wr.ownsRow w.heap.size 79 2 vo out.length (out.flatMap it2)
  sep : ∀ k, vo.ownBlock = some k → ¬ vL.ownBlock = some k
  more : ∀ rest, takeAll M'.length M' rest → takeAll M.length M (out ++ rest)
  len : out.length + M'.length = M.length
  bel : Below w.heap.size w wr
  ob : w.heap.size ≤ o
def lenAt (o : Nat) (wr : World) : Nat := match wr.cell? ⟨o, 0, none⟩ with | some (.slice _ n _) => n | _ => 0
theorem AlS.lenAt {w : World} {M : List En} {t : Int} {o : Nat} {vo : Value} {wr : World} {vL : Value} {M' out : List En} (h : AlS w M t o vo wr vL M' out) : Go.Proofs.Ytcpcgpanmoellaa.lenAt o wr = M'.length := by
  obtain ⟨ao, cap, rfl⟩ := own_val h.rq.row
  have c0 := (block_cell' h.rq.blk 0).1
  simp only [List.getElem?_toArray, List.getElem?_cons_zero] at c0
  unfold Go.Proofs.Ytcpcgpanmoellaa.lenAt
  rw [c0]
theorem first_ex {M : List En} (h : M ≠ []) : ∃ e, FirstN M e := by
  induction M with
  | nil => exact absurd rfl h
  | cons a r ih =>
    by_cases hr : r = []
    · subst hr
      exact ⟨a, by simp, fun b hb => by simp at hb; subst hb; exact En.le_refl _⟩
    · obtain ⟨e, he, hm⟩ := ih hr
      by_cases hl : En.le a e
      · exact ⟨a, by simp, fun b hb => by
          rcases List.mem_cons.1 hb with rfl | hb
          · exact En.le_refl _
          · exact En.le_trans hl (hm b hb)⟩
      · exact ⟨e, by simp [he], fun b hb => by
          rcases List.mem_cons.1 hb with rfl | hb
          · exact En.le_total hl
          · exact hm b hb⟩
set_option maxRecDepth 100000 in
set_option maxHeartbeats 4000000 in
theorem rAll {base r : Nat} {v : Value} {t : Int} {M : List En} (w : World) (h : Rq base w r v M) (ht : Trn t M) :
    Calls Try.prog 43 #[.pointer (some ⟨r, 0, none⟩)] w fun e w' => ∃ (vo : Value) (out : List En), e = .returned vo ∧ w'.ownsRow w.heap.size 79 2 vo out.length (out.flatMap it2) ∧ takeAll M.length M out ∧ Below w.heap.size w w' := by
  obtain ⟨i0, hi0, hz0, hz1, hz2⟩ := info_parts Try.infoRItem
  have HT := Lib.hid ht
  have c0 := (block_cell' h.blk 0).1
  simp only [List.getElem?_toArray, List.getElem?_cons_zero] at c0
  have hrl := lt_of_block h.blk
  obtain ⟨ao, cap, rfl⟩ := own_val h.row
  have HRow := Lib.hid h.row
  have hle := h.le
  obtain ⟨n, hn⟩ : ∃ n, n = M.length := ⟨_, rfl⟩
  have HN := Lib.hid hn
  rw [← hn] at c0 hle HRow
  have hb0 : Below w.heap.size w (w.alloc (.cells #[] 79)) := (Below.refl _ _).alloc (Nat.le_refl _) _
  have hrow0 := row_kept (S := fun _ => False) HRow.out (Keeps.ofNew hb0 _) (fun _ _ _ h => h)
  obtain ⟨hnn, hnews⟩ := rq_news hrow0
  have HNn := Lib.hid hnn
  have HNw := Lib.hid hnews
  have hfl : (M.flatMap it2).length = n * 2 := by rw [flat_len it2_len, ← hn]
  have HFl := Lib.hid hfl
  have HB0 := Lib.hid hb0
  clear h ht hn hb0 hrow0 hnn hnews hfl
  go_enter Try.func43, Try.ntmps43
  go_wp2_with (at_builtin; refine wpList_append_own_any _ rfl (.tmp 7) (.tmp 11) 47 rfl w.heap.size 79 i0 _ 2 16 Try.underlying47 hi0 hz0 hz1 hz2 rfl (by decide) (.slice (some ⟨w.heap.size, 0, none⟩) 0 0) 0 [] rfl (empty_row (heap_alloc_new w _) (Nat.le_refl _)) ao n cap (M.flatMap it2) rfl HFl.out HNn.out HNw.out (flat_it2_one _) (by unfold maxLen; omega) (by omega) (by simp) ?_; intro v1 w1 hown1 hgrow1; simp only [Nat.zero_add, List.nil_append] at hown1; obtain ⟨ao1, cap1, rfl⟩ := own_val hown1)
  have hb1 : Below w.heap.size w w1 := HB0.out.grown hgrow1 HB0.out.size (fun k hk => by simp [Value.ownBlock] at hk; omega)
  have hn1 := hb1.size
  have hs0 : AlS w M t w1.heap.size (.slice none 0 0) (w1.alloc (.cells #[.slice ao1 n cap1] 49)) (.slice ao1 n cap1) M [] := by
    have hal := (Below.refl w1.heap.size w1).alloc (Nat.le_refl _) (.cells #[.slice ao1 n cap1] 49)
    refine ⟨⟨heap_alloc_new w1 _, by rw [← HN.out]; exact row_kept (S := fun _ => False) hown1 (Keeps.ofNew hal _) (fun _ _ _ h => h), by rw [← HN.out]; exact hle⟩, HT.out, World.ownsRow_nil _ _ _ _, fun k hk => by simp [Value.ownBlock] at hk, fun rest h => by simpa using h, by simp, hb1.trans (hal.mono hn1), hn1⟩
  have HS0 := Lib.hid hs0
  obtain ⟨o, ho⟩ : ∃ o, o = w1.heap.size := ⟨_, rfl⟩
  rw [← ho] at HS0
  clear hown1 hgrow1 hb1 hs0
  go_wp2
  rw [← ho]
  clear ho
  go_loopw [4] (fun vo wr => ∃ vL M' out, AlS w M t o vo wr vL M' out) (fun _ wr => Go.Proofs.Ytcpcgpanmoellaa.lenAt o wr)
  case atStart => exact ⟨_, _, _, HS0.out⟩
  case round =>
    obtain ⟨vL, M', out, hs⟩ := hrel
    have HS := Lib.hid hs
    have hlen := hs.lenAt
    have c0 := (block_cell' hs.rq.blk 0).1
    simp only [List.getElem?_toArray, List.getElem?_cons_zero] at c0
    obtain ⟨aL, cL, rfl⟩ := own_val hs.rq.row
    obtain ⟨aO, cO, rfl⟩ := own_val hs.row
    by_cases hM : M' = []
    · have hm := hs.more [] (by rw [hM]; exact ⟨rfl, rfl⟩)
      rw [List.append_nil] at hm
      have HM := Lib.hid hm
      have hz : M'.length = 0 := by rw [hM]; rfl
      rw [hz] at c0
      have HRw := Lib.hid hs.row
      clear hs hM hm hz hlen
      go_wp2
      go_ret
      exact ⟨_, out, rfl, HRw.out, HM.out, HS.out.bel⟩
    · obtain ⟨e, he⟩ := first_ex hM
      have hpos : 0 < M'.length := List.length_pos_iff.2 hM
      have hpos2 : (0 : Int) < (M'.length : Int) := by omega
      have HTk := Lib.hid (rTake wr hs.rq hs.trn he hs.bel.size)
      have HF := Lib.hid he
      have HLen := Lib.hid hlen
      have hsz := hs.bel.size
      have hol := hs.len
      have hMl : M.length ≤ 100000 := by rw [← HN.out]; exact hle
      have hdl := dropN_len hs.trn.once (hasN_iff.2 ⟨e, he.1, rfl⟩)
      have HDl := Lib.hid hdl
      clear hs hM he hlen hdl
      go_wp2_with fail
      refine HTk.out.mono ?_
      rintro en w3 ⟨rfl, v3, hr3, hk3, hv3⟩
      have hrow3 : w3.ownsRow w.heap.size 79 2 (.slice aO out.length cO) out.length (out.flatMap it2) := Keeps.row hk3 HS.out.row (fun k hk e => by
        have h5 := HS.out.rq.blk
        exact own_ne' h5 (by decide) HS.out.row (by rw [hk, e]))
      have HR3 := Lib.hid hr3
      have HK3 := Lib.hid hk3
      have HV3 := Lib.hid hv3
      have HRow3 := Lib.hid hrow3
      have hsz3 := hk3.size
      have hnw : ((w3.alloc (.cells #[.int .i64 e.key, .int .i64 e.name] 79)).alloc (.cells #[.int .i64 e.key, .int .i64 e.name] 79)).heap[w3.heap.size + 1]? = some (.cells #[.int .i64 e.key, .int .i64 e.name] 79 (0, 0)) := by
        have := heap_alloc_new (w3.alloc (.cells #[.int .i64 e.key, .int .i64 e.name] 79)) (.cells #[.int .i64 e.key, .int .i64 e.name] 79)
        rw [World.size_alloc] at this
        exact this
      have HNw3 := Lib.hid hnw
      clear hr3 hk3 hv3 hrow3 c0 hnw
      go_wp2_with (at_builtin; refine wpList_append_mine _ rfl (.tmp 26) (.tmp 28) 47 rfl w.heap.size 79 i0 _ 2 16 Try.underlying47 hi0 hz0 hz1 hz2 rfl (by decide) (.slice aO out.length cO) out.length (out.flatMap it2) rfl ((HRow3.out.alloc _).alloc _) (some ⟨w3.heap.size + 1, 0, none⟩) 1 1 [.int .i64 e.key, .int .i64 e.name] rfl rfl (fun h => by simp at h) (fun ad had j u hj => by cases had; exact World.news_of_block HNw3.out j u hj) (by simp [Value.oneCell']) (by unfold maxLen; omega) (by omega) (by simp; omega) ?_; intro v4 w4 hown4 hgrow4 hown4b)
      have hk4 : Keeps (fun k => (Value.slice aO out.length cO).ownBlock = some k) w3 w4 := (((Keeps.refl (fun k => (Value.slice aO out.length cO).ownBlock = some k) w3).alloc _).alloc _).grown hgrow4 (fun k hk => hk)
      have hvo : ∀ k, (Value.slice aO out.length cO).ownBlock = some k → w.heap.size ≤ k ∧ k < wr.heap.size := fun k hk => HS.out.row.lt k hk
      have hE : AlS w M t o v4 w4 v3 (dropN M' e.name) (out ++ [e]) := by
        have hl1 : (out ++ [e]).length = out.length + 1 := by simp
        refine ⟨⟨hk4.obj HR3.out.blk (fun h5 => own_ne' HR3.out.blk (by decide) HRow3.out h5), Keeps.row hk4 HR3.out.row (fun k hk h5 => ?_), HR3.out.le⟩, HS.out.trn.drop _, ?_, fun k hk h5 => ?_, fun rest hrest => ?_, ?_, ?_, HS.out.ob⟩
        · rcases HV3.out k hk with h6 | h6
          · exact HS.out.sep k h5 h6
          · have := (hvo k h5).2
            omega
        · rw [hl1, List.flatMap_append]
          simpa [it2] using hown4
        · have h7 := (HR3.out.row.lt k h5).2
          rcases hown4b k hk with h6 | h6
          · rcases HV3.out k h5 with h8 | h8
            · exact HS.out.sep k h6 h8
            · have := (hvo k h6).2
              omega
          · simp at h6
            omega
        · rw [List.append_assoc]
          refine HS.out.more _ ?_
          rw [← HDl.out]
          exact ⟨e, rest, HF.out, rfl, hrest⟩
        · rw [hl1]
          have := HDl.out
          omega
        · exact HS.out.bel.trans ((Keeps.below HK3.out hsz (fun k h5 => by rw [h5]; exact HS.out.ob)).trans (Keeps.below hk4 (by omega) (fun k h5 => (hvo k h5).1)))
      have HE := Lib.hid hE
      have hme : Go.Proofs.Ytcpcgpanmoellaa.lenAt o w4 < Go.Proofs.Ytcpcgpanmoellaa.lenAt o wr := by
        rw [hE.lenAt, HLen.out]
        have := HDl.out
        omega
      have HMe := Lib.hid hme
      clear hk4 hvo hE hme hown4 hgrow4 hown4b
      go_wp2
      go_roundw
      case rel => exact ⟨_, _, _, HE.out⟩
      case measure => exact HMe.out
end Go.Proofs.Ytcpcgpanmoellaa
namespace Go.Proofs.Ytcpcgpanmoellaa
open Go.RowKit Go.Lib

/-- things, wherever they lie. -/
def ItC (w : World) (v : Value) (l : List (Int × Int)) : Prop :=
  ∃ ao b off cap, v = .slice ao l.length cap ∧ (0 < l.length → ao = some ⟨b, off, none⟩ ∧ b < w.heap.size) ∧
    ∀ i (h : i < l.length), w.cell? ⟨b, off + i * 2, none⟩ = some (.int .i64 l[i].1) ∧ w.cell? ⟨b, off + i * 2 + 1, none⟩ = some (.int .i64 l[i].2)
theorem ite_one (x : Int × Int) : ∀ u ∈ ite x, u.oneCell' = true := by intro u hu; simp [ite] at hu; rcases hu with rfl | rfl <;> rfl
set_option maxRecDepth 100000 in
set_option maxHeartbeats 4000000 in
theorem items_any {v : Value} {l : List (Int × Int)} (w : World) (hv : ItC w v l) (hl : l.length ≤ 100000) :
    Calls Try.prog 18 #[v] w fun e w' => ∃ vo, e = .returned vo ∧ w'.ownsRow w.heap.size 79 2 vo l.length (l.flatMap ite) ∧ Below w.heap.size w w' := by
  obtain ⟨i0, hi0, hz0, hz1, hz2⟩ := info_parts Try.infoRItem
  obtain ⟨ao, b, off, cap, rfl, h1, h2⟩ := hv
  have HAo := Lib.hid h1
  have HC := Lib.hid h2
  obtain ⟨n, hn⟩ : ∃ n, n = l.length := ⟨_, rfl⟩
  have HN := Lib.hid hn
  rw [← hn] at hl ⊢
  clear h1 h2 hn
  go_enter Try.func18, Try.ntmps18
  go_wp2
  go_loopw [3, 4] (fun vo i wr => ∃ k : Nat, k ≤ n ∧ i = .int .i64 k ∧ wr.ownsRow w.heap.size 79 2 vo k ((l.take k).flatMap ite) ∧ Below w.heap.size w wr) (fun _ i _ => n - (intOf i).toNat)
  case atStart => exact ⟨0, Nat.zero_le _, rfl, World.ownsRow_nil _ _ _ _, Below.refl _ _⟩
  case round =>
    obtain ⟨k, hk, rfl, hrow, hb⟩ := hrel
    have HRow := Lib.hid hrow
    have HB := Lib.hid hb
    obtain ⟨vo, vc, rfl⟩ := own_val hrow
    by_cases hlt : k < n
    · have hlt2 : (k : Int) < n := by omega
      obtain ⟨rfl, hbl⟩ := HAo.out (by rw [← HN.out]; omega)
      obtain ⟨v0, v1⟩ := HC.out k (by rw [← HN.out]; exact hlt)
      have d0 := (hb.cell (p := ⟨b, _, none⟩) hbl).trans v0
      have d1 := (hb.cell (p := ⟨b, _, none⟩) hbl).trans v1
      obtain ⟨p, hp⟩ : ∃ p, p = l[k]'(by rw [← HN.out]; exact hlt) := ⟨_, rfl⟩
      rw [← hp] at d0 d1
      have HP := Lib.hid (show l.take (k + 1) = l.take k ++ [p] by rw [hp]; exact take_snoc' l k (by rw [← HN.out]; exact hlt))
      have hsz := hb.size
      clear hrow hb v0 v1 hp
      go_upto_region 5 with (fail)
      go_region_law (refine step_append_lies _ (by rfl) _ _ _ (by rfl) w.heap.size 79 i0 _ 2 16 Try.underlying47 hi0 hz0 hz1 hz2 rfl (by omega) (.slice vo k vc) k ((l.take k).flatMap ite) (by rfl) (((Keeps.drew (Keeps.refl (fun _ => False) wr)).row HRow.out (fun _ _ h => h)).alloc _) ⟨wr.heap.size, 0, none⟩ 1 1 [.int .i64 p.1, .int .i64 p.2] (by rfl) (by rfl) (World.news_of_block (cs := #[.int .i64 p.1, .int .i64 p.2]) (t := 79) (fr := (0, 0)) (heap_alloc_new wr.drew _)) (by simp [Value.oneCell']) (by omega) (by unfold maxLen; omega) (by omega) (by simp; omega) (wr.heap.size + 1) (by simp) ?_; intro g gcap w2 hown2 hgrow hat hlt3)
      all_goals
        have hb2 : Below w.heap.size w w2 := HB.out.trans ((((Below.refl w.heap.size wr).drew.alloc hsz _)).grown hgrow (by simp; omega) (fun j hj => (HRow.out.lt j hj).1))
        have hr2 : w2.ownsRow w.heap.size 79 2 (.slice (some ⟨g, 0, none⟩) (k + 1) gcap) (k + 1) ((l.take (k + 1)).flatMap ite) := by
          rw [HP.out, List.flatMap_append]
          exact hown2
        have HB2 := Lib.hid hb2
        have HR2 := Lib.hid hr2
        clear hb2 hr2 hown2 hgrow hat hlt3
        go_wp2
        go_roundw
        case rel => exact ⟨k + 1, by omega, by go_num, HR2.out, HB2.out⟩
        case measure => simp [intOf]; omega
    · have hkn : k = n := by omega
      have hk3 : ¬ (k : Int) < n := by omega
      have hE : wr.ownsRow w.heap.size 79 2 (.slice vo k vc) n (l.flatMap ite) := by
        have h5 := HRow.out
        rw [show l.take k = l by rw [hkn, HN.out, List.take_length]] at h5
        rw [← hkn]
        exact h5
      have HE := Lib.hid hE
      clear hrow hb hkn hE hlt
      go_wp2
      go_ret
      exact ⟨_, rfl, HE.out, HB.out⟩
/-- an owned row of things, read. -/
theorem own_cells2 {w : World} {base n cap : Nat} {ao : Option Addr} {t : TypeId} {l : List (Int × Int)} (hn : n = l.length) (h : w.ownsRow base t 2 (.slice ao n cap) n (l.flatMap ite)) :
    ∃ b : Nat, (0 < l.length → ao = some ⟨b, 0, none⟩ ∧ ∃ cs, w.heap[b]? = some (.cells cs t (0, 0))) ∧ ∀ i (h : i < l.length), w.cell? ⟨b, 0 + i * 2, none⟩ = some (.int .i64 l[i].1) ∧ w.cell? ⟨b, 0 + i * 2 + 1, none⟩ = some (.int .i64 l[i].2) := by
  subst hn
  rcases h.2 with ⟨hv, h0⟩ | ⟨g, cap', cur, hv, _, hg, hnc, hcm, hcs, ht⟩
  · exact ⟨0, fun h => by omega, fun i hi => by omega⟩
  · simp only [Value.slice.injEq] at hv
    obtain ⟨rfl, -, rfl⟩ := hv
    refine ⟨g, fun _ => ⟨rfl, _, hg⟩, fun i hi => ?_⟩
    have hc : ∀ c, c < 2 → w.cell? ⟨g, 0 + i * 2 + c, none⟩ = (ite l[i])[c]? := fun c hc => by
      rw [(block_cell' hg _).1, ← flat_get ite_len l i c hi hc, Nat.zero_add, ← ht, List.getElem?_take_of_lt (by omega)]
      simp
    exact ⟨hc 0 (by omega), hc 1 (by omega)⟩
end Go.Proofs.Ytcpcgpanmoellaa
namespace Go.Proofs.Ytcpcgpanmoellaa
open Go.RowKit Go.Lib Go.Shelf

theorem cloneRow {base : Nat} {v : Value} {L : List En} (w : World) (hle : L.length ≤ 100000) (h : w.ownsRow base 67 3 v L.length (L.flatMap enc)) :
    Calls Try.prog 39 #[v] w fun e w' => ∃ v', e = .returned v' ∧ w'.ownsRow w.heap.size 67 3 v' L.length (L.flatMap enc) ∧ Below w.heap.size w w' := by
  obtain ⟨i0, hi0, hz0, hz1, hz2⟩ := info_parts Try.infoEntry
  rcases h.2 with ⟨rfl, h0⟩ | ⟨g, cap, cur, rfl, hbg, hg, hnc, hcm, hcs, ht⟩
  · have hcon := AnyE.slices_Clone_nil Try.cloneE 0 0 w
    change Calls Try.prog 39 _ _ _ at hcon
    refine hcon.mono ?_
    rintro e w' ⟨rfl, rfl⟩
    exact ⟨_, rfl, ⟨h.1, .inl ⟨rfl, h0⟩⟩, Below.refl _ _⟩
  · have hnews : ∀ j u, (L.flatMap enc)[j]? = some u → w.cell? ⟨g, 0 + j, none⟩ = some u := fun j u hj => by
      rw [(block_cell' hg _).1, Nat.zero_add]
      rw [← ht, List.getElem?_take] at hj
      split at hj
      · simpa using hj
      · simp at hj
    have hle2 : L.length * 24 ≤ 140737488355328 := by omega
    have hcon := AnyE.slices_Clone Try.cloneE i0 _ 3 24 hi0 hz0 hz1 hz2 rfl (by omega) Try.sizeOf67 g 0 L.length cap (L.flatMap enc) w h.1 (Nat.le_trans hnc hcm) hle2 hnews (flat_one enc_one L)
    change Calls Try.prog 39 _ _ _ at hcon
    refine hcon.mono ?_
    rintro e w' ⟨v', rfl, h1, -, h2⟩
    exact ⟨v', rfl, h1, h2⟩
theorem cloneMap {m s : Nat} {f : Int → Option Nat} (w : World) (h : MapFn w m s f) :
    Calls Try.prog 40 #[.map (some m)] w fun e w' => e = .returned (.map (some w.heap.size)) ∧ MapFn w' w.heap.size s f ∧ Below w.heap.size w w' := by
  obtain ⟨D, h1, h2, h3⟩ := h
  have hcon := AnyW.maps_Clone_owns Try.cloneM 3 (plainElem Try.prog 3) m s D w h1
  change Calls Try.prog 40 _ _ _ at hcon
  refine hcon.mono ?_
  rintro e w' ⟨rfl, h4, -, h5⟩
  exact ⟨rfl, ⟨D, h4, h2, h3⟩, h5⟩
/-- what a copy keeps of a row, plainly. -/
structure RowIs' (base : Nat) (w : World) (r m : Nat) (lv : Value) (L : List En) : Prop where
  once : Once L
  wf : ∀ e ∈ L, (kx e.name).wf = true
  le : L.length ≤ 100000
/-- a queue under another watch. -/
theorem Qu.rewatch {J : Watch} {base q : Nat} {w w' : World} {t : Int} {M : List En} (h : @Qu J base w q t M) (hb : Below w.heap.size w w') (I : Watch) (h1 : ∀ k, k < w.heap.size → ¬ I.W k) (h2 : I.lim ≤ w'.heap.size) : @Qu I base w' q t M := by
  obtain ⟨⟨r, m, lv, L, g1, g2⟩, g3⟩ := h
  have g4 := @QuIs.later J _ _ _ _ _ _ _ _ _ g1 hb
  obtain ⟨q1, ⟨p1, p2, p3, p4, p5, p6, p7, p8, -, -, -, -⟩, q3, q4, q5⟩ := g4
  obtain ⟨-, ⟨e1, e2, e3, -⟩, -⟩ := g1
  exact ⟨⟨r, m, lv, L, ⟨q1, ⟨p1, p2, p3, p4, p5, p6, p7, p8, h1 _ (lt_of_block e1), h1 _ e3.lt, fun k hk => h1 k (e2.lt k hk).2, h2⟩, q3, q4, q5⟩, g2⟩, g3⟩
/-- a queue whose blocks are watched stays. -/
theorem Qu.watched {B base q o : Nat} {w w' : World} {t : Int} {M : List En} (h : @Qu noWatch B w o t M) (I : Watch) (hk : @KeepQ I base q w w') (hI : ∀ k, B ≤ k → k < w.heap.size → I.W k) (hq : q < B) : @Qu noWatch B w' o t M := by
  obtain ⟨⟨r, m, lv, L, g1, g2⟩, g3⟩ := h
  have hn : ∀ k, B ≤ k → k < w.heap.size → ¬ (@FootH I base w k ∨ k = q) := fun k h1 h2 hS => by
    rcases hS with hS | hS
    · exact hS.1.2 (hI k h1 h2)
    · omega
  obtain ⟨q1, ⟨p1, p2, p3, p4, p5, p6, p7, p8, p9, p10, p11, -⟩, q3, q4, q5⟩ := g1
  exact @Qu.mk noWatch _ _ _ _ _ ⟨r, m, lv, L, @QuIs.mk noWatch _ _ _ _ _ _ _ _ (Keeps.obj hk q1 (hn _ q5 (lt_of_block q1))) (@RowIs.mk noWatch _ _ _ _ _ _ (Keeps.obj hk p1 (hn _ p6 (lt_of_block p1))) (Keeps.row hk p2 (fun k hkk => hn k (p2.lt k hkk).1 (p2.lt k hkk).2)) (p3.keeps hk (hn _ p7 p3.lt)) p4 p5 p6 p7 p8 p9 p10 p11 (Nat.zero_le _)) q3 q4 q5, g2⟩ g3
end Go.Proofs.Ytcpcgpanmoellaa
namespace Go.Proofs.Ytcpcgpanmoellaa
open Go.RowKit Go.Lib

theorem copy_end {base r m : Nat} {t : Int} {lv : Value} {L M : List En} {u wx wy : World} {v1 : Value} (hrow : RowIs' base u r m lv L) (hh : Hp (pos L) L.length) (htn : ∀ e ∈ L, e.turn < t) (hp : L.Perm M) (ht : Trn t M)
    (hx : u.heap.size ≤ wx.heap.size) (hr1 : wx.ownsRow u.heap.size 67 3 v1 L.length (L.flatMap enc)) (hb2 : Below wx.heap.size wx wy) (hm2 : MapFn wy wx.heap.size L.length (whr L)) (hS2 : Below u.heap.size u wy)
    (ha1 : Below wy.heap.size wy (wy.alloc (.cells #[v1, .map (some wx.heap.size)] 62 (0, 0)))) (hg1 : (wy.alloc (.cells #[v1, .map (some wx.heap.size)] 62 (0, 0))).heap[wy.heap.size]? = some (.cells #[v1, .map (some wx.heap.size)] 62 (0, 0)))
    (ha2 : Below (wy.alloc (.cells #[v1, .map (some wx.heap.size)] 62 (0, 0))).heap.size (wy.alloc (.cells #[v1, .map (some wx.heap.size)] 62 (0, 0))) ((wy.alloc (.cells #[v1, .map (some wx.heap.size)] 62 (0, 0))).alloc (.cells #[.pointer (some ⟨wy.heap.size, 0, none⟩), .int .i64 t] 64 (0, 0))))
    (hg2 : ((wy.alloc (.cells #[v1, .map (some wx.heap.size)] 62 (0, 0))).alloc (.cells #[.pointer (some ⟨wy.heap.size, 0, none⟩), .int .i64 t] 64 (0, 0))).heap[(wy.alloc (.cells #[v1, .map (some wx.heap.size)] 62 (0, 0))).heap.size]? = some (.cells #[.pointer (some ⟨wy.heap.size, 0, none⟩), .int .i64 t] 64 (0, 0)))
    (hS4 : Below u.heap.size u ((wy.alloc (.cells #[v1, .map (some wx.heap.size)] 62 (0, 0))).alloc (.cells #[.pointer (some ⟨wy.heap.size, 0, none⟩), .int .i64 t] 64 (0, 0)))) :
    @Qu noWatch u.heap.size ((wy.alloc (.cells #[v1, .map (some wx.heap.size)] 62 (0, 0))).alloc (.cells #[.pointer (some ⟨wy.heap.size, 0, none⟩), .int .i64 t] 64 (0, 0))) (wy.heap.size + 1) t M ∧ Below u.heap.size u ((wy.alloc (.cells #[v1, .map (some wx.heap.size)] 62 (0, 0))).alloc (.cells #[.pointer (some ⟨wy.heap.size, 0, none⟩), .int .i64 t] 64 (0, 0))) := by
  obtain ⟨h5, h6, h7⟩ := hrow
  have hsz : (wy.alloc (.cells #[v1, .map (some wx.heap.size)] 62 (0, 0))).heap.size = wy.heap.size + 1 := by simp
  have hab : Below wy.heap.size wy ((wy.alloc (.cells #[v1, .map (some wx.heap.size)] 62 (0, 0))).alloc (.cells #[.pointer (some ⟨wy.heap.size, 0, none⟩), .int .i64 t] 64 (0, 0))) := ha1.trans (ha2.mono (by omega))
  have hbx := hb2.trans (hab.mono hb2.size)
  rw [hsz] at hg2
  have hyx := hb2.size
  have hn : ∀ k, ¬ @Watch.W noWatch k := fun _ h => h
  exact ⟨⟨⟨wy.heap.size, wx.heap.size, v1, L, ⟨hg2, ⟨(ha2.block _ (by omega)).trans hg1, row_kept (S := fun _ => False) hr1 (Keeps.ofNew hbx _) (fun _ _ _ h => h), hm2.keeps (S := fun _ => False) (Keeps.ofNew hab _) (fun h => h), h5, h6, by omega, hx, h7, hn _, hn _, fun k _ => hn k, Nat.zero_le _⟩, hh, htn, by omega⟩, hp⟩, ht⟩, hS4⟩
set_option maxRecDepth 100000 in
set_option maxHeartbeats 4000000 in
theorem quCopy [Watch] {base q : Nat} {t : Int} {M : List En} (u : World) (h : Qu base u q t M) :
    Calls Try.prog 20 #[.pointer (some ⟨q, 0, none⟩)] u fun e w' => ∃ o, e = .returned (.pointer (some ⟨o, 0, none⟩)) ∧ @Qu noWatch u.heap.size w' o t M ∧ Below u.heap.size u w' := by
  have HM := Lib.hid (quMade u h)
  have htrn := h.trn
  obtain ⟨⟨r, m, lv, L, h1, h2⟩, -⟩ := h
  obtain ⟨c0, c1⟩ := two_box h1.blk
  obtain ⟨d0, d1, -⟩ := h1.row.cells
  have C0 := Lib.hid c0
  have C1 := Lib.hid c1
  have D0 := Lib.hid d0
  have D1 := Lib.hid d1
  have HRw := Lib.hid (show ∀ wq, Below u.heap.size u wq → wq.ownsRow base 67 3 lv L.length (L.flatMap enc) from fun wq hb => row_kept (S := fun _ => False) h1.row.row (Keeps.ofNew hb _) (fun _ _ _ h => h))
  have HFn := Lib.hid (show ∀ wq, Below u.heap.size u wq → MapFn wq m L.length (whr L) from fun wq hb => h1.row.fn.keeps (S := fun _ => False) (Keeps.ofNew hb _) (fun h => h))
  have HEnd := Lib.hid (fun v1 wx wy => copy_end (base := base) (r := r) (m := m) (lv := lv) (u := u) (wx := wx) (wy := wy) (v1 := v1) ⟨h1.row.once, h1.row.wf, h1.row.le⟩ h1.hp h1.trn h2 htrn)
  obtain ⟨ao, cap, rfl⟩ := own_val h1.row.row
  have HLe := Lib.hid h1.row.le
  clear h1 h2 htrn c0 c1 d0 d1
  go_enter Try.func20, Try.ntmps20
  go_wp2_with fail
  refine HM.out.mono ?_
  rintro e w1 ⟨rfl, rfl⟩
  go_upto_region 3 with (fail)
  refine wp_region_held_drew (S := fun wq => Below u.heap.size u wq) (by kernel_rfl) ((Below.refl _ _).drew) (fun hS => ?_)
  refine wpAnyH_take (i := 0) (oi := ⟨_, _, _, _, _, _⟩) (v := ?v1) rfl (by kernel_rfl) (by kernel_rfl) (by kernel_rfl) (fun _ _ _ h => h) ?y1 hS ?_
  case y1 => first | (refine Or.inr ⟨by rfl, ?_⟩; with_reducible rfl) | (refine Or.inl ⟨by rfl, ?_⟩; intro wS hSw; have c0S := cell_later hSw C0.out; have c1S := cell_later hSw C1.out; have d0S := cell_later hSw D0.out; have d1S := cell_later hSw D1.out; go_simp; try with_reducible rfl)
  simp only [Act.put, List.setIfInBounds_toArray, List.set_cons_zero, List.set_cons_succ]
  refine wpAnyH_take (i := 1) (oi := ⟨_, _, _, _, _, _⟩) (v := ?v2) rfl (by kernel_rfl) (by kernel_rfl) (by kernel_rfl) (fun _ _ _ h => h) ?y2 hS ?_
  case y2 => first | (refine Or.inr ⟨by rfl, ?_⟩; with_reducible rfl) | (refine Or.inl ⟨by rfl, ?_⟩; intro wS hSw; have c0S := cell_later hSw C0.out; have c1S := cell_later hSw C1.out; have d0S := cell_later hSw D0.out; have d1S := cell_later hSw D1.out; go_simp; try with_reducible rfl)
  simp only [Act.put, List.setIfInBounds_toArray, List.set_cons_zero, List.set_cons_succ]
  refine wpAnyH_take (i := 2) (oi := ⟨_, _, _, _, _, _⟩) (v := ?v3) rfl (by kernel_rfl) (by kernel_rfl) (by kernel_rfl) (fun _ _ _ h => h) ?y3 hS ?_
  case y3 => first | (refine Or.inr ⟨by rfl, ?_⟩; with_reducible rfl) | (refine Or.inl ⟨by rfl, ?_⟩; intro wS hSw; have c0S := cell_later hSw C0.out; have c1S := cell_later hSw C1.out; have d0S := cell_later hSw D0.out; have d1S := cell_later hSw D1.out; go_simp; try with_reducible rfl)
  simp only [Act.put, List.setIfInBounds_toArray, List.set_cons_zero, List.set_cons_succ]
  refine wpAnyH_take (i := 3) (oi := ⟨_, _, _, _, _, _⟩) (v := ?v4) rfl (by kernel_rfl) (by kernel_rfl) (by kernel_rfl) (fun _ _ _ h => h) ?y4 hS ?_
  case y4 => first | (refine Or.inr ⟨by rfl, ?_⟩; with_reducible rfl) | (refine Or.inl ⟨by rfl, ?_⟩; intro wS hSw; have c0S := cell_later hSw C0.out; have c1S := cell_later hSw C1.out; have d0S := cell_later hSw D0.out; have d1S := cell_later hSw D1.out; go_simp; try with_reducible rfl)
  simp only [Act.put, List.setIfInBounds_toArray, List.set_cons_zero, List.set_cons_succ]
  refine wpAnyH_take (i := 4) (oi := ⟨_, _, _, _, _, _⟩) (v := ?v5) rfl (by kernel_rfl) (by kernel_rfl) (by kernel_rfl) (fun _ _ _ h => h) ?y5 hS ?_
  case y5 => first | (refine Or.inr ⟨by rfl, ?_⟩; with_reducible rfl) | (refine Or.inl ⟨by rfl, ?_⟩; intro wS hSw; have c0S := cell_later hSw C0.out; have c1S := cell_later hSw C1.out; have d0S := cell_later hSw D0.out; have d1S := cell_later hSw D1.out; go_simp; try with_reducible rfl)
  simp only [Act.put, List.setIfInBounds_toArray, List.set_cons_zero, List.set_cons_succ]
  refine wpAnyH_take (i := 5) (oi := ⟨_, _, _, _, _, _⟩) (v := ?v6) rfl (by kernel_rfl) (by kernel_rfl) (by kernel_rfl) (fun _ _ _ h => h) ?y6 hS ?_
  case y6 => first | (refine Or.inr ⟨by rfl, ?_⟩; with_reducible rfl) | (refine Or.inl ⟨by rfl, ?_⟩; intro wS hSw; have c0S := cell_later hSw C0.out; have c1S := cell_later hSw C1.out; have d0S := cell_later hSw D0.out; have d1S := cell_later hSw D1.out; go_simp; try with_reducible rfl)
  simp only [Act.put, List.setIfInBounds_toArray, List.set_cons_zero, List.set_cons_succ]
  refine wpAnyH_take (i := 6) (oi := ⟨_, _, _, _, _, _⟩) (v := ?v7) rfl (by kernel_rfl) (by kernel_rfl) (by kernel_rfl) (fun _ _ _ h => h) ?y7 hS ?_
  case y7 => first | (refine Or.inr ⟨by rfl, ?_⟩; with_reducible rfl) | (refine Or.inl ⟨by rfl, ?_⟩; intro wS hSw; have c0S := cell_later hSw C0.out; have c1S := cell_later hSw C1.out; have d0S := cell_later hSw D0.out; have d1S := cell_later hSw D1.out; go_simp; try with_reducible rfl)
  simp only [Act.put, List.setIfInBounds_toArray, List.set_cons_zero, List.set_cons_succ]
  refine wpAnyH_take (i := 8) (oi := ⟨_, _, _, _, _, _⟩) (v := ?v8) rfl (by kernel_rfl) (by kernel_rfl) (by kernel_rfl) (fun _ _ _ h => h) ?y8 hS ?_
  case y8 => first | (refine Or.inr ⟨by rfl, ?_⟩; with_reducible rfl) | (refine Or.inl ⟨by rfl, ?_⟩; intro wS hSw; have c0S := cell_later hSw C0.out; have c1S := cell_later hSw C1.out; have d0S := cell_later hSw D0.out; have d1S := cell_later hSw D1.out; go_simp; try with_reducible rfl)
  simp only [Act.put, List.setIfInBounds_toArray, List.set_cons_zero, List.set_cons_succ]
  refine wpAnyH_take (i := 9) (oi := ⟨_, _, _, _, _, _⟩) (v := ?v9) rfl (by kernel_rfl) (by kernel_rfl) (by kernel_rfl) (fun _ _ _ h => h) ?y9 hS ?_
  case y9 => first | (refine Or.inr ⟨by rfl, ?_⟩; with_reducible rfl) | (refine Or.inl ⟨by rfl, ?_⟩; intro wS hSw; have c0S := cell_later hSw C0.out; have c1S := cell_later hSw C1.out; have d0S := cell_later hSw D0.out; have d1S := cell_later hSw D1.out; go_simp; try with_reducible rfl)
  simp only [Act.put, List.setIfInBounds_toArray, List.set_cons_zero, List.set_cons_succ]
  refine wpAnyH_take (i := 10) (oi := ⟨_, _, _, _, _, _⟩) (v := ?v10) rfl (by kernel_rfl) (by kernel_rfl) (by kernel_rfl) (fun _ _ _ h => h) ?y10 hS ?_
  case y10 => first | (refine Or.inr ⟨by rfl, ?_⟩; with_reducible rfl) | (refine Or.inl ⟨by rfl, ?_⟩; intro wS hSw; have c0S := cell_later hSw C0.out; have c1S := cell_later hSw C1.out; have d0S := cell_later hSw D0.out; have d1S := cell_later hSw D1.out; go_simp; try with_reducible rfl)
  simp only [Act.put, List.setIfInBounds_toArray, List.set_cons_zero, List.set_cons_succ]
  refine wpAnyH_take (i := 11) (oi := ⟨_, _, _, _, _, _⟩) (v := ?v11) rfl (by kernel_rfl) (by kernel_rfl) (by kernel_rfl) (fun _ _ _ h => h) ?y11 hS ?_
  case y11 => first | (refine Or.inr ⟨by rfl, ?_⟩; with_reducible rfl) | (refine Or.inl ⟨by rfl, ?_⟩; intro wS hSw; have c0S := cell_later hSw C0.out; have c1S := cell_later hSw C1.out; have d0S := cell_later hSw D0.out; have d1S := cell_later hSw D1.out; go_simp; try with_reducible rfl)
  simp only [Act.put, List.setIfInBounds_toArray, List.set_cons_zero, List.set_cons_succ]
  refine wpAnyH_take (i := 12) (oi := ⟨_, _, _, _, _, _⟩) (v := ?v12) rfl (by kernel_rfl) (by kernel_rfl) (by kernel_rfl) (fun _ _ _ h => h) ?y12 hS ?_
  case y12 => first | (refine Or.inr ⟨by rfl, ?_⟩; with_reducible rfl) | (refine Or.inl ⟨by rfl, ?_⟩; intro wS hSw; have c0S := cell_later hSw C0.out; have c1S := cell_later hSw C1.out; have d0S := cell_later hSw D0.out; have d1S := cell_later hSw D1.out; go_simp; try with_reducible rfl)
  simp only [Act.put, List.setIfInBounds_toArray, List.set_cons_zero, List.set_cons_succ]
  refine wpAnyH_take (i := 13) (oi := ⟨_, _, _, _, _, _⟩) (v := ?v13) rfl (by kernel_rfl) (by kernel_rfl) (by kernel_rfl) (fun _ _ _ h => h) ?y13 hS ?_
  case y13 => first | (refine Or.inr ⟨by rfl, ?_⟩; with_reducible rfl) | (refine Or.inl ⟨by rfl, ?_⟩; intro wS hSw; have c0S := cell_later hSw C0.out; have c1S := cell_later hSw C1.out; have d0S := cell_later hSw D0.out; have d1S := cell_later hSw D1.out; go_simp; try with_reducible rfl)
  simp only [Act.put, List.setIfInBounds_toArray, List.set_cons_zero, List.set_cons_succ]
  refine wpAnyH_take (i := 14) (oi := ⟨_, _, _, _, _, _⟩) (v := ?v14) rfl (by kernel_rfl) (by kernel_rfl) (by kernel_rfl) (fun _ _ _ h => h) ?y14 hS ?_
  case y14 => first | (refine Or.inr ⟨by rfl, ?_⟩; with_reducible rfl) | (refine Or.inl ⟨by rfl, ?_⟩; intro wS hSw; have c0S := cell_later hSw C0.out; have c1S := cell_later hSw C1.out; have d0S := cell_later hSw D0.out; have d1S := cell_later hSw D1.out; go_simp; try with_reducible rfl)
  simp only [Act.put, List.setIfInBounds_toArray, List.set_cons_zero, List.set_cons_succ]
  refine wpAnyH_take (i := 18) (oi := ⟨_, _, _, _, _, _⟩) (v := ?v15) rfl (by kernel_rfl) (by kernel_rfl) (by kernel_rfl) (fun _ _ _ h => h) ?y15 hS ?_
  case y15 => first | (refine Or.inr ⟨by rfl, ?_⟩; with_reducible rfl) | (refine Or.inl ⟨by rfl, ?_⟩; intro wS hSw; have c0S := cell_later hSw C0.out; have c1S := cell_later hSw C1.out; have d0S := cell_later hSw D0.out; have d1S := cell_later hSw D1.out; go_simp; try with_reducible rfl)
  simp only [Act.put, List.setIfInBounds_toArray, List.set_cons_zero, List.set_cons_succ]
  refine wpAnyH_take (i := 19) (oi := ⟨_, _, _, _, _, _⟩) (v := ?v16) rfl (by kernel_rfl) (by kernel_rfl) (by kernel_rfl) (fun _ _ _ h => h) ?y16 hS ?_
  case y16 => first | (refine Or.inr ⟨by rfl, ?_⟩; with_reducible rfl) | (refine Or.inl ⟨by rfl, ?_⟩; intro wS hSw; have c0S := cell_later hSw C0.out; have c1S := cell_later hSw C1.out; have d0S := cell_later hSw D0.out; have d1S := cell_later hSw D1.out; go_simp; try with_reducible rfl)
  simp only [Act.put, List.setIfInBounds_toArray, List.set_cons_zero, List.set_cons_succ]
  refine wpAnyH_take (i := 20) (oi := ⟨_, _, _, _, _, _⟩) (v := ?v17) rfl (by kernel_rfl) (by kernel_rfl) (by kernel_rfl) (fun _ _ _ h => h) ?y17 hS ?_
  case y17 => first | (refine Or.inr ⟨by rfl, ?_⟩; with_reducible rfl) | (refine Or.inl ⟨by rfl, ?_⟩; intro wS hSw; have c0S := cell_later hSw C0.out; have c1S := cell_later hSw C1.out; have d0S := cell_later hSw D0.out; have d1S := cell_later hSw D1.out; go_simp; try with_reducible rfl)
  simp only [Act.put, List.setIfInBounds_toArray, List.set_cons_zero, List.set_cons_succ]
  refine wpAnyH_take (i := 21) (oi := ⟨_, _, _, _, _, _⟩) (v := ?v18) rfl (by kernel_rfl) (by kernel_rfl) (by kernel_rfl) (fun _ _ _ h => h) ?y18 hS ?_
  case y18 => first | (refine Or.inr ⟨by rfl, ?_⟩; with_reducible rfl) | (refine Or.inl ⟨by rfl, ?_⟩; intro wS hSw; have c0S := cell_later hSw C0.out; have c1S := cell_later hSw C1.out; have d0S := cell_later hSw D0.out; have d1S := cell_later hSw D1.out; go_simp; try with_reducible rfl)
  simp only [Act.put, List.setIfInBounds_toArray, List.set_cons_zero, List.set_cons_succ]
  refine wpAnyH_ready (rs := [7]) (by kernel_rfl) (by simp) ?_
  refine AllReadyH.cons (o := ⟨_, _, _, _, _, _⟩) rfl (fun K hK => ?_) AllReadyH.nil
  go_simp
  refine (cloneRow _ HLe.out (HRw.out _ hS)).mono ?_
  rintro e wx ⟨v1, rfl, hr1, hb1⟩
  obtain ⟨a1, cp1, rfl⟩ := own_val hr1
  have hS1 : Below u.heap.size u wx := hS.trans (hb1.mono hS.size)
  go_wp2_with fail
  refine hK.out _ _ (hS1) (fun _ => ?_)
  clear hK K
  try simp only [Act.put, List.setIfInBounds_toArray, List.set_cons_zero, List.set_cons_succ]
  refine wpAnyH_ready (rs := [15]) (by kernel_rfl) (by simp) ?_
  refine AllReadyH.cons (o := ⟨_, _, _, _, _, _⟩) rfl (fun K hK => ?_) AllReadyH.nil
  go_simp
  refine (cloneMap _ (HFn.out _ hS1)).mono ?_
  rintro e wy ⟨rfl, hm2, hb2⟩
  have hS2 : Below u.heap.size u wy := hS1.trans (hb2.mono hS1.size)
  go_wp2_with fail
  refine hK.out _ _ (hS2) (fun _ => ?_)
  clear hK K
  try simp only [Act.put, List.setIfInBounds_toArray, List.set_cons_zero, List.set_cons_succ]
  refine wpAnyH_take (i := 16) (oi := ⟨_, _, _, _, _, _⟩) (v := ?v19) rfl (by kernel_rfl) (by kernel_rfl) (by kernel_rfl) (fun _ _ _ h => h) ?y19 hS2 ?_
  case y19 => first | (refine Or.inr ⟨by rfl, ?_⟩; with_reducible rfl) | (refine Or.inl ⟨by rfl, ?_⟩; intro wS hSw; go_simp; try with_reducible rfl)
  simp only [Act.put, List.setIfInBounds_toArray, List.set_cons_zero, List.set_cons_succ]
  have hg1 := one_new wy (.cells #[.slice a1 L.length cp1, .map (some wx.heap.size)] 62 (0, 0))
  have hS3 := hS2.trans (hg1.1.mono hS2.size)
  refine wpAnyH_ready (rs := [17]) (by kernel_rfl) (by simp) ?_
  refine AllReadyH.cons (o := ⟨_, _, _, _, _, _⟩) rfl (fun K hK => ?_) AllReadyH.nil
  go_simp
  refine hK.out _ _ (hS3) (fun _ => ?_)
  clear hK K
  try simp only [Act.put, List.setIfInBounds_toArray, List.set_cons_zero, List.set_cons_succ]
  refine wpAnyH_take (i := 22) (oi := ⟨_, _, _, _, _, _⟩) (v := ?v20) rfl (by kernel_rfl) (by kernel_rfl) (by kernel_rfl) (fun _ _ _ h => h) ?y20 hS3 ?_
  case y20 => first | (refine Or.inr ⟨by rfl, ?_⟩; with_reducible rfl) | (refine Or.inl ⟨by rfl, ?_⟩; intro wS hSw; go_simp; try with_reducible rfl)
  simp only [Act.put, List.setIfInBounds_toArray, List.set_cons_zero, List.set_cons_succ]
  have hg2 := one_new (wy.alloc (.cells #[.slice a1 L.length cp1, .map (some wx.heap.size)] 62 (0, 0))) (.cells #[.pointer (some ⟨wy.heap.size, 0, none⟩), .int .i64 t] 64 (0, 0))
  have hS4 := hS3.trans (hg2.1.mono hS3.size)
  refine wpAnyH_ready (rs := [23]) (by kernel_rfl) (by simp) ?_
  refine AllReadyH.cons (o := ⟨_, _, _, _, _, _⟩) rfl (fun K hK => ?_) AllReadyH.nil
  go_simp
  refine hK.out _ _ (hS4) (fun _ => ?_)
  clear hK K
  try simp only [Act.put, List.setIfInBounds_toArray, List.set_cons_zero, List.set_cons_succ]
  refine wpAnyH_take (i := 24) (oi := ⟨_, _, _, _, _, _⟩) (v := ?v21) rfl (by kernel_rfl) (by kernel_rfl) (by kernel_rfl) (fun _ _ _ h => h) ?y21 hS4 ?_
  case y21 => first | (refine Or.inr ⟨by rfl, ?_⟩; with_reducible rfl) | (refine Or.inl ⟨by rfl, ?_⟩; intro wS hSw; go_simp; try with_reducible rfl)
  simp only [Act.put, List.setIfInBounds_toArray, List.set_cons_zero, List.set_cons_succ]
  refine wpAnyH_done (by kernel_rfl) ?_ _
  have HE := Lib.hid (HEnd.out (.slice a1 L.length cp1) wx wy hS1.size hr1 hb2 hm2 hS2 hg1.1 hg1.2 hg2.1 hg2.2 hS4)
  clear hS hS1 hS2 hS3 hS4 hg1 hg2 hr1 hb1 hm2 hb2
  go_wp2
  go_ret
  exact ⟨_, rfl, HE.out⟩
end Go.Proofs.Ytcpcgpanmoellaa
namespace Go.Proofs.Ytcpcgpanmoellaa
open Go.RowKit Go.Lib

/-- both, of the same things. -/
structure Two (B q r : Nat) (w0 w : World) (t : Int) (M : List En) (t' : Int) (M' : List En) : Prop where
  qu : Qu B w q t M
  rq : ∃ v, Rq B w r v M' ∧ ∀ k, v.ownBlock = some k → k ≠ q
  trn : Trn t' M'
  bel : Below B w0 w
  sz : B ≤ w.heap.size
  rb : B ≤ r
theorem Two.later {B q r : Nat} {w0 w w' : World} {t t' : Int} {M M' : List En} (h : Two B q r w0 w t M t' M') (hb : Below w.heap.size w w') : Two B q r w0 w' t M t' M' := by
  obtain ⟨v, h1, h2⟩ := h.rq
  exact ⟨h.qu.later hb, ⟨v, h1.later hb, h2⟩, h.trn, h.bel.trans (hb.mono h.sz), Nat.le_trans h.sz hb.size, h.rb⟩
/-- the queue was turned. -/
theorem Two.turnQ {B q r : Nat} {w0 w w' : World} {t t' t2 : Int} {M M' M2 : List En} (h : Two B q r w0 w t M t' M') (hk : KeepQ B q w w') (hq : Qu B w' q t2 M2) : Two B q r w0 w' t2 M2 t' M' := by
  obtain ⟨v, h1, h2⟩ := h.rq
  obtain ⟨cq, hcq⟩ := h.qu.qblk
  exact ⟨hq, ⟨v, h1.keepQ hk hcq, h2⟩, h.trn, h.bel.trans (hk.below h.sz hq.base), Nat.le_trans h.sz hk.size, h.rb⟩
/-- a queue stays, if the document's alone is written. -/
theorem Qu.keepR {B q : Nat} {S : Nat → Prop} {w w' : World} {t : Int} {M : List En} (h : Qu B w q t M) (hk : Keeps S w w') (hS : ∀ k, S k → ∃ cs, w.heap[k]? = some (.cells cs 49 (0, 0)) ∨ w.heap[k]? = some (.cells cs 79 (0, 0))) : Qu B w' q t M := by
  have hn : ∀ k cs tt fr, w.heap[k]? = some (.cells cs tt fr) → tt ≠ 49 → tt ≠ 79 → ¬ S k := fun k cs tt fr hc h1 h2 hk => by
    obtain ⟨ds, hd | hd⟩ := hS k hk
    · rw [hc] at hd; simp at hd; exact h1 hd.2.1
    · rw [hc] at hd; simp at hd; exact h2 hd.2.1
  obtain ⟨⟨r, m, lv, L, g1, g2⟩, g3⟩ := h
  refine ⟨⟨r, m, lv, L, ⟨hk.obj g1.blk (hn _ _ _ _ g1.blk (by decide) (by decide)), ⟨hk.obj g1.row.blk (hn _ _ _ _ g1.row.blk (by decide) (by decide)), row_kept g1.row.row hk (fun k cs hc => hn _ _ _ _ hc (by decide) (by decide)), g1.row.fn.keeps hk (fun hS' => ?_), g1.row.once, g1.row.wf, g1.row.br, g1.row.bm, g1.row.le, g1.row.nr, g1.row.nm, g1.row.nl, Nat.zero_le _⟩, g1.hp, g1.trn, g1.bq⟩, g2⟩, g3⟩
  obtain ⟨D, ⟨es, clock, h1, -⟩, -⟩ := g1.row.fn
  obtain ⟨ds, hd | hd⟩ := hS m hS'
  · rw [h1] at hd; simp at hd
  · rw [h1] at hd; simp at hd
theorem own_typed {w : World} {base n C : Nat} {e : TypeId} {v : Value} {xs : List Value} (h : w.ownsRow base e C v n xs) {k : Nat} (hk : v.ownBlock = some k) : ∃ cs, w.heap[k]? = some (.cells cs e (0, 0)) := by
  rcases h.2 with ⟨rfl, _⟩ | ⟨g, cap, cur, rfl, _, hg, _⟩
  · simp [Value.ownBlock] at hk
  · simp [Value.ownBlock] at hk
    subst hk
    exact ⟨_, hg⟩
/-- the document's was turned. -/
theorem Two.turnR {B q r : Nat} {w0 w w' : World} {t t' t2 : Int} {M M' M2 : List En} {S : Nat → Prop} (h : Two B q r w0 w t M t' M') {v v' : Value} (hv : Rq B w r v M') (hk : Keeps S w w') (hS : ∀ k, S k → k = r ∨ v.ownBlock = some k) (hr : Rq B w' r v' M2) (hvq : ∀ k, v'.ownBlock = some k → v.ownBlock = some k ∨ w.heap.size ≤ k) (ht : Trn t2 M2) : Two B q r w0 w' t M t2 M2 := by
  have hS2 : ∀ k, S k → ∃ cs, w.heap[k]? = some (.cells cs 49 (0, 0)) ∨ w.heap[k]? = some (.cells cs 79 (0, 0)) := fun k hk => by
    rcases hS k hk with rfl | h1
    · exact ⟨_, .inl hv.blk⟩
    · obtain ⟨cs, h2⟩ := own_typed hv.row h1
      exact ⟨cs, .inr h2⟩
  have hSB : ∀ k, S k → B ≤ k := fun k hk => by
    rcases hS k hk with rfl | h1
    · exact h.rb
    · exact (hv.row.lt k h1).1
  refine ⟨h.qu.keepR hk hS2, ⟨v', hr, fun k hk2 e => ?_⟩, ht, h.bel.trans (Keeps.below hk h.sz hSB), Nat.le_trans h.sz hk.size, h.rb⟩
  obtain ⟨cq, hcq⟩ := h.qu.qblk
  rcases hvq k hk2 with h1 | h1
  · obtain ⟨cs, h2⟩ := own_typed hv.row h1
    rw [e, hcq] at h2
    simp at h2
  · have := lt_of_block hcq
    omega
/-- a slice of the document's things. -/
theorem rit_one {w : World} {b : Nat} {k n : Int} {fr : Nat × Nat} (h : w.heap[b]? = some (.cells #[.int .i64 k, .int .i64 n] 79 fr)) : ∀ i (hi : i < [(k, n)].length), w.cell? ⟨b, 0 + i * 2, none⟩ = some (.int .i64 [(k, n)][i].1) ∧ w.cell? ⟨b, 0 + i * 2 + 1, none⟩ = some (.int .i64 [(k, n)][i].2) := fun i hi => by
  have hi' : i < 1 := hi
  obtain rfl : i = 0 := by omega
  simp [World.cell?, h]
theorem it_two {w : World} {b : Nat} {k n k2 n2 : Int} {fr : Nat × Nat} (h : w.heap[b]? = some (.cells #[.int .i64 k, .int .i64 n, .int .i64 k2, .int .i64 n2] 30 fr)) : ItAt w (.slice (some ⟨b, 0, none⟩) 2 2) [(k, n), (k2, n2)] := by
  refine ⟨_, b, 0, 2, rfl, fun _ => ⟨rfl, _, _, h⟩, fun i hi => ?_⟩
  have hi' : i < 2 := hi
  rcases (show i = 0 ∨ i = 1 by omega) with rfl | rfl <;> simp [World.cell?, h]
theorem rit_two {w : World} {b : Nat} {k n k2 n2 : Int} {fr : Nat × Nat} (h : w.heap[b]? = some (.cells #[.int .i64 k, .int .i64 n, .int .i64 k2, .int .i64 n2] 79 fr)) : ∀ i (hi : i < [(k, n), (k2, n2)].length), w.cell? ⟨b, 0 + i * 2, none⟩ = some (.int .i64 [(k, n), (k2, n2)][i].1) ∧ w.cell? ⟨b, 0 + i * 2 + 1, none⟩ = some (.int .i64 [(k, n), (k2, n2)][i].2) := fun i hi => by
  have hi' : i < 2 := hi
  rcases (show i = 0 ∨ i = 1 by omega) with rfl | rfl <;> simp [World.cell?, h]
/-- both are put. -/
theorem two_putQ {B q r : Nat} {w0 : World} {t t' : Int} {M M' : List En} {v : Value} {l : List (Int × Int)} (w : World) (h : Two B q r w0 w t M t' M') (hv : ItAt w v l) (hw : ∀ x ∈ l, (kx x.2).wf = true) (hl : M.length + l.length ≤ 100000) (ht : t + l.length ≤ 1000000) :
    Calls Try.prog 9 #[.pointer (some ⟨q, 0, none⟩), v] w fun en w' => en = .returned (.int .i64 (putE (putQ t M l).1)) ∧ Two B q r w0 w' (putQ t M l).2.1 (putQ t M l).2.2 t' M' ∧ (∀ (k : Nat) (cs : Array Value) (tt : TypeId) (fr : Nat × Nat), w.heap[k]? = some (.cells cs tt fr) → tt ∉ [62, 67, 64] → w'.heap[k]? = some (.cells cs tt fr)) ∧ (∀ v, Rq B w r v M' → Rq B w' r v M') ∧ w.heap.size ≤ w'.heap.size := by
  refine (quPut w h.qu hv hw hl ht).mono ?_
  rintro en w1 ⟨rfl, h1, h2⟩
  obtain ⟨cq, hcq⟩ := h.qu.qblk
  exact ⟨rfl, h.turnQ h2 h1, fun k cs tt fr hc htt => h2.cells hc (fun h5 => htt (by simp only [List.mem_cons, List.not_mem_nil, or_false] at h5 ⊢; rcases h5 with h5 | h5 <;> simp [h5])) (fun e => htt (by rw [e, hcq] at hc; simp at hc; simp [← hc.2.1])), fun v hv => hv.keepQ h2 hcq, h2.size⟩
theorem two_putR {B q r b : Nat} {w0 w1 : World} {t t' : Int} {M M' : List En} {l : List (Int × Int)} (w : World) (h1' : Two B q r w0 w1 t M t' M') (hbel : Below w1.heap.size w1 w) (hl : M'.length + l.length ≤ 100000) (hb : w1.heap.size ≤ b) (hc : ∀ i (h : i < l.length), w.cell? ⟨b, 0 + i * 2, none⟩ = some (.int .i64 l[i].1) ∧ w.cell? ⟨b, 0 + i * 2 + 1, none⟩ = some (.int .i64 l[i].2)) :
    Calls Try.prog 17 #[.pointer (some ⟨r, 0, none⟩), .slice (some ⟨b, 0, none⟩) l.length l.length] w fun en w' => en = .returned (.int .i64 (putE (putQ t' M' l).1)) ∧ Two B q r w0 w' t M (putQ t' M' l).2.1 (putQ t' M' l).2.2 ∧ (∀ (k : Nat) (cs : Array Value) (tt : TypeId) (fr : Nat × Nat), w.heap[k]? = some (.cells cs tt fr) → tt ∉ [49, 79] → w'.heap[k]? = some (.cells cs tt fr)) := by
  have h := h1'.later hbel
  obtain ⟨v, hv0, hvq⟩ := h1'.rq
  have hv := hv0.later hbel
  have h1 : b ≠ r := by have := lt_of_block hv0.blk; omega
  have h2 : ¬ v.ownBlock = some b := fun e => by have := (hv0.row.lt b e).2; omega
  refine (rPut w hv h.trn h.sz hl (fun _ => rfl) h1 h2 hc).mono ?_
  rintro en w1 ⟨rfl, v', h3, h4, h5⟩
  refine ⟨rfl, h.turnR hv h4 (fun _ h => h) h3 h5 (putQ_trn l t' M' h.trn), fun k cs tt fr hc htt => h4.obj hc (fun hS => ?_)⟩
  rcases hS with rfl | hS
  · rw [hv.blk] at hc
    simp at hc
    exact htt (by simp [← hc.2.1])
  · obtain ⟨ds, hd⟩ := own_typed hv.row hS
    rw [hd] at hc
    simp at hc
    exact htt (by simp [← hc.2.1])
theorem two_putR2 {B q r b : Nat} {w0 : World} {t t' : Int} {M M' : List En} {v : Value} {l : List (Int × Int)} (w : World) (h : Two B q r w0 w t M t' M') (hv : Rq B w r v M') (h1 : b ≠ r) (h2 : ¬ v.ownBlock = some b) (hl : M'.length + l.length ≤ 100000) (hc : ∀ i (h : i < l.length), w.cell? ⟨b, 0 + i * 2, none⟩ = some (.int .i64 l[i].1) ∧ w.cell? ⟨b, 0 + i * 2 + 1, none⟩ = some (.int .i64 l[i].2)) :
    Calls Try.prog 17 #[.pointer (some ⟨r, 0, none⟩), .slice (some ⟨b, 0, none⟩) l.length l.length] w fun en w' => en = .returned (.int .i64 (putE (putQ t' M' l).1)) ∧ Two B q r w0 w' t M (putQ t' M' l).2.1 (putQ t' M' l).2.2 ∧ (∀ (k : Nat) (cs : Array Value) (tt : TypeId) (fr : Nat × Nat), w.heap[k]? = some (.cells cs tt fr) → tt ∉ [49, 79] → w'.heap[k]? = some (.cells cs tt fr)) := by
  refine (rPut w hv h.trn h.sz hl (fun _ => rfl) h1 h2 hc).mono ?_
  rintro en w1 ⟨rfl, v', h3, h4, h5⟩
  refine ⟨rfl, h.turnR hv h4 (fun _ h => h) h3 h5 (putQ_trn l t' M' h.trn), fun k cs tt fr hc htt => h4.obj hc (fun hS => ?_)⟩
  rcases hS with rfl | hS
  · rw [hv.blk] at hc
    simp at hc
    exact htt (by simp [← hc.2.1])
  · obtain ⟨ds, hd⟩ := own_typed hv.row hS
    rw [hd] at hc
    simp at hc
    exact htt (by simp [← hc.2.1])
/-- blocks of other kinds stay. -/
abbrev Stay (w w' : World) : Prop := ∀ (k : Nat) (cs : Array Value) (tt : TypeId) (fr : Nat × Nat), w.heap[k]? = some (.cells cs tt fr) → tt ∉ [62, 67, 64, 49, 79] → w'.heap[k]? = some (.cells cs tt fr)
theorem stayQ {B q : Nat} {w w' : World} {cq : Array Value} {fq : Nat × Nat} (h2 : KeepQ B q w w') (hcq : w.heap[q]? = some (.cells cq 64 fq)) : Stay w w' := fun k cs tt fr hc htt =>
  h2.cells hc (fun h5 => htt (by simp only [List.mem_cons, List.not_mem_nil, or_false] at h5 ⊢; rcases h5 with h5 | h5 <;> simp [h5])) (fun e => htt (by rw [e, hcq] at hc; simp at hc; simp [← hc.2.1]))
theorem stayR {B r : Nat} {S : Nat → Prop} {w w' : World} {v : Value} {M : List En} (hv : Rq B w r v M) (h4 : Keeps S w w') (hS : ∀ k, S k → k = r ∨ v.ownBlock = some k) : Stay w w' := fun k cs tt fr hc htt => h4.obj hc (fun hk => by
  rcases hS k hk with rfl | hk
  · rw [hv.blk] at hc
    simp at hc
    exact htt (by simp [← hc.2.1])
  · obtain ⟨ds, hd⟩ := own_typed hv.row hk
    rw [hd] at hc
    simp at hc
    exact htt (by simp [← hc.2.1]))
theorem two_dropQ {B q r : Nat} {w0 : World} {t t' : Int} {M M' : List En} (x : Int) (w : World) (h : Two B q r w0 w t M t' M') (hx : (kx x).wf = true) :
    Calls Try.prog 11 #[.pointer (some ⟨q, 0, none⟩), .int .i64 x] w fun en w' => en = .returned (.bool (hasN M x)) ∧ Two B q r w0 w' t (dropN M x) t' M' ∧ Stay w w' := by
  refine (quDrop x w h.qu hx).mono ?_
  rintro en w1 ⟨rfl, h1, h2⟩
  obtain ⟨cq, hcq⟩ := h.qu.qblk
  exact ⟨rfl, h.turnQ h2 h1, stayQ h2 hcq⟩
theorem two_dropR {B q r : Nat} {w0 : World} {t t' : Int} {M M' : List En} (x : Int) (w : World) (h : Two B q r w0 w t M t' M') :
    Calls Try.prog 37 #[.pointer (some ⟨r, 0, none⟩), .int .i64 x] w fun en w' => en = .returned (.bool (hasN M' x)) ∧ Two B q r w0 w' t M t' (dropN M' x) ∧ Stay w w' := by
  obtain ⟨v, hv, hvq⟩ := h.rq
  refine (rDrop x w hv h.trn.once h.sz).mono ?_
  rintro en w1 ⟨rfl, v', h3, h4, h5⟩
  exact ⟨rfl, h.turnR hv h4 (fun _ h => .inl h) h3 h5 (h.trn.drop x), stayR hv h4 (fun _ h => .inl h)⟩
def mvE (b : Bool) : Int := if b = true then 0 else 5
theorem two_moveQ {B q r : Nat} {w0 : World} {t t' : Int} {M M' : List En} (x k : Int) (w : World) (h : Two B q r w0 w t M t' M') (hx : (kx x).wf = true) :
    Calls Try.prog 12 #[.pointer (some ⟨q, 0, none⟩), .int .i64 x, .int .i64 k] w fun en w' => en = .returned (.int .i64 (mvE (hasN M x))) ∧ Two B q r w0 w' t (moveN M x k) t' M' ∧ Stay w w' := by
  refine (quMove x k w h.qu hx).mono ?_
  rintro en w1 ⟨rfl, h1, h2⟩
  obtain ⟨cq, hcq⟩ := h.qu.qblk
  exact ⟨rfl, h.turnQ h2 h1, stayQ h2 hcq⟩
theorem two_moveR {B q r : Nat} {w0 : World} {t t' : Int} {M M' : List En} (x k : Int) (w : World) (h : Two B q r w0 w t M t' M') :
    Calls Try.prog 38 #[.pointer (some ⟨r, 0, none⟩), .int .i64 x, .int .i64 k] w fun en w' => en = .returned (.int .i64 (mvE (hasN M' x))) ∧ Two B q r w0 w' t M t' (moveN M' x k) ∧ Stay w w' := by
  obtain ⟨v, hv, hvq⟩ := h.rq
  refine (rMove x k w hv h.trn.once).mono ?_
  rintro en w1 ⟨rfl, h3, h4⟩
  exact ⟨rfl, h.turnR hv h4 (fun _ h => .inr h) h3 (fun _ h => .inl h) (h.trn.move x k), stayR hv h4 (fun _ h => .inr h)⟩
theorem two_takeQ {B q r : Nat} {w0 : World} {t t' : Int} {M M' : List En} {e : En} (w : World) (h : Two B q r w0 w t M t' M') (he : FirstN M e) :
    Calls Try.prog 13 #[.pointer (some ⟨q, 0, none⟩)] w fun en w' => en = .returned (.tuple #[.agg #[.int .i64 e.key, .int .i64 e.name], .bool true]) ∧ Two B q r w0 w' t (dropN M e.name) t' M' ∧ Stay w w' := by
  refine (quTake_is w h.qu he).mono ?_
  rintro en w1 ⟨rfl, h1, h2⟩
  obtain ⟨cq, hcq⟩ := h.qu.qblk
  exact ⟨rfl, h.turnQ h2 h1, stayQ h2 hcq⟩
theorem two_takeR {B q r : Nat} {w0 : World} {t t' : Int} {M M' : List En} {e : En} (w : World) (h : Two B q r w0 w t M t' M') (he : FirstN M' e) :
    Calls Try.prog 36 #[.pointer (some ⟨r, 0, none⟩)] w fun en w' => en = .returned (.tuple #[.agg #[.int .i64 e.key, .int .i64 e.name], .bool true]) ∧ Two B q r w0 w' t M t' (dropN M' e.name) ∧ Stay w w' := by
  obtain ⟨v, hv, hvq⟩ := h.rq
  refine (rTake w hv h.trn he h.sz).mono ?_
  rintro en w1 ⟨rfl, v', h3, h4, h5⟩
  exact ⟨rfl, h.turnR hv h4 (fun _ h => .inl h) h3 h5 (h.trn.drop _), stayR hv h4 (fun _ h => .inl h)⟩
theorem stayBelow {w w' : World} (h : Below w.heap.size w w') : Stay w w' := fun k _ _ _ hc _ => (h.block k (lt_of_block hc)).trans hc
theorem wrap_wf (z : Int) : (kx (IntKind.i64.wrap z)).wf = true := by
  simp [Lit.wf, IntKind.wrap, IntKind.min, IntKind.max, IntKind.signed, IntKind.bits]
  omega
end Go.Proofs.Ytcpcgpanmoellaa
