import Derived.Test.YtpchjpmkkiopiaaGreatMdCm
namespace Go.Proofs.YtpchjpmkkiopiaaGreat
open Go.RowKit Go.Lib

/-- what lies behind k in a row, as an append's news. -/
theorem c_tail {α : Type} {f : α → List Value} {C : Nat} (hf : ∀ x, (f x).length = C) (hC : 0 < C) {B n cap k : Nat} {t : TypeId} {w : World} {ao : Option Addr} {S : List α} (h : w.ownsRow B t C (.slice ao n cap) n (S.flatMap f)) (hn : n = S.length) (hk : k ≤ n) :
    ((if cap = k then ao else ao.map fun a => a.add (k * C)) = none → n - k = 0) ∧ ∀ ad, (if cap = k then ao else ao.map fun a => a.add (k * C)) = some ad → ∀ j u, ((S.drop k).flatMap f)[j]? = some u → w.cell? (ad.add j) = some u := by
  have hc := own_cap h
  by_cases h0 : k = n
  · refine ⟨fun _ => by omega, fun ad _ j u hj => ?_⟩
    rw [List.drop_of_length_le (by omega)] at hj
    simp at hj
  · obtain ⟨g, cap', hv⟩ := own_shape h (by omega)
    simp only [Value.slice.injEq, true_and] at hv
    obtain ⟨rfl, rfl⟩ := hv
    rw [if_neg (by omega)]
    refine ⟨fun e => by simp at e, fun ad e => ?_⟩
    simp only [Option.map_some, Option.some.injEq] at e
    subst e
    rw [add_none, Nat.zero_add]
    exact part_newsC hf hC h k (S.drop k) part_dropC
/-- the first k of a row, as an append's news. -/
theorem c_head {α : Type} {f : α → List Value} {C : Nat} (hf : ∀ x, (f x).length = C) (hC : 0 < C) {B n cap k : Nat} {t : TypeId} {w : World} {ao : Option Addr} {S : List α} (h : w.ownsRow B t C (.slice ao n cap) n (S.flatMap f)) (hn : n = S.length) (hk : k ≤ n) :
    (ao = none → k = 0) ∧ ∀ ad, ao = some ad → ∀ j u, ((S.take k).flatMap f)[j]? = some u → w.cell? (ad.add j) = some u := by
  have hc := own_cap h
  by_cases h0 : k = 0
  · refine ⟨fun _ => h0, fun ad _ j u hj => ?_⟩
    subst h0
    simp at hj
  · obtain ⟨g, cap', hv⟩ := own_shape h (by omega)
    simp only [Value.slice.injEq, true_and] at hv
    obtain ⟨rfl, rfl⟩ := hv
    refine ⟨fun e => by simp at e, fun ad e => ?_⟩
    simp only [Option.some.injEq] at e
    subst e
    have := part_newsC hf hC h 0 (S.take k) part_takeC
    simpa using this
/-- a drop's first half: the keys are there without one. -/
structure DrH (base r : Nat) (w wr : World) (kv : Value) (la : Option Addr) (n lc : Nat) (room peak : Int) (D E : List Rec) : Prop where
  blk : wr.heap[r]? = some (.cells #[.int .i64 room, .int .i64 peak, kv, .slice la n lc] 84 (0, 0))
  keys : wr.ownsRow base 56 3 kv E.length (E.flatMap rck)
  ents : wr.ownsRow base 58 5 (.slice la n lc) n (D.flatMap rcx)
  kept : Keeps (fun k => k = r) w wr
  fresh : ∀ k, kv.ownBlock = some k → w.heap.size ≤ k
theorem store4 {w : World} {r i : Nat} {a0 a1 a2 a3 v : Value} {t : TypeId} (h : w.heap[r]? = some (.cells #[a0, a1, a2, a3] t (0, 0))) (hi : i < 4) : (w.setCell ⟨r, i, none⟩ v).heap[r]? = some (.cells (#[a0, a1, a2, a3].setIfInBounds i v) t (0, 0)) := block_setCell' h
set_option maxRecDepth 100000 in
set_option maxHeartbeats 8000000 in
theorem rmDrop_yes {base r i : Nat} {kv lv : Value} {room peak : Int} {D : List Rec} (w : World) (h : Rm base w r kv lv room peak D) (hi : i < D.length) (hbase : base ≤ w.heap.size) :
    Calls Tryz.prog 18 #[.pointer (some ⟨r, 0, none⟩), kyv D[i].k] w fun en w' => en = .returned (.bool true) ∧ ∃ kv' lv', Rm base w' r kv' lv' room peak (dropK D D[i].k) ∧ (∀ k, kv'.ownBlock = some k → w.heap.size ≤ k) ∧ Keeps (fun k => k = r) w w' := by
  have H := Lib.hid h
  have hdr := dropK_at h.once hi
  have hlen : (D.take i ++ D.drop (i + 1)).length = i + (D.length - (i + 1)) := by rw [List.length_append, List.length_take, List.length_drop, Nat.min_eq_left (by omega)]
  obtain ⟨x, hx⟩ : ∃ x, x = D[i].k := ⟨_, rfl⟩
  have hat := atK_at h.once hi
  rw [← hx] at hdr hat ⊢
  have HA := Lib.hid (fun (u : World) (hu : Rm base u r kv lv room peak D) => rmAt_any x u hu)
  rw [hat] at HA
  obtain ⟨n, hn⟩ : ∃ n, n = D.length := ⟨_, rfl⟩
  have HN := Lib.hid hn
  have HDr := Lib.hid hdr
  rw [← hn] at hlen
  have HLn := Lib.hid hlen
  obtain ⟨ka, kc, rfl⟩ := own_val h.keys
  obtain ⟨la, lc, rfl⟩ := own_val h.ents
  have hck := own_cap h.keys
  have hcl := own_cap h.ents
  have hle := h.le
  rw [← hn] at hck hcl hle hi H HA
  have hin : i + 1 ≤ n := by omega
  have hi3 : ¬ (i : Int) < 0 := by omega
  have hs0 : (0 : Int) ≤ (i : Int) := by omega
  have hsk : (i : Int) ≤ kc := by omega
  have hsl : (i : Int) ≤ lc := by omega
  have hs1 : (0 : Int) ≤ (i : Int) + 1 := by omega
  have hs2 : (i : Int) + 1 ≤ n := by omega
  have hs3 : ((i : Int) + 1).toNat = i + 1 := by omega
  have hw1 : IntKind.i64.wrap ((i : Int) + 1) = (i : Int) + 1 := IntWalk.i64_in _ (by omega)
  obtain ⟨hck1, hck2⟩ := hck
  obtain ⟨hcl1, hcl2⟩ := hcl
  have HMx := Lib.hid (And.intro hck2 hcl2)
  unfold maxLen at hck2 hcl2
  clear h hdr hn hx hat hlen
  obtain ⟨i0, hi0, hz0, hz1, hz2⟩ := info_parts Tryz.infoRKey
  obtain ⟨j0, hj0, hy0, hy1, hy2⟩ := info_parts Tryz.infoREnt
  go_enter Tryz.func18, Tryz.ntmps18
  go_upto_region 1 with (fail)
  refine gen_world (S := fun u => Below w.heap.size w u ∧ u.heap[w.heap.size]? = some (.cells #[.int .i64 x.rule, .int .i64 x.level, .int .i64 x.place] 56 (0, 0))) (one_new w _) (fun u hu => ?_)
  obtain ⟨hb, hx⟩ := hu
  obtain ⟨X, hX⟩ : ∃ X, X = w.heap.size := ⟨_, rfl⟩
  rw [← hX] at hx ⊢
  have HB := Lib.hid hb
  obtain ⟨x0, x1, x2, -⟩ := three_box hx
  have Hu := Lib.hid (H.out.later hb)
  clear hX hb hx
  go_wp2_with fail
  refine (HA.out u (by have := Hu.out; rw [HN.out] at this ⊢; exact this)).mono ?_
  rintro e w1 ⟨rfl, hb1⟩
  have HB1 := Lib.hid (HB.out.trans (hb1.mono HB.out.size))
  have H1 := Lib.hid (Hu.out.later hb1)
  clear hb1 x0 x1 x2
  go_upto_region 4 with (fail)
  have w1blk := Lib.hid H1.out.blk
  have w1row := Lib.hid H1.out.keys
  have w1ent := Lib.hid H1.out.ents
  rw [← HN.out] at w1row w1ent
  apply cut_hid
  · intro key
    have hblk := w1blk.out
    obtain ⟨c0, c1, c2, c3⟩ := four_boxM hblk
    have f2 : w1.frozen? ⟨r, 2, none⟩ = false := (block_cell' hblk 2).2
    have hrl := lt_of_block hblk
    have hl1 : ((D.take i).flatMap rck).length = i * 3 := by rw [flat_len rck_len, List.length_take, ← HN.out, Nat.min_eq_left (by omega)]
    have hl2 : ((D.drop (i + 1)).flatMap rck).length = (n - (i + 1)) * 3 := by rw [flat_len rck_len, List.length_drop, ← HN.out]
    have HL1 := Lib.hid hl1
    have HL2 := Lib.hid hl2
    have HNw1 := Lib.hid (fun W (hb : Below w1.heap.size w1 W) => c_head (k := i) rck_len (by omega) (row_later w1row.out hb) HN.out (by omega))
    have HNw2 := Lib.hid (fun W (hb : Below w1.heap.size w1 W) => c_tail (k := i + 1) rck_len (by omega) (row_later w1row.out hb) HN.out (by omega))
    clear hblk hl1 hl2
    go_region_law (first
      | (refine step_append_tu (by rfl) (.tmp 12) (.tmp 18) 53 53 (by rfl) w1.heap.size 56 56 i0 _ 3 24 Tryz.underlying53 Tryz.underlying53 hi0 hz0 hz1 hz2 rfl (by decide) (some ⟨w1.heap.size, 0, none⟩) 0 0 [] (by rfl) (empty_rowC (heap_alloc_new w1 _) (Nat.le_refl _)) ka i kc ((D.take i).flatMap rck) (by rfl) (HNw1.out _ (Below.refl _ _)).1 HL1.out (HNw1.out _ ((Below.refl _ w1).alloc (Nat.le_refl _) _).drew).2 (rck_one _) (by unfold maxLen; omega) (by omega) (by simp) ?_; intro v2 w2 hown2 hgrow2; simp only [Nat.zero_add, List.nil_append] at hown2; obtain ⟨a2, p2, rfl⟩ := own_val hown2; have hb2 : Below w1.heap.size w1 w2 := (((Below.refl _ w1).alloc (Nat.le_refl _) _).drew).grown hgrow2 (by simp) (fun k hk => by simp [Value.ownBlock] at hk; omega); have e0 : w2.cell? ⟨r, 2, none⟩ = some (.slice ka n kc) := (hb2.cell (p := ⟨r, 2, none⟩) hrl).trans c2; have e1 : w2.frozen? ⟨r, 2, none⟩ = false := (hb2.frozen (p := ⟨r, 2, none⟩) hrl).trans f2; have HB2 := Lib.hid hb2; clear hb2)
      | (refine step_append_tu (by rfl) (.tmp 19) (.tmp 26) 53 53 (by rfl) w1.heap.size 56 56 i0 _ 3 24 Tryz.underlying53 Tryz.underlying53 hi0 hz0 hz1 hz2 rfl (by decide) a2 i p2 ((D.take i).flatMap rck) (by rfl) hown2 (if kc = i + 1 then ka else Option.map (fun a => a.add ((i + 1) * 3)) ka) (n - (i + 1)) (kc - (i + 1)) ((D.drop (i + 1)).flatMap rck) (by rfl) (HNw2.out _ HB2.out).1 HL2.out (HNw2.out _ HB2.out).2 (rck_one _) (by unfold maxLen; omega) (by omega) HB2.out.size ?_; intro v3 w3 hown3 hgrow3; obtain ⟨a3, p3, rfl⟩ := own_val hown3; have hb3 : Below w1.heap.size w1 w3 := HB2.out.grown hgrow3 HB2.out.size (fun k hk => (hown2.lt k hk).1); have e2 : w3.cell? ⟨r, 2, none⟩ = some (.slice ka n kc) := (hb3.cell (p := ⟨r, 2, none⟩) hrl).trans c2; have e3 : w3.frozen? ⟨r, 2, none⟩ = false := (hb3.frozen (p := ⟨r, 2, none⟩) hrl).trans f2; have HB3 := Lib.hid hb3; clear hb3))
    all_goals
      have hset : Keeps (fun k => k = r) w3 (w3.setCell ⟨r, 2, none⟩ (.slice a3 (i + (n - (i + 1))) p3)) := (Keeps.refl (fun k => k = r) w3).setCell (p := ⟨r, 2, none⟩) rfl _
      have hblk3 := (HB3.out.block r hrl).trans w1blk.out
      have hE : DrH base r w1 (w3.setCell ⟨r, 2, none⟩ (.slice a3 (i + (n - (i + 1))) p3)) (.slice a3 (i + (n - (i + 1))) p3) la n lc room peak D (dropK D x) := by
        refine ⟨store4 hblk3 (by omega), ?_, hset.row (row_later w1ent.out HB3.out) (fun k hk e => ?_), (Keeps.ofNew HB3.out _).trans hset, fun k hk => (hown3.lt k hk).1⟩
        · rw [HDr.out, HLn.out, List.flatMap_append]
          refine ownsRow_base (hset.row hown3 (fun k hk e => ?_)) (Nat.le_trans hbase HB1.out.size)
          subst e
          exact own_ne' hblk3 (by decide) hown3 hk
        · subst e
          exact own_ne' hblk3 (by decide) (row_later w1ent.out HB3.out) hk
      generalize w3.setCell ⟨r, 2, none⟩ (.slice a3 (i + (n - (i + 1))) p3) = wE at hE ⊢
      clear hset hblk3 hown3 hgrow3 e2 e3 HB3 hown2 hgrow2 e0 e1 HB2
      clear w3 w2
      generalize (if kc = i + 1 then ka else Option.map (fun a => a.add ((i + 1) * 3)) ka) = tk
      revert hE
      revert wE
      revert tk
      revert p3
      revert a3
      revert p2
      revert a2
      exact key.out
  · intro a2' p2' a3' p3' tk wE hE
    have HH := Lib.hid hE
    have wEblk := Lib.hid hE.blk
    have wEent := Lib.hid hE.ents
    clear hE w1blk w1row w1ent
    go_upto_region 5 with (fail)
    have hblk := wEblk.out
    obtain ⟨c0, c1, c2, c3⟩ := four_boxM hblk
    have f3 : wE.frozen? ⟨r, 3, none⟩ = false := (block_cell' hblk 3).2
    have hrl := lt_of_block hblk
    have hl1 : ((D.take i).flatMap rcx).length = i * 5 := by rw [flat_len rcx_len, List.length_take, ← HN.out, Nat.min_eq_left (by omega)]
    have hl2 : ((D.drop (i + 1)).flatMap rcx).length = (n - (i + 1)) * 5 := by rw [flat_len rcx_len, List.length_drop, ← HN.out]
    have HL1 := Lib.hid hl1
    have HL2 := Lib.hid hl2
    have HNw1 := Lib.hid (fun W (hb : Below wE.heap.size wE W) => c_head (k := i) rcx_len (by omega) (row_later wEent.out hb) HN.out (by omega))
    have HNw2 := Lib.hid (fun W (hb : Below wE.heap.size wE W) => c_tail (k := i + 1) rcx_len (by omega) (row_later wEent.out hb) HN.out (by omega))
    clear hblk hl1 hl2
    go_region_law (first
      | (refine step_append_tu (by rfl) (.tmp 31) (.tmp 37) 82 82 (by rfl) wE.heap.size 58 58 j0 _ 5 72 Tryz.underlying82 Tryz.underlying82 hj0 hy0 hy1 hy2 rfl (by decide) (some ⟨wE.heap.size, 0, none⟩) 0 0 [] (by rfl) (empty_rowC (heap_alloc_new wE _) (Nat.le_refl _)) la i lc ((D.take i).flatMap rcx) (by rfl) (HNw1.out _ (Below.refl _ _)).1 HL1.out (HNw1.out _ ((Below.refl _ wE).alloc (Nat.le_refl _) _).drew).2 (rcx_one (fun q hq => H.out.one q (List.mem_of_mem_take hq))) (by unfold maxLen; omega) (by omega) (by simp) ?_; intro v2 w2 hown2 hgrow2; simp only [Nat.zero_add, List.nil_append] at hown2; obtain ⟨a2, p2, rfl⟩ := own_val hown2; have hb2 : Below wE.heap.size wE w2 := (((Below.refl _ wE).alloc (Nat.le_refl _) _).drew).grown hgrow2 (by simp) (fun k hk => by simp [Value.ownBlock] at hk; omega); have e0 : w2.cell? ⟨r, 3, none⟩ = some (.slice la n lc) := (hb2.cell (p := ⟨r, 3, none⟩) hrl).trans c3; have e1 : w2.frozen? ⟨r, 3, none⟩ = false := (hb2.frozen (p := ⟨r, 3, none⟩) hrl).trans f3; have HB2 := Lib.hid hb2; clear hb2)
      | (refine step_append_tu (by rfl) (.tmp 38) (.tmp 45) 82 82 (by rfl) wE.heap.size 58 58 j0 _ 5 72 Tryz.underlying82 Tryz.underlying82 hj0 hy0 hy1 hy2 rfl (by decide) a2 i p2 ((D.take i).flatMap rcx) (by rfl) hown2 (if lc = i + 1 then la else Option.map (fun a => a.add ((i + 1) * 5)) la) (n - (i + 1)) (lc - (i + 1)) ((D.drop (i + 1)).flatMap rcx) (by rfl) (HNw2.out _ HB2.out).1 HL2.out (HNw2.out _ HB2.out).2 (rcx_one (fun q hq => H.out.one q (List.mem_of_mem_drop hq))) (by unfold maxLen; omega) (by omega) HB2.out.size ?_; intro v3 w3 hown3 hgrow3; obtain ⟨a3, p3, rfl⟩ := own_val hown3; have hb3 : Below wE.heap.size wE w3 := HB2.out.grown hgrow3 HB2.out.size (fun k hk => (hown2.lt k hk).1); have e2 : w3.cell? ⟨r, 3, none⟩ = some (.slice la n lc) := (hb3.cell (p := ⟨r, 3, none⟩) hrl).trans c3; have e3 : w3.frozen? ⟨r, 3, none⟩ = false := (hb3.frozen (p := ⟨r, 3, none⟩) hrl).trans f3; have HB3 := Lib.hid hb3; clear hb3))
    all_goals
      have hset : Keeps (fun k => k = r) w3 (w3.setCell ⟨r, 3, none⟩ (.slice a3 (i + (n - (i + 1))) p3)) := (Keeps.refl (fun k => k = r) w3).setCell (p := ⟨r, 3, none⟩) rfl _
      have hblk3 := (HB3.out.block r hrl).trans wEblk.out
      have hkw : Keeps (fun k => k = r) w (w3.setCell ⟨r, 3, none⟩ (.slice a3 (i + (n - (i + 1))) p3)) := ((Keeps.ofNew HB1.out _).trans HH.out.kept).trans ((Keeps.ofNew HB3.out _).trans hset)
      have hE : Rm base (w3.setCell ⟨r, 3, none⟩ (.slice a3 (i + (n - (i + 1))) p3)) r (.slice a3' (i + (n - (i + 1))) p3') (.slice a3 (i + (n - (i + 1))) p3) room peak (dropK D x) := by
        refine ⟨store4 hblk3 (by omega), hset.row (row_later HH.out.keys HB3.out) (fun k hk e => ?_), ?_, ?_, ?_, ?_, H.out.br⟩
        · subst e
          exact own_ne' hblk3 (by decide) (row_later HH.out.keys HB3.out) hk
        · rw [HDr.out, HLn.out, List.flatMap_append]
          refine ownsRow_base (hset.row hown3 (fun k hk e => ?_)) (Nat.le_trans hbase (Nat.le_trans HB1.out.size HH.out.kept.size))
          subst e
          exact own_ne' hblk3 (by decide) hown3 hk
        · rw [HDr.out, HLn.out]; omega
        · exact H.out.once.sublist ((List.filter_sublist).map _)
        · exact fun q hq => H.out.one q (mem_dropK.1 hq).1
      have HE := Lib.hid (And.intro hE (And.intro (fun k hk => Nat.le_trans HB1.out.size (HH.out.fresh k hk)) hkw))
      clear hset hblk3 hown3 hgrow3 e2 e3 HB3 hown2 hgrow2 e0 e1 HB2 hE hkw
      generalize (if lc = i + 1 then la else Option.map (fun a => a.add ((i + 1) * 5)) la) = tl
      go_wp2
      go_ret
      exact ⟨rfl, _, _, HE.out.1, HE.out.2.1, HE.out.2.2⟩
set_option maxRecDepth 100000 in
set_option maxHeartbeats 1000000 in
theorem rmDrop_no {base r : Nat} {kv lv : Value} {room peak : Int} {D : List Rec} {x : Ky} (w : World) (h : Rm base w r kv lv room peak D) (hn : fndK D x = none) :
    Calls Tryz.prog 18 #[.pointer (some ⟨r, 0, none⟩), kyv x] w fun en w' => en = .returned (.bool false) ∧ Below w.heap.size w w' := by
  have H := Lib.hid h
  have HA := Lib.hid (fun (u : World) (hu : Rm base u r kv lv room peak D) => rmAt_any x u hu)
  rw [atK_none hn] at HA
  clear h hn
  go_enter Tryz.func18, Tryz.ntmps18
  go_upto_region 1 with (fail)
  refine gen_world (S := fun u => Below w.heap.size w u ∧ u.heap[w.heap.size]? = some (.cells #[.int .i64 x.rule, .int .i64 x.level, .int .i64 x.place] 56 (0, 0))) (one_new w _) (fun u hu => ?_)
  obtain ⟨hb, hx⟩ := hu
  obtain ⟨X, hX⟩ : ∃ X, X = w.heap.size := ⟨_, rfl⟩
  rw [← hX] at hx ⊢
  have HB := Lib.hid hb
  obtain ⟨x0, x1, x2, -⟩ := three_box hx
  have Hu := Lib.hid (H.out.later hb)
  clear hX hb hx
  go_wp2_with fail
  refine (HA.out u Hu.out).mono ?_
  rintro e w1 ⟨rfl, hb1⟩
  have HB1 := Lib.hid (HB.out.trans (hb1.mono HB.out.size))
  clear hb1 x0 x1 x2
  go_wp2
  go_ret
  exact ⟨rfl, HB1.out⟩
theorem rmDrop_any {base r : Nat} {kv lv : Value} {room peak : Int} {D : List Rec} (x : Ky) (w : World) (h : Rm base w r kv lv room peak D) (hbase : base ≤ w.heap.size) :
    Calls Tryz.prog 18 #[.pointer (some ⟨r, 0, none⟩), kyv x] w fun en w' => en = .returned (.bool (hasK D x)) ∧ ∃ kv' lv', Rm base w' r kv' lv' room peak (dropK D x) ∧ KeepR base w w' := by
  cases hf : fndK D x with
  | none =>
    refine (rmDrop_no w h hf).mono ?_
    rintro e w1 ⟨rfl, hb⟩
    refine ⟨by unfold hasK; rw [hf]; rfl, kv, lv, ?_, KeepR.ofBelow hb⟩
    rw [dropK_none hf]
    exact h.later hb
  | some q =>
    obtain ⟨i, hi, hq, rfl⟩ := idx_of hf
    subst hq
    refine (rmDrop_yes w h hi hbase).mono ?_
    rintro e w1 ⟨rfl, kv', lv', h1, -, h2⟩
    exact ⟨by unfold hasK; rw [hf]; rfl, kv', lv', h1, h.keepR1 h2⟩
end Go.Proofs.YtpchjpmkkiopiaaGreat
namespace Go.Proofs.YtpchjpmkkiopiaaGreat
open Go.RowKit Go.Lib

theorem rck_set {D : List Rec} {i : Nat} (hi : i < D.length) (x : Ent) : (D.set i (putX x D[i])).flatMap rck = D.flatMap rck := by
  have e : ∀ L : List Rec, L.flatMap rck = (L.map (·.k)).flatMap kyc := fun L => by rw [List.flatMap_map]; rfl
  rw [e, e]
  congr 1
  apply List.ext_getElem
  · simp
  · intro j h1 h2
    rw [List.getElem_map, List.getElem_map, List.getElem_set]
    split
    · rename_i h; subst h; rfl
    · rfl
/-- an entry of the row is written over. -/
theorem rent_set {w : World} {base g n cap i : Nat} {D : List Rec} (h : w.ownsRow base 58 5 (.slice (some ⟨g, 0, none⟩) n cap) n (D.flatMap rcx)) (hi : i < D.length) (x : Ent) :
    (((((w.setCell ⟨g, i * 5, none⟩ (.bool x.is)).setCell ⟨g, i * 5 + 1, none⟩ (.int .i64 x.en)).setCell ⟨g, i * 5 + 2, none⟩ (.int .i64 x.far)).setCell ⟨g, i * 5 + 3, none⟩ x.tv).setCell ⟨g, i * 5 + 4, none⟩ x.kv).ownsRow base 58 5 (.slice (some ⟨g, 0, none⟩) n cap) n ((D.set i (putX x D[i])).flatMap rcx) ∧
    Keeps (fun k => k = g) w (((((w.setCell ⟨g, i * 5, none⟩ (.bool x.is)).setCell ⟨g, i * 5 + 1, none⟩ (.int .i64 x.en)).setCell ⟨g, i * 5 + 2, none⟩ (.int .i64 x.far)).setCell ⟨g, i * 5 + 3, none⟩ x.tv).setCell ⟨g, i * 5 + 4, none⟩ x.kv) := by
  obtain ⟨y, hy⟩ : ∃ y, y = D[i] := ⟨_, rfl⟩
  have h1 := own_setC rcx_len h i hi 0 (by omega) (putX {y.x with is := x.is} y) (.bool x.is) (by rw [← hy]; rfl)
  have h2 := own_setC rcx_len h1 i (by simpa using hi) 1 (by omega) (putX {y.x with is := x.is, en := x.en} y) (.int .i64 x.en) (by rw [List.getElem_set_self]; rfl)
  have h3 := own_setC rcx_len h2 i (by simpa using hi) 2 (by omega) (putX {y.x with is := x.is, en := x.en, far := x.far} y) (.int .i64 x.far) (by rw [List.getElem_set_self]; rfl)
  have h4 := own_setC rcx_len h3 i (by simpa using hi) 3 (by omega) (putX {y.x with is := x.is, en := x.en, far := x.far, tv := x.tv} y) x.tv (by rw [List.getElem_set_self]; rfl)
  have h5 := own_setC rcx_len h4 i (by simpa using hi) 4 (by omega) (putX x y) x.kv (by rw [List.getElem_set_self]; rfl)
  simp only [List.set_set, Nat.add_zero] at h5
  rw [← hy]
  exact ⟨h5, (((((Keeps.refl (fun k => k = g) w).setCell (p := ⟨g, _, none⟩) rfl _).setCell (p := ⟨g, _, none⟩) rfl _).setCell (p := ⟨g, _, none⟩) rfl _).setCell (p := ⟨g, _, none⟩) rfl _).setCell (p := ⟨g, _, none⟩) rfl _⟩

set_option maxRecDepth 100000 in
set_option maxHeartbeats 2000000 in
theorem rmGet_no {base r : Nat} {kv lv : Value} {room peak : Int} {D : List Rec} {x : Ky} (w : World) (h : Rm base w r kv lv room peak D) (hn : fndK D x = none) :
    Calls Tryz.prog 45 #[.pointer (some ⟨r, 0, none⟩), kyv x] w fun en w' => en = .returned (.tuple #[.agg #[.bool false, .int .i64 0, .int .i64 0, .slice none 0 0, .slice none 0 0], .bool false]) ∧ Below w.heap.size w w' := by
  have H := Lib.hid h
  have HA := Lib.hid (fun (u : World) (hu : Rm base u r kv lv room peak D) => rmAt_any x u hu)
  rw [atK_none hn] at HA
  clear h hn
  go_enter Tryz.func45, Tryz.ntmps45
  go_upto_region 1 with (fail)
  refine gen_world (S := fun u => Below w.heap.size w u ∧ u.heap[w.heap.size]? = some (.cells #[.int .i64 x.rule, .int .i64 x.level, .int .i64 x.place] 56 (0, 0)) ∧ u.heap[w.heap.size + 1]? = some (.cells #[.bool false, .int .i64 0, .int .i64 0, .slice none 0 0, .slice none 0 0] 58 (0, 0))) (two_new w _ _) (fun u hu => ?_)
  obtain ⟨hb, hx, hr⟩ := hu
  obtain ⟨X, hX⟩ : ∃ X, X = w.heap.size := ⟨_, rfl⟩
  have HXe := Lib.hid hX
  rw [← hX] at hx hr ⊢
  have HB := Lib.hid hb
  have HX := Lib.hid hx
  have HR := Lib.hid hr
  have Hu := Lib.hid (H.out.later hb)
  obtain ⟨x0, x1, x2, -⟩ := three_box hx
  clear hX hb hx hr
  go_wp2_with fail
  refine (HA.out u Hu.out).mono ?_
  rintro e w1 ⟨rfl, hb1⟩
  have HB1 := Lib.hid (HB.out.trans (hb1.mono HB.out.size))
  have HR1 := Lib.hid ((hb1.block _ (lt_of_block HR.out)).trans HR.out)
  clear hb1 x0 x1 x2
  obtain ⟨⟨y0, y1, y2, y3, y4⟩, ⟨f0, f1, f2, f3, f4⟩⟩ := five_box HR1.out
  go_wp2
  obtain ⟨h5, hk5⟩ := set5 HR1.out (.bool false) (.int .i64 0) (.int .i64 0) (.slice none 0 0) (.slice none 0 0)
  obtain ⟨⟨q0, q1, q2, q3, q4⟩, -⟩ := five_box h5
  exact bodyPost_ret (v := .tuple #[.agg #[.bool false, .int .i64 0, .int .i64 0, .slice none 0 0, .slice none 0 0], .bool false]) (by simp [results, Tryz.f45, go_sem, q0, q1, q2, q3, q4]) rfl ⟨rfl, HB1.out.trans (hk5.below HB1.out.size (fun k e => by have := HXe.out; omega))⟩
set_option maxRecDepth 100000 in
set_option maxHeartbeats 2000000 in
theorem rmGet_yes {base r : Nat} {kv lv : Value} {room peak : Int} {D : List Rec} {i : Nat} {e : Ent} (w : World) (h : Rm base w r kv lv room peak D) (hi : i < D.length) (he : D[i].x = e) :
    Calls Tryz.prog 45 #[.pointer (some ⟨r, 0, none⟩), kyv D[i].k] w fun en w' => en = .returned (.tuple #[entv e, .bool true]) ∧ Below w.heap.size w w' := by
  have H := Lib.hid h
  obtain ⟨x, hx⟩ : ∃ x, x = D[i].k := ⟨_, rfl⟩
  have hat := atK_at h.once hi
  rw [← hx] at hat ⊢
  have HA := Lib.hid (fun (u : World) (hu : Rm base u r kv lv room peak D) => rmAt_any x u hu)
  rw [hat] at HA
  have hle := h.le
  obtain ⟨g, gc, rfl⟩ := own_shape h.ents (by omega)
  have hone := h.one _ (List.getElem_mem hi)
  rw [he] at hone
  obtain ⟨eis, een, efar, etree, etou, etv, ekv⟩ := e
  obtain ⟨⟨at1, nt, ct, ht⟩, ⟨ak1, nk, ck, hk⟩⟩ := hone
  simp only at ht hk
  subst ht hk
  have HI := Lib.hid hi
  have HE := Lib.hid he
  obtain ⟨n, hn⟩ : ∃ n, n = D.length := ⟨_, rfl⟩
  have HN := Lib.hid hn
  rw [← hn] at H HA hle
  have hin : i < n := by omega
  have hi2 : (i : Int) < n := by omega
  have hi3 : ¬ (i : Int) < 0 := by omega
  clear h hn hx hat he
  go_enter Tryz.func45, Tryz.ntmps45
  go_upto_region 1 with (fail)
  refine gen_world (S := fun u => Below w.heap.size w u ∧ u.heap[w.heap.size]? = some (.cells #[.int .i64 x.rule, .int .i64 x.level, .int .i64 x.place] 56 (0, 0)) ∧ u.heap[w.heap.size + 1]? = some (.cells #[.bool false, .int .i64 0, .int .i64 0, .slice none 0 0, .slice none 0 0] 58 (0, 0))) (two_new w _ _) (fun u hu => ?_)
  obtain ⟨hb, hx, hr⟩ := hu
  obtain ⟨X, hX⟩ : ∃ X, X = w.heap.size := ⟨_, rfl⟩
  have HXe := Lib.hid hX
  rw [← hX] at hx hr ⊢
  have HB := Lib.hid hb
  have HX := Lib.hid hx
  have HR := Lib.hid hr
  have Hu := Lib.hid (H.out.later hb)
  obtain ⟨x0, x1, x2, -⟩ := three_box hx
  clear hX hb hx hr
  go_wp2_with fail
  refine (HA.out u Hu.out).mono ?_
  rintro en w1 ⟨rfl, hb1⟩
  have HB1 := Lib.hid (HB.out.trans (hb1.mono HB.out.size))
  have HR1 := Lib.hid ((hb1.block _ (lt_of_block HR.out)).trans HR.out)
  have H1 := Lib.hid (Hu.out.later hb1)
  clear hb1 x0 x1 x2
  obtain ⟨⟨y0, y1, y2, y3, y4⟩, ⟨f0, f1, f2, f3, f4⟩⟩ := five_box HR1.out
  obtain ⟨-, -, -, c3⟩ := four_boxM H1.out.blk
  have hrow := H1.out.ents
  rw [← HN.out] at hrow
  obtain ⟨d0, d1, d2, d3, d4⟩ := rent_at hrow i HI.out
  rw [HE.out] at d0 d1 d2 d3 d4
  clear hrow
  have hlt := lt_of_block HR1.out
  go_wp2
  obtain ⟨h5, hk5⟩ := set5 HR1.out (.bool eis) (.int .i64 een) (.int .i64 efar) (.slice at1 nt ct) (.slice ak1 nk ck)
  obtain ⟨⟨q0, q1, q2, q3, q4⟩, -⟩ := five_box h5
  exact bodyPost_ret (v := .tuple #[.agg #[.bool eis, .int .i64 een, .int .i64 efar, .slice at1 nt ct, .slice ak1 nk ck], .bool true]) (by simp [results, Tryz.f45, go_sem, q0, q1, q2, q3, q4]) rfl ⟨rfl, HB1.out.trans (hk5.below HB1.out.size (fun k e => by have := HXe.out; omega))⟩
set_option maxRecDepth 100000 in
set_option maxHeartbeats 2000000 in
theorem rmPut0_any {base r : Nat} {kv lv : Value} {room peak : Int} {D : List Rec} (x : Ky) (e : Ent) (w : World) (h : Rm base w r kv lv room peak D) (hr0 : room = 0) :
    Calls Tryz.prog 14 #[.pointer (some ⟨r, 0, none⟩), kyv x, entv e] w fun en w' => en = .returned (.tuple #[.slice none 0 0, .int .i64 12]) ∧ Below w.heap.size w w' := by
  have H := Lib.hid h
  clear h
  go_enter Tryz.func14, Tryz.ntmps14
  go_upto_region 1 with (fail)
  refine gen_world (S := fun u => Below w.heap.size w u ∧ u.heap[w.heap.size]? = some (.cells #[.int .i64 x.rule, .int .i64 x.level, .int .i64 x.place] 56 (0, 0)) ∧ u.heap[w.heap.size + 1]? = some (.cells #[.bool e.is, .int .i64 e.en, .int .i64 e.far, e.tv, e.kv] 58 (0, 0))) (two_new w _ _) (fun u hu => ?_)
  obtain ⟨hb, hx, hr⟩ := hu
  obtain ⟨X, hX⟩ : ∃ X, X = w.heap.size := ⟨_, rfl⟩
  have HXe := Lib.hid hX
  rw [← hX] at hx hr ⊢
  have HB := Lib.hid hb
  have HX := Lib.hid hx
  have HR := Lib.hid hr
  have Hu := Lib.hid (H.out.later hb)
  obtain ⟨x0, x1, x2, -⟩ := three_box hx
  clear hX hb hx hr
  obtain ⟨c0, -⟩ := four_boxM Hu.out.blk
  have hq : (room == 0) = true := by simpa using hr0
  go_wp2
  exact bodyPost_ret (v := .tuple #[.slice none 0 0, .int .i64 12]) (by simp [results, Tryz.f14, go_sem]) rfl ⟨rfl, HB.out⟩
set_option maxRecDepth 100000 in
set_option maxHeartbeats 8000000 in
theorem rmPutO_any {base r : Nat} {kv lv : Value} {room peak : Int} {D : List Rec} {i : Nat} (e : Ent) (w : World) (h : Rm base w r kv lv room peak D) (hi : i < D.length) (hr0 : room ≠ 0) (h1 : One1 e) :
    Calls Tryz.prog 14 #[.pointer (some ⟨r, 0, none⟩), kyv D[i].k, entv e] w fun en w' => en = .returned (.tuple #[.slice none 0 0, .int .i64 0]) ∧ Rm base w' r kv lv room peak (setK D D[i].k e) ∧ KeepR base w w' := by
  have H := Lib.hid h
  obtain ⟨x, hx⟩ : ∃ x, x = D[i].k := ⟨_, rfl⟩
  have hat := atK_at h.once hi
  have hst := setK_at h.once hi e
  rw [← hx] at hat hst ⊢
  have HA := Lib.hid (fun (u : World) (hu : Rm base u r kv lv room peak D) => rmAt_any x u hu)
  rw [hat] at HA
  have hle := h.le
  obtain ⟨g, gc, rfl⟩ := own_shape h.ents (by omega)
  have HI := Lib.hid hi
  have HSt := Lib.hid hst
  have H1e := Lib.hid h1
  obtain ⟨eis, een, efar, etree, etou, etv, ekv⟩ := e
  obtain ⟨⟨at1, nt, ct, ht⟩, ⟨ak1, nk, ck, hk⟩⟩ := h1
  simp only at ht hk
  subst ht hk
  obtain ⟨n, hn⟩ : ∃ n, n = D.length := ⟨_, rfl⟩
  have HN := Lib.hid hn
  rw [← hn] at H HA hle
  have hin : i < n := by omega
  have hi2 : (i : Int) < n := by omega
  have hi3 : (0 : Int) ≤ (i : Int) := by omega
  clear h hn hx hat hst
  go_enter Tryz.func14, Tryz.ntmps14
  go_upto_region 1 with (fail)
  refine gen_world (S := fun u => Below w.heap.size w u ∧ u.heap[w.heap.size]? = some (.cells #[.int .i64 x.rule, .int .i64 x.level, .int .i64 x.place] 56 (0, 0)) ∧ u.heap[w.heap.size + 1]? = some (.cells #[.bool eis, .int .i64 een, .int .i64 efar, .slice at1 nt ct, .slice ak1 nk ck] 58 (0, 0))) (two_new w _ _) (fun u hu => ?_)
  obtain ⟨hb, hx, hr⟩ := hu
  obtain ⟨X, hX⟩ : ∃ X, X = w.heap.size := ⟨_, rfl⟩
  have HXe := Lib.hid hX
  rw [← hX] at hx hr ⊢
  have HB := Lib.hid hb
  have HX := Lib.hid hx
  have HR := Lib.hid hr
  have Hu := Lib.hid (H.out.later hb)
  obtain ⟨x0, x1, x2, -⟩ := three_box hx
  clear hX hb hx hr
  obtain ⟨c0, -⟩ := four_boxM Hu.out.blk
  have hq : (room == 0) = false := by simpa using hr0
  go_wp2_with fail
  refine (HA.out u Hu.out).mono ?_
  rintro en w1 ⟨rfl, hb1⟩
  have HB1 := Lib.hid (HB.out.trans (hb1.mono HB.out.size))
  have HR1 := Lib.hid ((hb1.block _ (lt_of_block HR.out)).trans HR.out)
  have H1 := Lib.hid (Hu.out.later hb1)
  clear hb1 x0 x1 x2 c0
  obtain ⟨⟨y0, y1, y2, y3, y4⟩, -⟩ := five_box HR1.out
  obtain ⟨-, -, -, c3⟩ := four_boxM H1.out.blk
  have hrow := H1.out.ents
  rw [← HN.out] at hrow
  have f0 := (own_cellC rcx_len hrow i HI.out 0 (by omega)).2
  have f1 := (own_cellC rcx_len hrow i HI.out 1 (by omega)).2
  have f2 := (own_cellC rcx_len hrow i HI.out 2 (by omega)).2
  have f3 := (own_cellC rcx_len hrow i HI.out 3 (by omega)).2
  have f4 := (own_cellC rcx_len hrow i HI.out 4 (by omega)).2
  rw [Nat.add_zero] at f0
  obtain ⟨d0, d1, d2, d3, d4⟩ := rent_at hrow i HI.out
  have HRw := Lib.hid hrow
  clear hrow
  go_upto_region 5 with (fail)
  go_region_law (fail)
  all_goals
    have hset := rent_set HRw.out HI.out ⟨eis, een, efar, etree, etou, .slice at1 nt ct, .slice ak1 nk ck⟩
    have hrg : r ≠ g := fun e => by
      have h1 := H1.out.blk
      obtain ⟨-, -, cur, h2, -⟩ := own_open HRw.out
      rw [e, h2] at h1
      simp at h1
    have hE : Rm base (((((w1.setCell ⟨g, i * 5, none⟩ (.bool eis)).setCell ⟨g, i * 5 + 1, none⟩ (.int .i64 een)).setCell ⟨g, i * 5 + 2, none⟩ (.int .i64 efar)).setCell ⟨g, i * 5 + 3, none⟩ (.slice at1 nt ct)).setCell ⟨g, i * 5 + 4, none⟩ (.slice ak1 nk ck)) r kv (.slice (some ⟨g, 0, none⟩) n gc) room peak (setK D x ⟨eis, een, efar, etree, etou, .slice at1 nt ct, .slice ak1 nk ck⟩) := by
      rw [HSt.out]
      refine ⟨hset.2.obj H1.out.blk hrg, hset.2.row (by simpa [rck_set HI.out _] using H1.out.keys) (fun k hk e => ?_), by simpa [HN.out] using hset.1, by simpa using H1.out.le, ?_, ?_, H1.out.br⟩
      · subst e
        obtain ⟨-, -, cur, h2, -⟩ := own_open HRw.out
        exact own_ne' h2 (by decide) H1.out.keys hk
      · rw [← HSt.out, setK_k]; exact H1.out.once
      · intro q hq
        rw [← HSt.out] at hq
        obtain ⟨q0, h1, -, -, h4⟩ := mem_setK hq
        rcases h4 with h4 | h4
        · rw [h4]; exact H1.out.one q0 h1
        · rw [h4]; exact H1e.out
    have hk : KeepR base w (((((w1.setCell ⟨g, i * 5, none⟩ (.bool eis)).setCell ⟨g, i * 5 + 1, none⟩ (.int .i64 een)).setCell ⟨g, i * 5 + 2, none⟩ (.int .i64 efar)).setCell ⟨g, i * 5 + 3, none⟩ (.slice at1 nt ct)).setCell ⟨g, i * 5 + 4, none⟩ (.slice ak1 nk ck)) := by
      refine (KeepR.ofBelow HB1.out).trans (H1.out.keepR (Keeps.mono hset.2 fun k _ e => ?_))
      subst e
      exact .inr (.inr rfl)
    have HE := Lib.hid (And.intro (show Rm base (((((w1.setCell ⟨g, i * 5, none⟩ (.bool eis)).setCell ⟨g, i * 5 + 1, none⟩ (.int .i64 een)).setCell ⟨g, i * 5 + 2, none⟩ (.int .i64 efar)).setCell ⟨g, i * 5 + 3, none⟩ (.slice at1 nt ct)).setCell ⟨g, i * 5 + 4, none⟩ (.slice ak1 nk ck)).drew r kv (.slice (some ⟨g, 0, none⟩) n gc) room peak _ from hE.later (Below.refl _ _).drew) hk.drew)
    clear hset hrg hE hk
    go_wp2
    exact bodyPost_ret (v := .tuple #[.slice none 0 0, .int .i64 0]) (by simp [results, Tryz.f14, go_sem]) rfl ⟨rfl, by rw [← HN.out]; exact HE.out.1, HE.out.2⟩

end Go.Proofs.YtpchjpmkkiopiaaGreat
