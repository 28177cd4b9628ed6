import Derived.Test.YtpchjpmkkiopiaaGreatMdEm
namespace Go.Proofs.YtpchjpmkkiopiaaGreat
open Go.RowKit Go.Lib

/-- the document's memory in the midst of a put: keys E, entries F. -/
structure PuT (base r : Nat) (w : World) (kv0 lv0 : Value) (u : World) (kv lv : Value) (room peak : Int) (E F : List Rec) : Prop where
  blk : u.heap[r]? = some (.cells #[.int .i64 room, .int .i64 peak, kv, lv] 84 (0, 0))
  keys : u.ownsRow base 56 3 kv E.length (E.flatMap rck)
  ents : u.ownsRow base 58 5 lv F.length (F.flatMap rcx)
  br : base ≤ r
  kept : Keeps (fun k => k = r ∨ kv0.ownBlock = some k ∨ lv0.ownBlock = some k) w u
theorem PuT.later {base r : Nat} {w u u' : World} {kv0 lv0 kv lv : Value} {room peak : Int} {E F : List Rec} (h : PuT base r w kv0 lv0 u kv lv room peak E F) (hb : Below u.heap.size u u') : PuT base r w kv0 lv0 u' kv lv room peak E F :=
  { h with blk := (hb.block _ (lt_of_block h.blk)).trans h.blk, keys := row_later h.keys hb, ents := row_later h.ents hb, kept := h.kept.trans (Keeps.ofNew hb _) }
theorem pu_key {base r : Nat} {w u u1 u2 : World} {kv lv0 lv v2 : Value} {room peak : Int} {E F : List Rec} {y : Rec} {n : Nat} (h : PuT base r w kv lv0 u kv lv room peak E F) (hb : Below u.heap.size u u1) (hg : u1.grownBy u2 kv.ownBlock) (hn : n = E.length) (hown : u2.ownsRow base 56 3 v2 (n + 1) (E.flatMap rck ++ kyc y.k)) :
    PuT base r w kv lv0 (u2.setCell ⟨r, 2, none⟩ v2) v2 lv room peak (E ++ [y]) F ∧ Keeps (fun k => k = r ∨ kv.ownBlock = some k) u (u2.setCell ⟨r, 2, none⟩ v2) := by
  have hK : Keeps (fun k => kv.ownBlock = some k) u u2 := (Keeps.ofNew hb _).grown hg (fun k hk => hk)
  have hb2 := hK.obj h.blk (own_ne' h.blk (by decide) h.keys)
  have hset : Keeps (fun k => k = r) u2 (u2.setCell ⟨r, 2, none⟩ v2) := (Keeps.refl (fun k => k = r) u2).setCell (p := ⟨r, 2, none⟩) rfl _
  have hkk : Keeps (fun k => k = r ∨ kv.ownBlock = some k) u (u2.setCell ⟨r, 2, none⟩ v2) := (Keeps.mono hK fun k _ hk => .inr hk).trans (Keeps.mono hset fun k _ e => .inl e)
  have hr3 := row_kept h.ents hK (fun k cs hc hS => by
    have h1 := h.keys
    rcases h1.2 with ⟨rfl, -⟩ | ⟨g, cap, cur, rfl, -, hg, -⟩
    · simp [Value.ownBlock] at hS
    · simp only [Value.ownBlock, Option.some.injEq] at hS
      rw [← hS, hg] at hc
      simp at hc)
  refine ⟨⟨store4 hb2 (by omega), ?_, hset.row hr3 (fun k hk e => ?_), h.br, h.kept.trans (Keeps.mono hkk fun k _ hS => hS.imp id Or.inl)⟩, hkk⟩
  · rw [List.length_append, List.length_singleton, ← hn, List.flatMap_append]
    exact hset.row (by simpa [rck] using hown) (fun k hk e => by subst e; exact own_ne' hb2 (by decide) hown hk)
  · subst e; exact own_ne' hb2 (by decide) hr3 hk
theorem pu_ent {base r : Nat} {w u u1 u2 : World} {kv0 kv lv v2 : Value} {room peak : Int} {E F : List Rec} {y : Rec} {n : Nat} (h : PuT base r w kv0 lv u kv lv room peak E F) (hb : Below u.heap.size u u1) (hg : u1.grownBy u2 lv.ownBlock) (hn : n = F.length) (hown : u2.ownsRow base 58 5 v2 (n + 1) (F.flatMap rcx ++ rcx y)) :
    PuT base r w kv0 lv (u2.setCell ⟨r, 3, none⟩ v2) kv v2 room peak E (F ++ [y]) := by
  have hK : Keeps (fun k => lv.ownBlock = some k) u u2 := (Keeps.ofNew hb _).grown hg (fun k hk => hk)
  have hb2 := hK.obj h.blk (own_ne' h.blk (by decide) h.ents)
  have hset : Keeps (fun k => k = r) u2 (u2.setCell ⟨r, 3, none⟩ v2) := (Keeps.refl (fun k => k = r) u2).setCell (p := ⟨r, 3, none⟩) rfl _
  have hkk : Keeps (fun k => k = r ∨ lv.ownBlock = some k) u (u2.setCell ⟨r, 3, none⟩ v2) := (Keeps.mono hK fun k _ hk => .inr hk).trans (Keeps.mono hset fun k _ e => .inl e)
  have hr3 := row_kept h.keys hK (fun k cs hc hS => by
    have h1 := h.ents
    rcases h1.2 with ⟨rfl, -⟩ | ⟨g, cap, cur, rfl, -, hg, -⟩
    · simp [Value.ownBlock] at hS
    · simp only [Value.ownBlock, Option.some.injEq] at hS
      rw [← hS, hg] at hc
      simp at hc)
  refine ⟨store4 hb2 (by omega), hset.row hr3 (fun k hk e => ?_), ?_, h.br, h.kept.trans (Keeps.mono hkk fun k _ hS => hS.imp id Or.inr)⟩
  · subst e; exact own_ne' hb2 (by decide) hr3 hk
  · rw [List.length_append, List.length_singleton, ← hn, List.flatMap_append]
    exact hset.row (by simpa using hown) (fun k hk e => by subst e; exact own_ne' hb2 (by decide) hown hk)
theorem pu_peak {base r : Nat} {w u : World} {kv0 lv0 kv lv : Value} {room peak : Int} {E F : List Rec} (pk : Int) (h : PuT base r w kv0 lv0 u kv lv room peak E F) : PuT base r w kv0 lv0 (u.setCell ⟨r, 1, none⟩ (.int .i64 pk)) kv lv room pk E F := by
  have hset : Keeps (fun k => k = r) u (u.setCell ⟨r, 1, none⟩ (.int .i64 pk)) := (Keeps.refl (fun k => k = r) u).setCell (p := ⟨r, 1, none⟩) rfl _
  refine ⟨store4 h.blk (by omega), hset.row h.keys (fun k hk e => ?_), hset.row h.ents (fun k hk e => ?_), h.br, h.kept.trans (Keeps.mono hset fun k _ e => .inl e)⟩
  · subst e; exact own_ne' h.blk (by decide) h.keys hk
  · subst e; exact own_ne' h.blk (by decide) h.ents hk
theorem PuT.rm {base r : Nat} {w u : World} {kv0 lv0 kv lv : Value} {room peak : Int} {D : List Rec} {y : Rec} (h : PuT base r w kv0 lv0 u kv lv room peak (D ++ [y]) (D ++ [y])) (hle : D.length < 100000) (ho : (D.map (·.k)).Nodup) (hn : fndK D y.k = none) (h1 : OneD D) (h2 : One1 y.x) : Rm base u r kv lv room peak (D ++ [y]) := by
  refine ⟨h.blk, h.keys, h.ents, by simp; omega, ?_, ?_, h.br⟩
  · rw [List.map_append, List.nodup_append]
    refine ⟨ho, by simp, fun a ha b hb => ?_⟩
    simp only [List.map_cons, List.map_nil, List.mem_singleton] at hb
    subst hb
    obtain ⟨q, hq, rfl⟩ := List.mem_map.1 ha
    exact fndK_none hn q hq
  · intro q hq
    rcases List.mem_append.1 hq with hq | hq
    · exact h1 q hq
    · simp at hq; subst hq; exact h2

set_option maxRecDepth 100000 in
set_option maxHeartbeats 16000000 in
theorem rmPutN_any {base r : Nat} {kv lv : Value} {room peak : Int} {D : List Rec} {x : Ky} (nn : Int) (e : Ent) (w : World) (h : Rm base w r kv lv room peak D) (hr0 : room ≠ 0) (h1 : One1 e) (hn : fndK D x = none) (hroom : (D.length : Int) ≠ room) (hlt : D.length < 100000) (hbase : base ≤ w.heap.size) :
    Calls Tryz.prog 14 #[.pointer (some ⟨r, 0, none⟩), kyv x, entv e] w fun en w' => en = .returned (.tuple #[.slice none 0 0, .int .i64 0]) ∧ ∃ kv' lv', Rm base w' r kv' lv' room (max peak ((D.length : Int) + 1)) (D ++ [⟨x, nn, e⟩]) ∧ KeepR base w w' := by
  have H := Lib.hid h
  have HA := Lib.hid (fun (u : World) (hu : Rm base u r kv lv room peak D) => rmAt_any x u hu)
  rw [atK_none hn] at HA
  have HFn := Lib.hid hn
  have HNd := Lib.hid h.once
  have HOd := Lib.hid h.one
  have HO1 := Lib.hid h1
  have HKb := Lib.hid (fun k (hk : kv.ownBlock = some k) => (h.keys.lt k hk).2)
  obtain ⟨ka, kc, rfl⟩ := own_val h.keys
  obtain ⟨la, lc, rfl⟩ := own_val h.ents
  obtain ⟨eis, een, efar, etree, etou, etv, ekv⟩ := e
  obtain ⟨⟨at1, nt, ct, ht⟩, ⟨ak1, nk, ck, hk⟩⟩ := h1
  simp only at ht hk
  subst ht hk
  obtain ⟨n, hnn⟩ : ∃ n, n = D.length := ⟨_, rfl⟩
  have HN := Lib.hid hnn
  rw [← hnn] at hroom hlt H HA ⊢
  obtain ⟨i0, hi0, hz0, hz1, hz2⟩ := info_parts Tryz.infoRKey
  obtain ⟨j0, hj0, hy0, hy1, hy2⟩ := info_parts Tryz.infoREnt
  clear h hn hnn
  go_enter Tryz.func14, Tryz.ntmps14
  go_upto_region 1 with (fail)
  refine gen_world (S := fun u => Below w.heap.size w u ∧ u.heap[w.heap.size]? = some (.cells #[.int .i64 x.rule, .int .i64 x.level, .int .i64 x.place] 56 (0, 0)) ∧ u.heap[w.heap.size + 1]? = some (.cells #[.bool eis, .int .i64 een, .int .i64 efar, .slice at1 nt ct, .slice ak1 nk ck] 58 (0, 0))) (two_new w _ _) (fun u hu => ?_)
  obtain ⟨hb, hx, hr⟩ := hu
  obtain ⟨X, hX⟩ : ∃ X, X = w.heap.size := ⟨_, rfl⟩
  have HXe := Lib.hid hX
  rw [← hX] at hx hr ⊢
  have HB := Lib.hid hb
  have HX := Lib.hid hx
  have HR := Lib.hid hr
  have Hu := Lib.hid (H.out.later hb)
  obtain ⟨x0, x1, x2, -⟩ := three_box hx
  clear hX hb hx hr
  obtain ⟨c0, -⟩ := four_boxM Hu.out.blk
  have hq : (room == 0) = false := by simpa using hr0
  go_wp2_with fail
  refine (HA.out u Hu.out).mono ?_
  rintro en w1 ⟨rfl, hb1⟩
  have H1 := Lib.hid (Hu.out.later hb1)
  have HB1 := Lib.hid (HB.out.trans (hb1.mono HB.out.size))
  have HX1 := Lib.hid ((hb1.block _ (lt_of_block HX.out)).trans HX.out)
  have HR1 := Lib.hid ((hb1.block _ (lt_of_block HR.out)).trans HR.out)
  clear hb1 x0 x1 x2 c0
  go_upto_region 8 with (fail)
  obtain ⟨c0, -, c2, -⟩ := four_boxM H1.out.blk
  have hqr : ((n : Int) == room) = false := by simpa using hroom
  go_big_quiet (fail)
  go_upto_region 11 with (fail)
  refine gen_world (S := fun v => Below w1.heap.size w1 v) (below_draws (Below.refl _ _) _) (fun u1 hu1 => ?_)
  have HP := Lib.hid (show PuT base r u1 (.slice ka n kc) (.slice la n lc) u1 (.slice ka n kc) (.slice la n lc) room peak D D from ⟨(H1.out.later hu1).blk, (H1.out.later hu1).keys, (H1.out.later hu1).ents, H1.out.br, Keeps.refl _ _⟩)
  replace HX1 := Lib.hid ((hu1.block _ (lt_of_block HX1.out)).trans HX1.out)
  replace HR1 := Lib.hid ((hu1.block _ (lt_of_block HR1.out)).trans HR1.out)
  have hbu : base ≤ u1.heap.size := Nat.le_trans hbase (HB1.out.trans (hu1.mono HB1.out.size)).size
  have hxk : ¬ (Value.slice ka n kc).ownBlock = some (X + 1) := fun e => by have h1 := HKb.out (X + 1) (by rw [← HN.out]; exact e); have := HXe.out; omega
  have hxr : X + 1 ≠ r := fun e => by have h1 := HP.out.blk; rw [← e, HR1.out] at h1; simp at h1
  have HKu := Lib.hid (show ∀ v, Keeps (fun k => k = r ∨ (Value.slice ka n kc).ownBlock = some k ∨ (Value.slice la n lc).ownBlock = some k) u1 v → KeepR base w v from fun v hv => (KeepR.ofBelow (HB1.out.trans (hu1.mono HB1.out.size))).trans ((H1.out.later hu1).keepR hv))
  clear hu1 c0 c2
  have hblk := HP.out.blk
  obtain ⟨c0, c1, c2, c3⟩ := four_boxM hblk
  have hrl := lt_of_block hblk
  have hnk := own_ne' hblk (by decide) HP.out.keys
  obtain ⟨x0, x1, x2, -⟩ := three_box HX1.out
  have HKr := Lib.hid (show ∀ v, Below u1.heap.size u1 v → v.ownsRow base 56 3 (.slice ka n kc) n (D.flatMap rck) from fun v hv => by rw [HN.out]; exact row_later (by have := HP.out.keys; rwa [HN.out] at this) hv)
  clear hblk
  apply cut_hid
  · intro key
    go_region_law (refine step_append_tu (by rfl) (.tmp 57) (.tmp 59) 53 53 (by rfl) base 56 56 i0 _ 3 24 Tryz.underlying53 Tryz.underlying53 hi0 hz0 hz1 hz2 rfl (by decide) ka n kc (D.flatMap rck) (by rfl) (HKr.out _ (by first | exact ((Below.refl _ u1).alloc (Nat.le_refl _) _).drew | exact (Below.refl _ u1).drew.alloc (Nat.le_refl _) _)) (some ⟨u1.heap.size, 0, none⟩) 1 1 (kyc x) (by rfl) (fun h => by cases h) rfl (fun ad h => by cases h; exact World.news_of_block (cs := #[.int .i64 x.rule, .int .i64 x.level, .int .i64 x.place]) (t := 56) (fr := (0, 0)) (heap_alloc_new u1 _)) (kyc_one x) (by unfold maxLen; omega) (by omega) (Nat.le_trans hbu (by simp)) ?_; intro v2 w2 hown2 hgrow; obtain ⟨a2, p2, rfl⟩ := own_val hown2; have hK2 : Keeps (fun k => (Value.slice ka n kc).ownBlock = some k) u1 w2 := (Keeps.ofNew (by first | exact ((Below.refl _ u1).alloc (Nat.le_refl _) (.cells #[.int .i64 x.rule, .int .i64 x.level, .int .i64 x.place] 56)).drew | exact (Below.refl _ u1).drew.alloc (Nat.le_refl _) (.cells #[.int .i64 x.rule, .int .i64 x.level, .int .i64 x.place] 56)) _).grown hgrow (fun k hk => hk); have hblk2 := hK2.obj HP.out.blk hnk; have e0 := (four_boxM hblk2).2.2.1; have e1 : w2.frozen? ⟨r, 2, none⟩ = false := (block_cell' hblk2 2).2)
    all_goals
      have hE := pu_key (y := ⟨x, nn, ⟨eis, een, efar, etree, etou, .slice at1 nt ct, .slice ak1 nk ck⟩⟩) HP.out (by first | exact ((Below.refl _ u1).alloc (Nat.le_refl _) (.cells #[.int .i64 x.rule, .int .i64 x.level, .int .i64 x.place] 56)).drew | exact (Below.refl _ u1).drew.alloc (Nat.le_refl _) (.cells #[.int .i64 x.rule, .int .i64 x.level, .int .i64 x.place] 56)) hgrow HN.out hown2
      have hX := hE.2.obj HR1.out (fun e => e.elim hxr hxk)
      replace hE := hE.1
      generalize w2.setCell ⟨r, 2, none⟩ (.slice a2 (n + 1) p2) = wE at hE hX ⊢
      clear hK2 hblk2 e0 e1 hown2 hgrow
      clear w2
      revert hX
      revert hE
      revert wE
      revert p2
      revert a2
      exact key.out
  · intro a2 p2 wE hE hX
    have HE := Lib.hid hE
    have HXe1 := Lib.hid hX
    have hbe := Nat.le_trans hbu hE.kept.size
    clear hE hX c0 c1 c2 c3 hrl hnk x0 x1 x2 HKr
    go_upto_region 12 with (fail)
    have hblk := HE.out.blk
    obtain ⟨c0, c1, c2, c3⟩ := four_boxM hblk
    have hrl := lt_of_block hblk
    have hnl := own_ne' hblk (by decide) HE.out.ents
    obtain ⟨⟨y0, y1, y2, y3, y4⟩, -⟩ := five_box HXe1.out
    have HLr := Lib.hid (show ∀ v, Below wE.heap.size wE v → v.ownsRow base 58 5 (.slice la n lc) n (D.flatMap rcx) from fun v hv => by rw [HN.out]; exact row_later (by have := HE.out.ents; rwa [HN.out] at this) hv)
    have hon1 : ∀ u ∈ rcx ⟨x, nn, ⟨eis, een, efar, etree, etou, .slice at1 nt ct, .slice ak1 nk ck⟩⟩, u.oneCell' = true := by
      intro u hu
      simp only [rcx, List.mem_cons, List.not_mem_nil, or_false] at hu
      rcases hu with rfl | rfl | rfl | rfl | rfl <;> rfl
    have HOn := Lib.hid hon1
    clear hblk hon1
    apply cut_hid
    · intro key
      go_region_law (refine step_append_tu (by rfl) (.tmp 67) (.tmp 69) 82 82 (by rfl) base 58 58 j0 _ 5 72 Tryz.underlying82 Tryz.underlying82 hj0 hy0 hy1 hy2 rfl (by decide) la n lc (D.flatMap rcx) (by rfl) (HLr.out _ (by first | exact ((Below.refl _ wE).alloc (Nat.le_refl _) _).drew | exact (Below.refl _ wE).drew.alloc (Nat.le_refl _) _)) (some ⟨wE.heap.size, 0, none⟩) 1 1 (rcx ⟨x, nn, ⟨eis, een, efar, etree, etou, .slice at1 nt ct, .slice ak1 nk ck⟩⟩) (by rfl) (fun h => by cases h) rfl (fun ad h => by cases h; exact World.news_of_block (cs := #[.bool eis, .int .i64 een, .int .i64 efar, .slice at1 nt ct, .slice ak1 nk ck]) (t := 58) (fr := (0, 0)) (heap_alloc_new wE _)) HOn.out (by unfold maxLen; omega) (by omega) (Nat.le_trans hbe (by simp)) ?_; intro v3 w2 hown2 hgrow; obtain ⟨a3, p3, rfl⟩ := own_val hown2; have hK2 : Keeps (fun k => (Value.slice la n lc).ownBlock = some k) wE w2 := (Keeps.ofNew (by first | exact ((Below.refl _ wE).alloc (Nat.le_refl _) (.cells #[.bool eis, .int .i64 een, .int .i64 efar, .slice at1 nt ct, .slice ak1 nk ck] 58)).drew | exact (Below.refl _ wE).drew.alloc (Nat.le_refl _) (.cells #[.bool eis, .int .i64 een, .int .i64 efar, .slice at1 nt ct, .slice ak1 nk ck] 58)) _).grown hgrow (fun k hk => hk); have hblk2 := hK2.obj HE.out.blk hnl; have e0 := (four_boxM hblk2).2.2.2; have e1 : w2.frozen? ⟨r, 3, none⟩ = false := (block_cell' hblk2 3).2)
      all_goals
        have hE := pu_ent (y := ⟨x, nn, ⟨eis, een, efar, etree, etou, .slice at1 nt ct, .slice ak1 nk ck⟩⟩) HE.out (by first | exact ((Below.refl _ wE).alloc (Nat.le_refl _) (.cells #[.bool eis, .int .i64 een, .int .i64 efar, .slice at1 nt ct, .slice ak1 nk ck] 58)).drew | exact (Below.refl _ wE).drew.alloc (Nat.le_refl _) (.cells #[.bool eis, .int .i64 een, .int .i64 efar, .slice at1 nt ct, .slice ak1 nk ck] 58)) hgrow HN.out hown2
        generalize w2.setCell ⟨r, 3, none⟩ (.slice a3 (n + 1) p3) = wF at hE ⊢
        clear hK2 hblk2 e0 e1 hown2 hgrow
        clear w2
        revert hE
        revert wF
        revert p3
        revert a3
        exact key.out
    · intro a3 p3 wF hE
      have HF := Lib.hid hE
      have hrm := (pu_peak (max peak ((n : Int) + 1)) hE).rm (by rw [← HN.out]; exact hlt) HNd.out HFn.out HOd.out HO1.out
      have HRm := Lib.hid (And.intro hrm (pu_peak (max peak ((n : Int) + 1)) hE).kept)
      clear hE hrm c0 c1 c2 c3 hrl hnl y0 y1 y2 y3 y4 HLr
      go_upto_region 13 with (fail)
      obtain ⟨c0, c1, c2, c3⟩ := four_boxM HF.out.blk
      have f1 : wF.frozen? ⟨r, 1, none⟩ = false := (block_cell' HF.out.blk 1).2
      go_region_law (fail)
      all_goals
        have hz := HRm.out.1.later (Below.refl _ _).drew
        have hkz := HRm.out.2.drew
        generalize (wF.setCell ⟨r, 1, none⟩ (.int .i64 (max peak ((n : Int) + 1)))).drew = wZ at hz hkz ⊢
        have HZ := Lib.hid (And.intro hz hkz)
        clear hz hkz HRm HF HE c0 c1 c2 c3 f1
        go_wp2
        exact bodyPost_ret (v := .tuple #[.slice none 0 0, .int .i64 0]) (by simp [results, Tryz.f14, go_sem]) rfl ⟨rfl, _, _, HZ.out.1, HKu.out _ HZ.out.2⟩
set_option maxRecDepth 100000 in
set_option maxHeartbeats 16000000 in
theorem rmPutF_any {base r : Nat} {kv lv : Value} {room peak : Int} {D : List Rec} {x : Ky} (nn : Int) (e : Ent) (w : World) (h : Rm base w r kv lv room peak D) (hr0 : room ≠ 0) (h1 : One1 e) (hn : fndK D x = none) (hroom : (D.length : Int) = room) (hrise : D.Pairwise fun a b => a.n < b.n) (hbase : base ≤ w.heap.size) :
    Calls Tryz.prog 14 #[.pointer (some ⟨r, 0, none⟩), kyv x, entv e] w fun en w' => ∃ (q : Rec) (g c : Nat), FirstK D q ∧ en = .returned (.tuple #[.slice (some ⟨g, 0, none⟩) 1 c, .int .i64 0]) ∧ w'.ownsRow w.heap.size 56 3 (.slice (some ⟨g, 0, none⟩) 1 c) 1 (kyc q.k) ∧ ∃ kv' lv', Rm base w' r kv' lv' room (max peak (D.length : Int)) (dropK D q.k ++ [⟨x, nn, e⟩]) ∧ KeepR base w w' := by
  have H := Lib.hid h
  have HA := Lib.hid (fun (u : World) (hu : Rm base u r kv lv room peak D) => rmAt_any x u hu)
  rw [atK_none hn] at HA
  have HFn := Lib.hid hn
  have HRi := Lib.hid hrise
  have HO1 := Lib.hid h1
  have hD0 : 0 < D.length := by omega
  have HD0 := Lib.hid hD0
  have hle := h.le
  obtain ⟨ka, kc, rfl⟩ := own_val h.keys
  obtain ⟨la, lc, rfl⟩ := own_val h.ents
  obtain ⟨eis, een, efar, etree, etou, etv, ekv⟩ := e
  obtain ⟨⟨at1, nt, ct, ht⟩, ⟨ak1, nk, ck, hk⟩⟩ := h1
  simp only at ht hk
  subst ht hk
  obtain ⟨m, hnn⟩ : ∃ n, n = D.length := ⟨_, rfl⟩
  have HN := Lib.hid hnn
  rw [← hnn] at hroom H HA hD0 hle ⊢
  obtain ⟨i0, hi0, hz0, hz1, hz2⟩ := info_parts Tryz.infoRKey
  obtain ⟨j0, hj0, hy0, hy1, hy2⟩ := info_parts Tryz.infoREnt
  clear h hn hrise hnn
  go_enter Tryz.func14, Tryz.ntmps14
  go_upto_region 1 with (fail)
  refine gen_world (S := fun u => Below w.heap.size w u ∧ u.heap[w.heap.size]? = some (.cells #[.int .i64 x.rule, .int .i64 x.level, .int .i64 x.place] 56 (0, 0)) ∧ u.heap[w.heap.size + 1]? = some (.cells #[.bool eis, .int .i64 een, .int .i64 efar, .slice at1 nt ct, .slice ak1 nk ck] 58 (0, 0))) (two_new w _ _) (fun u hu => ?_)
  obtain ⟨hb, hx, hr⟩ := hu
  obtain ⟨X, hX⟩ : ∃ X, X = w.heap.size := ⟨_, rfl⟩
  have HXe := Lib.hid hX
  rw [← hX] at hx hr ⊢
  have HB := Lib.hid hb
  have HX := Lib.hid hx
  have HR := Lib.hid hr
  have Hu := Lib.hid (H.out.later hb)
  obtain ⟨x0, x1, x2, -⟩ := three_box hx
  clear hX hb hx hr
  obtain ⟨c0, -⟩ := four_boxM Hu.out.blk
  have hq : (room == 0) = false := by simpa using hr0
  go_wp2_with fail
  refine (HA.out u Hu.out).mono ?_
  rintro en w1 ⟨rfl, hb1⟩
  have H1 := Lib.hid (Hu.out.later hb1)
  have HB1 := Lib.hid (HB.out.trans (hb1.mono HB.out.size))
  have HX1 := Lib.hid ((hb1.block _ (lt_of_block HX.out)).trans HX.out)
  have HR1 := Lib.hid ((hb1.block _ (lt_of_block HR.out)).trans HR.out)
  clear hb1 x0 x1 x2 c0
  go_upto_region 8 with (fail)
  obtain ⟨c0, -, c2, -⟩ := four_boxM H1.out.blk
  have hqr : ((m : Int) == room) = true := by simpa using hroom
  go_big_quiet (fail)
  go_upto_region 9 with (fail)
  refine gen_world (S := fun v => Below w1.heap.size w1 v) (below_draws (Below.refl _ _) _) (fun u1 hu1 => ?_)
  replace HB1 := Lib.hid (HB1.out.trans (hu1.mono HB1.out.size))
  replace H1 := Lib.hid (H1.out.later hu1)
  replace HX1 := Lib.hid ((hu1.block _ (lt_of_block HX1.out)).trans HX1.out)
  replace HR1 := Lib.hid ((hu1.block _ (lt_of_block HR1.out)).trans HR1.out)
  clear hu1 c0 c2 hqr hroom
  have hka := H1.out.keys
  rw [← HN.out] at hka
  obtain ⟨kg, kc', hv⟩ := own_shape hka (by omega)
  simp only [Value.slice.injEq, true_and] at hv
  obtain ⟨rfl, rfl⟩ := hv
  have HC2 := Lib.hid (show ∀ v, Below u1.heap.size u1 v → v.cell? ⟨r, 2, none⟩ = some (.slice (some ⟨kg, 0, none⟩) m kc) from fun v hv => (four_boxM (H1.out.later hv).blk).2.2.1)
  have HKc := Lib.hid (show ∀ i (hi : i < D.length) v, Below u1.heap.size u1 v → v.cell? ⟨kg, i * 3, none⟩ = some (.int .i64 D[i].k.rule) ∧ v.cell? ⟨kg, i * 3 + 1, none⟩ = some (.int .i64 D[i].k.level) ∧ v.cell? ⟨kg, i * 3 + 2, none⟩ = some (.int .i64 D[i].k.place) from fun i hi v hv => rkey_at (row_later hka hv) i hi)
  obtain ⟨B, hB⟩ : ∃ B, B = u1.heap.size := ⟨_, rfl⟩
  have HSz := Lib.hid (show ∀ z, Below B u1 z → B ≤ z.heap.size from fun z hz => by rw [hB]; exact hz.size)
  have HEz := Lib.hid (show ∀ z, Below B u1 z → Below u1.heap.size u1 z from fun z hz => by rw [← hB]; exact hz)
  have HwB := Lib.hid (show w.heap.size ≤ B from by rw [hB]; exact HB1.out.size)
  have hd : Below B u1 u1.drew := by rw [hB]; exact (Below.refl u1.heap.size u1).drew
  have HBr := Lib.hid (show Below B u1 u1 from by rw [hB]; exact Below.refl _ _)
  clear hB hka
  refine wp_region_held_drew (S := fun z => Below B u1 z) (by kernel_rfl) hd (fun hS => ?_)
  clear hd
  refine wpAnyH_take (i := 0) (oi := ⟨_, _, _, _, _, _⟩) (v := ?v1) rfl (by kernel_rfl) (by kernel_rfl) (by kernel_rfl) (fun _ _ _ h => h) ?y1 hS ?_
  case y1 => first | (refine Or.inr ⟨by rfl, ?_⟩; with_reducible rfl) | (refine Or.inl ⟨by rfl, ?_⟩; intro wS hSw; have c2 := HC2.out wS (HEz.out _ hSw); go_simp; try with_reducible rfl)
  simp only [Act.put, List.setIfInBounds_toArray, List.set_cons_zero, List.set_cons_succ]
  refine wpAnyH_take (i := 1) (oi := ⟨_, _, _, _, _, _⟩) (v := ?v2) rfl (by kernel_rfl) (by kernel_rfl) (by kernel_rfl) (fun _ _ _ h => h) ?y2 hS ?_
  case y2 => first | (refine Or.inr ⟨by rfl, ?_⟩; with_reducible rfl) | (refine Or.inl ⟨by rfl, ?_⟩; intro wS hSw; have c2 := HC2.out wS (HEz.out _ hSw); go_simp; try with_reducible rfl)
  simp only [Act.put, List.setIfInBounds_toArray, List.set_cons_zero, List.set_cons_succ]
  refine wpAnyH_take (i := 2) (oi := ⟨_, _, _, _, _, _⟩) (v := ?v3) rfl (by kernel_rfl) (by kernel_rfl) (by kernel_rfl) (fun _ _ _ h => h) ?y3 hS ?_
  case y3 => first | (refine Or.inr ⟨by rfl, ?_⟩; with_reducible rfl) | (refine Or.inl ⟨by rfl, ?_⟩; intro wS hSw; have c2 := HC2.out wS (HEz.out _ hSw); go_simp; try with_reducible rfl)
  simp only [Act.put, List.setIfInBounds_toArray, List.set_cons_zero, List.set_cons_succ]
  refine wpAnyH_take (i := 3) (oi := ⟨_, _, _, _, _, _⟩) (v := ?v4) rfl (by kernel_rfl) (by kernel_rfl) (by kernel_rfl) (fun _ _ _ h => h) ?y4 hS ?_
  case y4 => first | (refine Or.inr ⟨by rfl, ?_⟩; with_reducible rfl) | (refine Or.inl ⟨by rfl, ?_⟩; intro wS hSw; have c2 := HC2.out wS (HEz.out _ hSw); go_simp; try with_reducible rfl)
  simp only [Act.put, List.setIfInBounds_toArray, List.set_cons_zero, List.set_cons_succ]
  refine wpAnyH_take (i := 4) (oi := ⟨_, _, _, _, _, _⟩) (v := ?v5) rfl (by kernel_rfl) (by kernel_rfl) (by kernel_rfl) (fun _ _ _ h => h) ?y5 hS ?_
  case y5 => first | (refine Or.inr ⟨by rfl, ?_⟩; with_reducible rfl) | (refine Or.inl ⟨by rfl, ?_⟩; intro wS hSw; have c2 := HC2.out wS (HEz.out _ hSw); go_simp; try with_reducible rfl)
  simp only [Act.put, List.setIfInBounds_toArray, List.set_cons_zero, List.set_cons_succ]
  refine wpAnyH_take (i := 5) (oi := ⟨_, _, _, _, _, _⟩) (v := ?v6) rfl (by kernel_rfl) (by kernel_rfl) (by kernel_rfl) (fun _ _ _ h => h) ?y6 hS ?_
  case y6 => first | (refine Or.inr ⟨by rfl, ?_⟩; with_reducible rfl) | (refine Or.inl ⟨by rfl, ?_⟩; intro wS hSw; have c2 := HC2.out wS (HEz.out _ hSw); go_simp; try with_reducible rfl)
  simp only [Act.put, List.setIfInBounds_toArray, List.set_cons_zero, List.set_cons_succ]
  refine wpAnyH_ready (rs := [6]) (by kernel_rfl) (by simp) ?_
  refine AllReadyH.cons (o := ⟨_, _, _, _, _, _⟩) rfl (fun K hK => ?_) AllReadyH.nil
  go_simp
  refine (rmFirst_any _ (H1.out.later (HEz.out _ hS)) HD0.out).mono ?_
  rintro e w2 ⟨i, rfl, hbe, q, rfl⟩
  have hi := hbe.1
  have HBe := Lib.hid hbe
  have HFk := Lib.hid (hbe.first HRi.out)
  have him : i < m := by rw [HN.out]; exact hi
  go_wp2_with fail
  have hS1 := below_draws HBr.out (1 + q)
  refine hK.out _ _ hS1 (fun _ => ?_)
  clear hK K
  try simp only [Act.put, List.setIfInBounds_toArray, List.set_cons_zero, List.set_cons_succ]
  have HC := Lib.hid (fun v hv => HKc.out i hi v hv)
  obtain ⟨y, hy⟩ : ∃ y, y = D[i] := ⟨_, rfl⟩
  rw [← hy] at HC HFk
  have HY := Lib.hid hy
  clear hy hS
  have hS := hS1
  clear hS1
  generalize (u1.drewN (1 + q)) = u2 at hS ⊢
  refine wpAnyH_take (i := 7) (oi := ⟨_, _, _, _, _, _⟩) (v := ?v7) rfl (by kernel_rfl) (by kernel_rfl) (by kernel_rfl) (fun _ _ _ h => h) ?y7 hS ?_
  case y7 => first | (refine Or.inr ⟨by rfl, ?_⟩; with_reducible rfl) | (refine Or.inl ⟨by rfl, ?_⟩; intro wS hSw; obtain ⟨c0, c1, c2⟩ := HC.out wS (HEz.out _ hSw); go_simp; try with_reducible rfl)
  simp only [Act.put, List.setIfInBounds_toArray, List.set_cons_zero, List.set_cons_succ]
  refine wpAnyH_take (i := 8) (oi := ⟨_, _, _, _, _, _⟩) (v := ?v8) rfl (by kernel_rfl) (by kernel_rfl) (by kernel_rfl) (fun _ _ _ h => h) ?y8 hS ?_
  case y8 => first | (refine Or.inr ⟨by rfl, ?_⟩; with_reducible rfl) | (refine Or.inl ⟨by rfl, ?_⟩; intro wS hSw; obtain ⟨c0, c1, c2⟩ := HC.out wS (HEz.out _ hSw); go_simp; try with_reducible rfl)
  simp only [Act.put, List.setIfInBounds_toArray, List.set_cons_zero, List.set_cons_succ]
  refine wpAnyH_ready (rs := [9]) (by kernel_rfl) (by simp) ?_
  refine AllReadyH.cons (o := ⟨_, _, _, _, _, _⟩) rfl (fun K hK => ?_) AllReadyH.nil
  go_simp
  refine hK.out _ _ (hS.alloc (HSz.out _ hS) _) (fun _ => ?_)
  clear hK K
  try simp only [Act.put, List.setIfInBounds_toArray, List.set_cons_zero, List.set_cons_succ]
  obtain ⟨gD, hgD⟩ : ∃ n, n = u2.heap.size := ⟨_, rfl⟩
  refine gen_anyH (S2 := fun z => Below B u1 z ∧ z.heap[gD]? = some (.cells #[.int .i64 y.k.rule, .int .i64 y.k.level, .int .i64 y.k.place] 56 (0, 0)) ∧ B ≤ gD) ⟨hS.alloc (HSz.out _ hS) _, by rw [hgD]; exact heap_alloc_new _ _, by rw [hgD]; exact HSz.out _ hS⟩ (fun wv hu => ?_)
  clear hS
  rw [← hgD]
  clear hgD
  obtain ⟨hS, hD, hDl⟩ := hu
  refine wpAnyH_ready (rs := [10]) (by kernel_rfl) (by simp) ?_
  refine AllReadyH.cons (o := ⟨_, _, _, _, _, _⟩) rfl (fun K hK => ?_) AllReadyH.nil
  refine step_append_tu (by rfl) _ _ 53 53 (by rfl) B 56 56 i0 _ 3 24 Tryz.underlying53 Tryz.underlying53 hi0 hz0 hz1 hz2 rfl (by decide) none 0 0 [] (by rfl) (World.ownsRow_nil _ _ _ _) (some ⟨gD, 0, none⟩) 1 1 (kyc y.k) (by rfl) (fun h => by cases h) rfl (fun ad h => by cases h; exact World.news_of_block (cs := #[.int .i64 y.k.rule, .int .i64 y.k.level, .int .i64 y.k.place]) (t := 56) (fr := (0, 0)) hD) (kyc_one y.k) (by unfold maxLen; omega) (by omega) (HSz.out _ hS) ?_
  intro v3 w3 hown3 hgrow3
  simp only [Nat.zero_add, List.nil_append] at hown3
  obtain ⟨g3, gc3, rfl⟩ := own_shape hown3 (by omega)
  have hS3 := hS.grown hgrow3 (HSz.out _ hS) (fun k hk => by simp [Value.ownBlock] at hk)
  refine hK.out _ _ hS3 (fun _ => ?_)
  clear hK K
  try simp only [Act.put, List.setIfInBounds_toArray, List.set_cons_zero, List.set_cons_succ]
  have HG3 := Lib.hid hown3
  clear hS hD hDl hown3 hgrow3
  have hS := hS3
  clear hS3
  refine wpAnyH_take (i := 11) (oi := ⟨_, _, _, _, _, _⟩) (v := ?v9) rfl (by kernel_rfl) (by kernel_rfl) (by kernel_rfl) (fun _ _ _ h => h) ?y9 hS ?_
  case y9 => first | (refine Or.inr ⟨by rfl, ?_⟩; with_reducible rfl) | (refine Or.inl ⟨by rfl, ?_⟩; intro wS hSw; go_simp; try with_reducible rfl)
  simp only [Act.put, List.setIfInBounds_toArray, List.set_cons_zero, List.set_cons_succ]
  refine wpAnyH_done (by kernel_rfl) ?_ _
  have HB3 := Lib.hid (HB1.out.trans ((HEz.out _ hS).mono HB1.out.size))
  have H3 := Lib.hid (H1.out.later (HEz.out _ hS))
  have HX3 := Lib.hid (((HEz.out _ hS).block _ (lt_of_block HX1.out)).trans HX1.out)
  have HR3 := Lib.hid (((HEz.out _ hS).block _ (lt_of_block HR1.out)).trans HR1.out)
  clear hS HX1 HR1 H1 HC2 HKc HC Hu HX HR HB
  obtain ⟨-, -, cur3, hg3, -⟩ := own_open HG3.out
  obtain ⟨d0, d1, d2⟩ : w3.cell? ⟨g3, 0, none⟩ = some (.int .i64 y.k.rule) ∧ w3.cell? ⟨g3, 1, none⟩ = some (.int .i64 y.k.level) ∧ w3.cell? ⟨g3, 2, none⟩ = some (.int .i64 y.k.place) := by
    have hr3 : w3.ownsRow B 56 3 (.slice (some ⟨g3, 0, none⟩) 1 gc3) 1 ([y.k].flatMap kyc) := by simpa using HG3.out
    have := fun j hj => (own_cellC kcl hr3 0 (by simp) j hj).1
    exact ⟨by simpa [kyc] using this 0 (by omega), by simpa [kyc] using this 1 (by omega), by simpa [kyc] using this 2 (by omega)⟩
  clear hg3
  go_wp2_with fail
  refine (show Calls Tryz.prog 18 #[.pointer (some ⟨r, 0, none⟩), kyv y.k] w3 _ from by
    have := rmDrop_yes w3 H3.out hi (Nat.le_trans hbase HB3.out.size)
    rw [← HY.out] at this
    exact this).mono ?_
  rintro e w4 ⟨rfl, kv4, lv4, hrm4, hf4, hk4⟩
  have hxr : X + 1 ≠ r := fun e => by have h1 := H3.out.blk; rw [← e, HR3.out] at h1; simp at h1
  have hxr0 : X ≠ r := fun e => by have h1 := H3.out.blk; rw [← e, HX3.out] at h1; simp at h1
  have hx4 := hk4.obj HX3.out hxr0
  have hr4 := hk4.obj HR3.out hxr
  have hg4 := hk4.row HG3.out (fun k hk e => by subst e; exact own_ne' H3.out.blk (by decide) HG3.out hk)
  have hxl : X + 1 < w3.heap.size := lt_of_block HR3.out
  have HGl := Lib.hid (show g3 < w3.heap.size from (HG3.out.lt g3 rfl).2)
  obtain ⟨ka4, kc4, rfl⟩ := own_val hrm4.keys
  obtain ⟨la4, lc4, rfl⟩ := own_val hrm4.ents
  have hlen4 := dropK_len H3.out.once (k := y.k) (by unfold hasK; rw [HY.out, fndK_is H3.out.once (List.getElem_mem hi)]; rfl)
  obtain ⟨n, hn4⟩ : ∃ n, n = (dropK D y.k).length := ⟨_, rfl⟩
  have hnm : n + 1 = m := by rw [hn4, hlen4, HN.out]
  have HN4 := Lib.hid hn4
  have hrm5 := hrm4
  rw [← hn4] at hrm4 hf4
  clear hn4 hlen4
  obtain ⟨D4, hD4⟩ : ∃ E, E = dropK D y.k := ⟨_, rfl⟩
  have HD4 := Lib.hid hD4
  rw [← hD4] at hrm4 HN4
  have HM4 := Lib.hid hrm4
  have HX4 := Lib.hid hx4
  have HR4 := Lib.hid hr4
  have HG4 := Lib.hid hg4
  have HF4 := Lib.hid hf4
  have HB4 := Lib.hid ((KeepR.ofBelow HB3.out).trans (H3.out.keepR1 hk4))
  have HZl := Lib.hid hk4.size
  clear hrm5 hx4 hr4 hg4 hk4 hrm4 hD4 d0 d1 d2
  go_upto_region 11 with (fail)
  refine gen_world (S := fun v => Below w4.heap.size w4 v) (by first | exact Below.refl _ _ | exact below_draws (Below.refl _ _) _) (fun u1 hu1 => ?_)
  have HP := Lib.hid (show PuT base r u1 (.slice ka4 n kc4) (.slice la4 n lc4) u1 (.slice ka4 n kc4) (.slice la4 n lc4) room peak D4 D4 from ⟨(HM4.out.later hu1).blk, (HM4.out.later hu1).keys, (HM4.out.later hu1).ents, HM4.out.br, Keeps.refl _ _⟩)
  have HX1 := Lib.hid ((hu1.block _ (lt_of_block HX4.out)).trans HX4.out)
  have HR1 := Lib.hid ((hu1.block _ (lt_of_block HR4.out)).trans HR4.out)
  have HG1 := Lib.hid (row_later HG4.out hu1)
  have hbu : base ≤ u1.heap.size := Nat.le_trans hbase (HB4.out.trans (KeepR.ofBelow hu1)).size
  have hxk : ¬ (Value.slice ka4 n kc4).ownBlock = some (X + 1) := fun e => by have h1 := hf4 (X + 1) e; omega
  have HNd := Lib.hid HM4.out.once
  have HOd := Lib.hid HM4.out.one
  have HFn4 := Lib.hid (show fndK D4 x = none from by rw [HD4.out, fndK_drop H3.out.once]; (split <;> first | rfl | exact HFn.out))
  have hlt : n < 100000 := by omega
  have HKu := Lib.hid (show ∀ v, Keeps (fun k => k = r ∨ (Value.slice ka4 n kc4).ownBlock = some k ∨ (Value.slice la4 n lc4).ownBlock = some k) u1 v → KeepR base w v from fun v hv => (HB4.out.trans (KeepR.ofBelow hu1)).trans ((HM4.out.later hu1).keepR hv))
  have HGk := Lib.hid (show ∀ v, Keeps (fun k => k = r ∨ (Value.slice ka4 n kc4).ownBlock = some k ∨ (Value.slice la4 n lc4).ownBlock = some k) u1 v → v.ownsRow w.heap.size 56 3 (.slice (some ⟨g3, 0, none⟩) 1 gc3) 1 (kyc y.k) from fun v hv => by
    refine ownsRow_base (hv.row HG1.out (fun k hk hS => ?_)) HwB.out
    rcases hS with rfl | hS | hS
    · exact own_ne' HP.out.blk (by decide) HG1.out hk
    · have h1 := HF4.out k hS
      simp only [Value.ownBlock, Option.some.injEq] at hk
      subst hk
      have := HGl.out
      omega
    · simp only [Value.ownBlock, Option.some.injEq] at hk
      subst hk
      obtain ⟨-, -, cur, h2, -⟩ := own_open HG1.out
      exact own_ne' h2 (by decide) HP.out.ents hS)
  have HNm := Lib.hid hnm
  clear hu1 hf4 hnm
  have hblk := HP.out.blk
  obtain ⟨c0, c1, c2, c3⟩ := four_boxM hblk
  have hrl := lt_of_block hblk
  have hnk := own_ne' hblk (by decide) HP.out.keys
  obtain ⟨x0, x1, x2, -⟩ := three_box HX1.out
  have HKr := Lib.hid (show ∀ v, Below u1.heap.size u1 v → v.ownsRow base 56 3 (.slice ka4 n kc4) n (D4.flatMap rck) from fun v hv => by rw [HN4.out]; exact row_later (by have := HP.out.keys; rwa [HN4.out] at this) hv)
  clear hblk
  apply cut_hid
  · intro key
    go_region_law (refine step_append_tu (by rfl) (.tmp 57) (.tmp 59) 53 53 (by rfl) base 56 56 i0 _ 3 24 Tryz.underlying53 Tryz.underlying53 hi0 hz0 hz1 hz2 rfl (by decide) ka4 n kc4 (D4.flatMap rck) (by rfl) (HKr.out _ (by first | exact ((Below.refl _ u1).alloc (Nat.le_refl _) _).drew | exact (Below.refl _ u1).drew.alloc (Nat.le_refl _) _)) (some ⟨u1.heap.size, 0, none⟩) 1 1 (kyc x) (by rfl) (fun h => by cases h) rfl (fun ad h => by cases h; exact World.news_of_block (cs := #[.int .i64 x.rule, .int .i64 x.level, .int .i64 x.place]) (t := 56) (fr := (0, 0)) (heap_alloc_new u1 _)) (kyc_one x) (by unfold maxLen; omega) (by omega) (Nat.le_trans hbu (by simp)) ?_; intro v2 w2 hown2 hgrow; obtain ⟨a2, p2, rfl⟩ := own_val hown2; have hK2 : Keeps (fun k => (Value.slice ka4 n kc4).ownBlock = some k) u1 w2 := (Keeps.ofNew (by first | exact ((Below.refl _ u1).alloc (Nat.le_refl _) (.cells #[.int .i64 x.rule, .int .i64 x.level, .int .i64 x.place] 56)).drew | exact (Below.refl _ u1).drew.alloc (Nat.le_refl _) (.cells #[.int .i64 x.rule, .int .i64 x.level, .int .i64 x.place] 56)) _).grown hgrow (fun k hk => hk); have hblk2 := hK2.obj HP.out.blk hnk; have e0 := (four_boxM hblk2).2.2.1; have e1 : w2.frozen? ⟨r, 2, none⟩ = false := (block_cell' hblk2 2).2)
    all_goals
      have hE := pu_key (y := ⟨x, nn, ⟨eis, een, efar, etree, etou, .slice at1 nt ct, .slice ak1 nk ck⟩⟩) HP.out (by first | exact ((Below.refl _ u1).alloc (Nat.le_refl _) (.cells #[.int .i64 x.rule, .int .i64 x.level, .int .i64 x.place] 56)).drew | exact (Below.refl _ u1).drew.alloc (Nat.le_refl _) (.cells #[.int .i64 x.rule, .int .i64 x.level, .int .i64 x.place] 56)) hgrow HN4.out hown2
      have hX := hE.2.obj HR1.out (fun e => e.elim hxr hxk)
      replace hE := hE.1
      generalize w2.setCell ⟨r, 2, none⟩ (.slice a2 (n + 1) p2) = wE at hE hX ⊢
      clear hK2 hblk2 e0 e1 hown2 hgrow
      clear w2
      revert hX
      revert hE
      revert wE
      revert p2
      revert a2
      exact key.out
  · intro a2 p2 wE hE hX
    have HE := Lib.hid hE
    have HXe1 := Lib.hid hX
    have hbe := Nat.le_trans hbu hE.kept.size
    clear hE hX c0 c1 c2 c3 hrl hnk x0 x1 x2 HKr
    go_upto_region 12 with (fail)
    have hblk := HE.out.blk
    obtain ⟨c0, c1, c2, c3⟩ := four_boxM hblk
    have hrl := lt_of_block hblk
    have hnl := own_ne' hblk (by decide) HE.out.ents
    obtain ⟨⟨y0, y1, y2, y3, y4⟩, -⟩ := five_box HXe1.out
    have HLr := Lib.hid (show ∀ v, Below wE.heap.size wE v → v.ownsRow base 58 5 (.slice la4 n lc4) n (D4.flatMap rcx) from fun v hv => by rw [HN4.out]; exact row_later (by have := HE.out.ents; rwa [HN4.out] at this) hv)
    have hon1 : ∀ u ∈ rcx ⟨x, nn, ⟨eis, een, efar, etree, etou, .slice at1 nt ct, .slice ak1 nk ck⟩⟩, u.oneCell' = true := by
      intro u hu
      simp only [rcx, List.mem_cons, List.not_mem_nil, or_false] at hu
      rcases hu with rfl | rfl | rfl | rfl | rfl <;> rfl
    have HOn := Lib.hid hon1
    clear hblk hon1
    apply cut_hid
    · intro key
      go_region_law (refine step_append_tu (by rfl) (.tmp 67) (.tmp 69) 82 82 (by rfl) base 58 58 j0 _ 5 72 Tryz.underlying82 Tryz.underlying82 hj0 hy0 hy1 hy2 rfl (by decide) la4 n lc4 (D4.flatMap rcx) (by rfl) (HLr.out _ (by first | exact ((Below.refl _ wE).alloc (Nat.le_refl _) _).drew | exact (Below.refl _ wE).drew.alloc (Nat.le_refl _) _)) (some ⟨wE.heap.size, 0, none⟩) 1 1 (rcx ⟨x, nn, ⟨eis, een, efar, etree, etou, .slice at1 nt ct, .slice ak1 nk ck⟩⟩) (by rfl) (fun h => by cases h) rfl (fun ad h => by cases h; exact World.news_of_block (cs := #[.bool eis, .int .i64 een, .int .i64 efar, .slice at1 nt ct, .slice ak1 nk ck]) (t := 58) (fr := (0, 0)) (heap_alloc_new wE _)) HOn.out (by unfold maxLen; omega) (by omega) (Nat.le_trans hbe (by simp)) ?_; intro v3 w2 hown2 hgrow; obtain ⟨a3, p3, rfl⟩ := own_val hown2; have hK2 : Keeps (fun k => (Value.slice la4 n lc4).ownBlock = some k) wE w2 := (Keeps.ofNew (by first | exact ((Below.refl _ wE).alloc (Nat.le_refl _) (.cells #[.bool eis, .int .i64 een, .int .i64 efar, .slice at1 nt ct, .slice ak1 nk ck] 58)).drew | exact (Below.refl _ wE).drew.alloc (Nat.le_refl _) (.cells #[.bool eis, .int .i64 een, .int .i64 efar, .slice at1 nt ct, .slice ak1 nk ck] 58)) _).grown hgrow (fun k hk => hk); have hblk2 := hK2.obj HE.out.blk hnl; have e0 := (four_boxM hblk2).2.2.2; have e1 : w2.frozen? ⟨r, 3, none⟩ = false := (block_cell' hblk2 3).2)
      all_goals
        have hE := pu_ent (y := ⟨x, nn, ⟨eis, een, efar, etree, etou, .slice at1 nt ct, .slice ak1 nk ck⟩⟩) HE.out (by first | exact ((Below.refl _ wE).alloc (Nat.le_refl _) (.cells #[.bool eis, .int .i64 een, .int .i64 efar, .slice at1 nt ct, .slice ak1 nk ck] 58)).drew | exact (Below.refl _ wE).drew.alloc (Nat.le_refl _) (.cells #[.bool eis, .int .i64 een, .int .i64 efar, .slice at1 nt ct, .slice ak1 nk ck] 58)) hgrow HN4.out hown2
        generalize w2.setCell ⟨r, 3, none⟩ (.slice a3 (n + 1) p3) = wF at hE ⊢
        clear hK2 hblk2 e0 e1 hown2 hgrow
        clear w2
        revert hE
        revert wF
        revert p3
        revert a3
        exact key.out
    · intro a3 p3 wF hE
      have HF := Lib.hid hE
      have hrm := (pu_peak (max peak ((n : Int) + 1)) hE).rm (by rw [← HN4.out]; exact hlt) HNd.out HFn4.out HOd.out HO1.out
      have HRm := Lib.hid (And.intro hrm (pu_peak (max peak ((n : Int) + 1)) hE).kept)
      clear hE hrm c0 c1 c2 c3 hrl hnl y0 y1 y2 y3 y4 HLr
      go_upto_region 13 with (fail)
      obtain ⟨c0, c1, c2, c3⟩ := four_boxM HF.out.blk
      have f1 : wF.frozen? ⟨r, 1, none⟩ = false := (block_cell' HF.out.blk 1).2
      go_region_law (fail)
      all_goals
        have hz := HRm.out.1.later (Below.refl _ _).drew
        have hkz := HRm.out.2.drew
        generalize (wF.setCell ⟨r, 1, none⟩ (.int .i64 (max peak ((n : Int) + 1)))).drew = wZ at hz hkz ⊢
        have HZ := Lib.hid (And.intro hz hkz)
        clear hz hkz HRm HF HE c0 c1 c2 c3 f1
        go_wp2
        have hmx : (n : Int) + 1 = m := by have := HNm.out; omega
        exact bodyPost_ret (v := .tuple #[.slice (some ⟨g3, 0, none⟩) 1 gc3, .int .i64 0]) (by simp [results, Tryz.f14, go_sem]) rfl ⟨y, g3, gc3, HFk.out, rfl, HGk.out _ HZ.out.2, _, _, by rw [← hmx, ← HD4.out]; exact HZ.out.1, HKu.out _ HZ.out.2⟩
end Go.Proofs.YtpchjpmkkiopiaaGreat
namespace Go.Proofs.YtpchjpmkkiopiaaGreat
open Go.RowKit Go.Lib

theorem clr_drop {E : List Rec} {pl : Int} {k : Ky} (h : k.place = pl) : clrK (dropK E k) pl = clrK E pl := by
  unfold clrK dropK
  rw [List.filter_filter]
  apply List.filter_congr
  intro r _
  by_cases h1 : r.k = k
  · subst h1; simp [h]
  · simp [h1]
theorem clr_all {E : List Rec} {pl : Int} (h : ∀ j (hj : j < E.length), E[j].k.place ≠ pl) : clrK E pl = E := by
  unfold clrK
  rw [List.filter_eq_self]
  intro r hr
  obtain ⟨j, hj, rfl⟩ := List.mem_iff_getElem.1 hr
  simpa using h j hj
set_option maxRecDepth 100000 in
set_option maxHeartbeats 2000000 in
theorem rmClear_any {base r : Nat} {kv lv : Value} {room peak : Int} {D : List Rec} (pl : Int) (w : World) (h : Rm base w r kv lv room peak D) (hbase : base ≤ w.heap.size) :
    Calls Tryz.prog 20 #[.pointer (some ⟨r, 0, none⟩), .int .i64 pl] w fun en w' => en = .returned (.int .i64 ((D.length - (clrK D pl).length : Nat) : Int)) ∧ ∃ kv' lv', Rm base w' r kv' lv' room peak (clrK D pl) ∧ KeepR base w w' := by
  have H := Lib.hid h
  have hle := h.le
  obtain ⟨m, hm⟩ : ∃ m, m = D.length := ⟨_, rfl⟩
  have HM := Lib.hid hm
  rw [← hm] at hle ⊢
  clear h hm
  go_enter Tryz.func20, Tryz.ntmps20
  go_upto_region 3 with (fail)
  go_loopw [5, 6] (fun c i wr => ∃ (k n : Nat), i = .int .i64 k ∧ c = .int .i64 n ∧ k + n ≤ m ∧ Hid (∃ (E : List Rec) (kv lv : Value), Rm base wr r kv lv room peak E ∧ KeepR base w wr ∧ E.length + n = m ∧ k ≤ E.length ∧ clrK E pl = clrK D pl ∧ ∀ j (hj : j < E.length), j < k → E[j].k.place ≠ pl)) (fun c i _ => m - (intOf c).toNat - (intOf i).toNat)
  case atStart => exact ⟨0, 0, rfl, rfl, by omega, Lib.hid ⟨D, kv, lv, H.out, Keeps.refl _ _, by rw [HM.out]; rfl, Nat.zero_le _, rfl, fun j hj h => by omega⟩⟩
  case round =>
    obtain ⟨k, n, rfl, rfl, hkn, HE⟩ := hrel
    obtain ⟨E, kv, lv, hr, hk, hen, hke, hcl, hno⟩ := HE.out
    obtain ⟨ka, kc, rfl⟩ := own_val hr.keys
    obtain ⟨-, -, c2, -⟩ := four_boxM hr.blk
    have HR := Lib.hid hr
    have HK := Lib.hid hk
    have HCl := Lib.hid hcl
    have HNo := Lib.hid hno
    obtain ⟨l, hl⟩ : ∃ l, l = E.length := ⟨_, rfl⟩
    have HL := Lib.hid hl
    rw [← hl] at hen hke c2
    clear hr hk hcl hno HE
    by_cases hlt : k < l
    · have hlt2 : (k : Int) < l := by omega
      have hkE : k < E.length := by rw [← HL.out]; exact hlt
      have hrow := HR.out.keys
      rw [← HL.out] at hrow
      obtain ⟨g, cap', hv⟩ := own_shape hrow (by omega)
      simp only [Value.slice.injEq, true_and] at hv
      obtain ⟨rfl, rfl⟩ := hv
      obtain ⟨d0, d1, d2⟩ := rkey_at hrow k hkE
      clear hl hrow
      by_cases hp : E[k].k.place = pl
      · have hq : (E[k].k.place == pl) = true := by simpa using hp
        have HP := Lib.hid hp
        have hwa : IntKind.i64.wrap ((k : Int) - 1) = (k : Int) - 1 := IntWalk.i64_in _ (by omega)
        have hwb : IntKind.i64.wrap (k : Int) = (k : Int) := IntWalk.i64_in _ (by omega)
        clear hp
        go_wp2_with fail
        refine (rmDrop_yes wr HR.out hkE (Nat.le_trans hbase HK.out.size)).mono ?_
        rintro e w2 ⟨rfl, kv2, lv2, hr2, -, hk2⟩
        have hln := dropK_len HR.out.once (k := E[k].k) (by unfold hasK; rw [fndK_is HR.out.once (List.getElem_mem hkE)]; rfl)
        have hdr := dropK_at HR.out.once hkE
        have hl2 := HL.out
        have HE2 := Lib.hid (show ∃ (E : List Rec) (kv lv : Value), Rm base w2 r kv lv room peak E ∧ KeepR base w w2 ∧ E.length + (n + 1) = m ∧ k ≤ E.length ∧ clrK E pl = clrK D pl ∧ ∀ j (hj : j < E.length), j < k → E[j].k.place ≠ pl from by
          refine ⟨_, kv2, lv2, hr2, HK.out.trans (HR.out.keepR1 hk2), by omega, by omega, by rw [clr_drop HP.out, HCl.out], fun j hj hjk => ?_⟩
          have e : (dropK E E[k].k)[j]'hj = E[j]'(by omega) := by
            have : (dropK E E[k].k)[j]? = E[j]? := by
              rw [hdr, List.getElem?_append_left (by rw [List.length_take]; omega), List.getElem?_take_of_lt hjk]
            rw [List.getElem?_eq_getElem hj, List.getElem?_eq_getElem (by omega)] at this
            exact Option.some.inj this
          rw [e]
          exact HNo.out j (by omega) hjk)
        clear hr2 hk2 hln hdr hl2
        go_wp2
        go_roundw
        case rel => exact ⟨k, n + 1, by first | rfl | go_num, by go_num, by omega, HE2⟩
        case measure => simp [intOf]; omega
      · have hq : (E[k].k.place == pl) = false := by simpa using hp
        have HP := Lib.hid hp
        clear hp
        go_wp2
        go_roundw
        case rel => exact ⟨k + 1, n, by go_num, rfl, by omega, Lib.hid ⟨E, _, lv, HR.out, HK.out, by rw [← HL.out]; exact hen, by rw [← HL.out]; omega, HCl.out, fun j hj hjk => by
          by_cases e : j = k
          · subst e; exact HP.out
          · exact HNo.out j hj (by omega)⟩⟩
        case measure => simp [intOf]; omega
    · have hlt2 : ¬ (k : Int) < l := by omega
      have hE : clrK D pl = E := by rw [← HCl.out]; exact clr_all fun j hj => HNo.out j hj (by omega)
      have HEe := Lib.hid hE
      clear hE
      have hml : m - l = n := by omega
      clear hl
      go_wp2
      go_ret
      refine ⟨?_, ⟨_, lv, by rw [HEe.out]; exact HR.out⟩, HK.out⟩
      rw [HEe.out, ← HL.out, hml]
      rfl
end Go.Proofs.YtpchjpmkkiopiaaGreat
