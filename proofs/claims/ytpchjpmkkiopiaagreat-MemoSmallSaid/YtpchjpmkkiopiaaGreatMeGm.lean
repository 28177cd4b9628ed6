import Derived.Test.YtpchjpmkkiopiaaGreatMeFm
namespace Go.Proofs.YtpchjpmkkiopiaaGreat
open Go.RowKit Go.Lib

theorem set5 {w : World} {x : Nat} {a0 a1 a2 a3 a4 : Value} {t : TypeId} (h : w.heap[x]? = some (.cells #[a0, a1, a2, a3, a4] t (0, 0))) (v0 v1 v2 v3 v4 : Value) :
    (((((w.setCell ⟨x, 0, none⟩ v0).setCell ⟨x, 1, none⟩ v1).setCell ⟨x, 2, none⟩ v2).setCell ⟨x, 3, none⟩ v3).setCell ⟨x, 4, none⟩ v4).heap[x]? = some (.cells #[v0, v1, v2, v3, v4] t (0, 0)) ∧
    Keeps (fun k => k = x) w (((((w.setCell ⟨x, 0, none⟩ v0).setCell ⟨x, 1, none⟩ v1).setCell ⟨x, 2, none⟩ v2).setCell ⟨x, 3, none⟩ v3).setCell ⟨x, 4, none⟩ v4) :=
  ⟨block_setCell' (k := 4) (block_setCell' (k := 3) (block_setCell' (k := 2) (block_setCell' (k := 1) (block_setCell' (k := 0) h)))), (((((Keeps.refl (fun k => k = x) w).setCell (p := ⟨x, 0, none⟩) rfl _).setCell (p := ⟨x, 1, none⟩) rfl _).setCell (p := ⟨x, 2, none⟩) rfl _).setCell (p := ⟨x, 3, none⟩) rfl _).setCell (p := ⟨x, 4, none⟩) rfl _⟩
theorem not_watched [Watch] {w : World} {base C n : Nat} {e : TypeId} {v : Value} {xs : List Value} (h : w.ownsRow base e C v n xs) (hb : Watch.lim ≤ base) : ∀ k, v.ownBlock = some k → ¬ Watch.W k := fun k hk hw => by
  have := (h.lt k hk).1
  have := Watch.lt k hw
  omega
theorem EnIs.add [Watch] {w w' : World} {em : Nat} {L : List Rec} {k : Ky} {x : Ent} {n : Int} (h : EnIs w em L) (hn : fndK L k = none) (h1 : TwOwn 0 w x.tv x.tree ∧ ∀ k, x.tv.ownBlock = some k → ¬ Watch.W k) (h2 : IvOwn 0 w x.kv x.tou ∧ ∀ k, x.kv.ownBlock = some k → ¬ Watch.W k)
    (hm : MapV kyK w' em (if ((fndK L k).map fun r => entv r.x).isSome then L.length else L.length + 1) (setV (fun k => (fndK L k).map fun r => entv r.x) k (some (entv x)))) (hk : Keeps (· = em) w w') : EnIs w' em (L ++ [⟨k, n, x⟩]) := by
  obtain ⟨es, clock, he⟩ := h.map.blk
  have hne : ∀ k cs t fr, w.heap[k]? = some (.cells cs t fr) → ¬ k = em := fun k cs t fr h1 e => by rw [e, he] at h1; simp at h1
  rw [hn] at hm
  refine ⟨?_, fun r hr => ?_, fun r hr => ?_⟩
  · rw [List.length_append]
    refine hm.ext (fun k' _ => ?_)
    rw [fndK_add (r := ⟨k, n, x⟩) hn]
    by_cases e : k' = k
    · rw [if_pos e, e, setV_same]; rfl
    · rw [if_neg e, setV_other _ _ e]
  · rcases List.mem_append.1 hr with hr | hr
    · exact ⟨row_kept (h.tws r hr).1 hk (fun k cs h1 => hne k cs _ _ h1), (h.tws r hr).2⟩
    · simp at hr; subst hr
      exact ⟨row_kept h1.1 hk (fun k cs h1 => hne k cs _ _ h1), h1.2⟩
  · rcases List.mem_append.1 hr with hr | hr
    · exact ⟨row_kept (h.ivs r hr).1 hk (fun k cs h1 => hne k cs _ _ h1), (h.ivs r hr).2⟩
    · simp at hr; subst hr
      exact ⟨row_kept h2.1 hk (fun k cs h1 => hne k cs _ _ h1), h2.2⟩
theorem EnIs.set [Watch] {w w' : World} {em : Nat} {L : List Rec} {k : Ky} {x : Ent} (h : EnIs w em L) (hr : hasK L k = true) (h1 : TwOwn 0 w x.tv x.tree ∧ ∀ k, x.tv.ownBlock = some k → ¬ Watch.W k) (h2 : IvOwn 0 w x.kv x.tou ∧ ∀ k, x.kv.ownBlock = some k → ¬ Watch.W k)
    (hm : MapV kyK w' em (if ((fndK L k).map fun r => entv r.x).isSome then L.length else L.length + 1) (setV (fun k => (fndK L k).map fun r => entv r.x) k (some (entv x)))) (hk : Keeps (· = em) w w') : EnIs w' em (setK L k x) := by
  obtain ⟨es, clock, he⟩ := h.map.blk
  have hne : ∀ k cs t fr, w.heap[k]? = some (.cells cs t fr) → ¬ k = em := fun k cs t fr h1 e => by rw [e, he] at h1; simp at h1
  have hs : (fndK L k).isSome = true := hr
  rw [Option.isSome_map, if_pos hs] at hm
  refine ⟨?_, fun r hr => ?_, fun r hr => ?_⟩
  · rw [setK_len]
    refine hm.ext (fun k' _ => ?_)
    rw [fndK_set, Option.map_map]
    by_cases e : k' = k
    · subst e
      rw [setV_same]
      obtain ⟨r, hr⟩ := Option.isSome_iff_exists.1 hs
      rw [hr]
      simp [(fndK_some hr).2, putX]
    · rw [setV_other _ _ e]
      cases hf : fndK L k' with
      | none => rfl
      | some r =>
        obtain ⟨-, rfl⟩ := fndK_some hf
        simp [e]
  · obtain ⟨a, ha, -, -, hx⟩ := mem_setK hr
    rcases hx with hx | hx
    · rw [hx]; exact ⟨row_kept (h.tws a ha).1 hk (fun k cs h1 => hne k cs _ _ h1), (h.tws a ha).2⟩
    · rw [hx]; exact ⟨row_kept h1.1 hk (fun k cs h1 => hne k cs _ _ h1), h1.2⟩
  · obtain ⟨a, ha, -, -, hx⟩ := mem_setK hr
    rcases hx with hx | hx
    · rw [hx]; exact ⟨row_kept (h.ivs a ha).1 hk (fun k cs h1 => hne k cs _ _ h1), (h.ivs a ha).2⟩
    · rw [hx]; exact ⟨row_kept h2.1 hk (fun k cs h1 => hne k cs _ _ h1), h2.2⟩
theorem LnIs.set [Watch] {base : Nat} {p q nm km em : Nat} {next room peak : Int} {L : List Rec} {w : World} (h : LnIs base w p q nm km em next room peak L) (k : Ky) (x : Ent) : LnIs base w p q nm km em next room peak (setK L k x) := by
  refine { h with qu := by rw [setK_en]; exact h.qu, names := ?_, keys := ?_, ord := h.ord.set k x, le := by rw [setK_len]; exact h.le }
  · rw [setK_len]
    refine h.names.ext (fun k' _ => ?_)
    rw [fndK_set, Option.map_map]
    congr 1
    funext r
    simp only [Function.comp]
    split <;> rfl
  · rw [setK_len]
    refine h.keys.ext (fun n' _ => ?_)
    rw [fndN_set, Option.map_map]
    congr 1
    funext r
    simp only [Function.comp]
    split <;> rfl
theorem LnIs.setPeak [Watch] {base : Nat} {p q nm km em : Nat} {next room peak : Int} {L : List Rec} {w : World} (h : LnIs base w p q nm km em next room peak L) (pk : Int) : LnIs base (w.setCell ⟨p, 5, none⟩ (.int .i64 pk)) p q nm km em next room pk L ∧ KeepX base em w (w.setCell ⟨p, 5, none⟩ (.int .i64 pk)) := by
  obtain ⟨n1, n2, n3, n4⟩ := h.n_q
  obtain ⟨cs, hqb⟩ := @Qu.qblk (inw nm km em) _ _ _ _ _ h.qu
  have hpq : p ≠ q := fun e => by have := h.blk; rw [e, hqb] at this; simp at this
  have hk7 := (Keeps.refl (fun k => k = p) w).setCell (p := ⟨p, 5, none⟩) rfl (.int .i64 pk)
  exact ⟨{ h with blk := block_setCell' (k := 5) (u := .int .i64 pk) h.blk, qu := @Qu.keepsW (inw nm km em) _ _ _ _ _ _ _ h.qu hk7 (fun k e => by subst e; exact ⟨hpq, .inr ⟨_, _, _, h.blk, by decide, by decide⟩⟩), names := h.names.keeps hk7 (fun e => n3 e), keys := h.keys.keeps hk7 (fun e => n4 e), lim := Nat.le_trans h.lim hk7.size }, keepX_mem h.blk h.bp h.wp h.pe 5 _⟩
set_option maxRecDepth 100000 in
set_option maxHeartbeats 2000000 in
theorem mGetN_any [Watch] {base : Nat} {p q nm km em : Nat} {next room peak : Int} {L : List Rec} {k : Ky} (w : World) (h : MeIs base w p q nm km em next room peak L) (hkk : kyOk k) (hn : fndK L k = none) :
    Calls Tryz.prog 25 #[.pointer (some ⟨p, 0, none⟩), kyv k] w fun e w' => e = .returned (.tuple #[.agg #[.bool false, .int .i64 0, .int .i64 0, .slice none 0 0, .slice none 0 0], .bool false]) ∧ Below w.heap.size w w' := by
  have HLk := Lib.hid (fun (wS : World) (hw : Below w.heap.size w wS) => by have := ent_look (h.later hw).en hkk true; rw [hn] at this; exact this)
  clear hn
  have H := Lib.hid h
  have HOk := Lib.hid hkk
  clear h hkk
  go_enter Tryz.func25, Tryz.ntmps25
  go_upto_region 1 with (fail)
  refine gen_world (S := fun u => Below w.heap.size w u ∧ u.heap[w.heap.size]? = some (.cells #[.int .i64 k.rule, .int .i64 k.level, .int .i64 k.place] 24 (0, 0)) ∧ u.heap[w.heap.size + 1]? = some (.cells #[.bool false, .int .i64 0, .int .i64 0, .slice none 0 0, .slice none 0 0] 30 (0, 0))) (two_new w _ _) (fun u hu => ?_)
  obtain ⟨hb, hx, hr⟩ := hu
  obtain ⟨X, hX⟩ : ∃ X, X = w.heap.size := ⟨_, rfl⟩
  have HXe := Lib.hid hX
  rw [← hX] at hx hr ⊢
  have HB := Lib.hid hb
  have HX := Lib.hid hx
  have HRb := Lib.hid hr
  have Hu := Lib.hid (H.out.later hb)
  clear hX hb hx hr
  go_wp2_with fail
  refine (Hu.out.ln.made u).mono ?_
  rintro e w1 ⟨rfl, rfl⟩
  go_upto_region 3 with (fail)
  have HBlk := Lib.hid (fun (wS : World) (hw : Below w.heap.size w wS) => (H.out.later hw).ln.blk)
  refine wp_region_held_drew (S := fun v => Below w.heap.size w v ∧ v.heap[X]? = some (.cells #[.int .i64 k.rule, .int .i64 k.level, .int .i64 k.place] 24 (0, 0))) (by kernel_rfl) ⟨HB.out.drew, HX.out⟩ (fun hS => ?_)
  refine wpAnyH_take (i := 0) (oi := ⟨_, _, _, _, _, _⟩) (v := ?v1) rfl (by kernel_rfl) (by kernel_rfl) (by kernel_rfl) (fun _ _ _ h => h) ?y1 hS ?_
  case y1 => first | (refine Or.inr ⟨by rfl, ?_⟩; with_reducible rfl) | (refine Or.inl ⟨by rfl, ?_⟩; intro wS hSw; obtain ⟨⟨-, -, -, -, -, -, a6⟩, -⟩ := seven_box (HBlk.out wS hSw.1); obtain ⟨b0, b1, b2, -⟩ := three_box hSw.2; have lk := HLk.out wS hSw.1; go_simp; try with_reducible rfl)
  simp only [Act.put, List.setIfInBounds_toArray, List.set_cons_zero, List.set_cons_succ]
  refine wpAnyH_take (i := 1) (oi := ⟨_, _, _, _, _, _⟩) (v := ?v2) rfl (by kernel_rfl) (by kernel_rfl) (by kernel_rfl) (fun _ _ _ h => h) ?y2 hS ?_
  case y2 => first | (refine Or.inr ⟨by rfl, ?_⟩; with_reducible rfl) | (refine Or.inl ⟨by rfl, ?_⟩; intro wS hSw; obtain ⟨⟨-, -, -, -, -, -, a6⟩, -⟩ := seven_box (HBlk.out wS hSw.1); obtain ⟨b0, b1, b2, -⟩ := three_box hSw.2; have lk := HLk.out wS hSw.1; go_simp; try with_reducible rfl)
  simp only [Act.put, List.setIfInBounds_toArray, List.set_cons_zero, List.set_cons_succ]
  refine wpAnyH_take (i := 2) (oi := ⟨_, _, _, _, _, _⟩) (v := ?v3) rfl (by kernel_rfl) (by kernel_rfl) (by kernel_rfl) (fun _ _ _ h => h) ?y3 hS ?_
  case y3 => first | (refine Or.inr ⟨by rfl, ?_⟩; with_reducible rfl) | (refine Or.inl ⟨by rfl, ?_⟩; intro wS hSw; obtain ⟨⟨-, -, -, -, -, -, a6⟩, -⟩ := seven_box (HBlk.out wS hSw.1); obtain ⟨b0, b1, b2, -⟩ := three_box hSw.2; have lk := HLk.out wS hSw.1; go_simp; try with_reducible rfl)
  simp only [Act.put, List.setIfInBounds_toArray, List.set_cons_zero, List.set_cons_succ]
  refine wpAnyH_take (i := 3) (oi := ⟨_, _, _, _, _, _⟩) (v := ?v4) rfl (by kernel_rfl) (by kernel_rfl) (by kernel_rfl) (fun _ _ _ h => h) ?y4 hS ?_
  case y4 => first | (refine Or.inr ⟨by rfl, ?_⟩; with_reducible rfl) | (refine Or.inl ⟨by rfl, ?_⟩; intro wS hSw; obtain ⟨⟨-, -, -, -, -, -, a6⟩, -⟩ := seven_box (HBlk.out wS hSw.1); obtain ⟨b0, b1, b2, -⟩ := three_box hSw.2; have lk := HLk.out wS hSw.1; go_simp; try with_reducible rfl)
  simp only [Act.put, List.setIfInBounds_toArray, List.set_cons_zero, List.set_cons_succ]
  refine wpAnyH_take (i := 4) (oi := ⟨_, _, _, _, _, _⟩) (v := ?v5) rfl (by kernel_rfl) (by kernel_rfl) (by kernel_rfl) (fun _ _ _ h => h) ?y5 hS ?_
  case y5 => first | (refine Or.inr ⟨by rfl, ?_⟩; with_reducible rfl) | (refine Or.inl ⟨by rfl, ?_⟩; intro wS hSw; obtain ⟨⟨-, -, -, -, -, -, a6⟩, -⟩ := seven_box (HBlk.out wS hSw.1); obtain ⟨b0, b1, b2, -⟩ := three_box hSw.2; have lk := HLk.out wS hSw.1; go_simp; try with_reducible rfl)
  simp only [Act.put, List.setIfInBounds_toArray, List.set_cons_zero, List.set_cons_succ]
  refine wpAnyH_take (i := 5) (oi := ⟨_, _, _, _, _, _⟩) (v := ?v6) rfl (by kernel_rfl) (by kernel_rfl) (by kernel_rfl) (fun _ _ _ h => h) ?y6 hS ?_
  case y6 => first | (refine Or.inr ⟨by rfl, ?_⟩; with_reducible rfl) | (refine Or.inl ⟨by rfl, ?_⟩; intro wS hSw; obtain ⟨⟨-, -, -, -, -, -, a6⟩, -⟩ := seven_box (HBlk.out wS hSw.1); obtain ⟨b0, b1, b2, -⟩ := three_box hSw.2; have lk := HLk.out wS hSw.1; go_simp; try with_reducible rfl)
  simp only [Act.put, List.setIfInBounds_toArray, List.set_cons_zero, List.set_cons_succ]
  refine wpAnyH_take (i := 6) (oi := ⟨_, _, _, _, _, _⟩) (v := ?v7) rfl (by kernel_rfl) (by kernel_rfl) (by kernel_rfl) (fun _ _ _ h => h) ?y7 hS ?_
  case y7 => first | (refine Or.inr ⟨by rfl, ?_⟩; with_reducible rfl) | (refine Or.inl ⟨by rfl, ?_⟩; intro wS hSw; obtain ⟨⟨-, -, -, -, -, -, a6⟩, -⟩ := seven_box (HBlk.out wS hSw.1); obtain ⟨b0, b1, b2, -⟩ := three_box hSw.2; have lk := HLk.out wS hSw.1; go_simp; try with_reducible rfl)
  simp only [Act.put, List.setIfInBounds_toArray, List.set_cons_zero, List.set_cons_succ]
  refine wpAnyH_take (i := 7) (oi := ⟨_, _, _, _, _, _⟩) (v := ?v8) rfl (by kernel_rfl) (by kernel_rfl) (by kernel_rfl) (fun _ _ _ h => h) ?y8 hS ?_
  case y8 => first | (refine Or.inr ⟨by rfl, ?_⟩; with_reducible rfl) | (refine Or.inl ⟨by rfl, ?_⟩; intro wS hSw; obtain ⟨⟨-, -, -, -, -, -, a6⟩, -⟩ := seven_box (HBlk.out wS hSw.1); obtain ⟨b0, b1, b2, -⟩ := three_box hSw.2; have lk := HLk.out wS hSw.1; go_simp; try with_reducible rfl)
  simp only [Act.put, List.setIfInBounds_toArray, List.set_cons_zero, List.set_cons_succ]
  refine wpAnyH_take (i := 8) (oi := ⟨_, _, _, _, _, _⟩) (v := ?v9) rfl (by kernel_rfl) (by kernel_rfl) (by kernel_rfl) (fun _ _ _ h => h) ?y9 hS ?_
  case y9 => first | (refine Or.inr ⟨by rfl, ?_⟩; with_reducible rfl) | (refine Or.inl ⟨by rfl, ?_⟩; intro wS hSw; obtain ⟨⟨-, -, -, -, -, -, a6⟩, -⟩ := seven_box (HBlk.out wS hSw.1); obtain ⟨b0, b1, b2, -⟩ := three_box hSw.2; have lk := HLk.out wS hSw.1; go_simp; try with_reducible rfl)
  simp only [Act.put, List.setIfInBounds_toArray, List.set_cons_zero, List.set_cons_succ]
  refine wpAnyH_ready (rs := [9]) (by kernel_rfl) (by simp) ?_
  refine AllReadyH.cons (o := ⟨_, _, _, _, _, _⟩) rfl (fun K hK => ?_) AllReadyH.nil
  have hR := HRb.out
  obtain ⟨⟨y0, y1, y2, y3, y4⟩, ⟨f0, f1, f2, f3, f4⟩⟩ := five_box hR
  obtain ⟨h5, hk5⟩ := set5 hR (.bool false) (.int .i64 0) (.int .i64 0) (.slice none 0 0) (.slice none 0 0)
  have hb5 := HB.out.trans (hk5.below HB.out.size (fun k e => by have := HXe.out; omega))
  have hx5 := hk5.obj HX.out (by omega)
  go_simp
  refine hK.out _ _ ⟨hb5.drew, hx5⟩ (fun hSd => ?_)
  clear hSd hK K y0 y1 y2 y3 y4 f0 f1 f2 f3 f4 hR hk5
  try simp only [Act.put, List.setIfInBounds_toArray, List.set_cons_zero, List.set_cons_succ]
  refine gen_anyH (S2 := fun v => Below w.heap.size w v ∧ v.heap[X]? = some (.cells #[.int .i64 k.rule, .int .i64 k.level, .int .i64 k.place] 24 (0, 0)) ∧ v.heap[X + 1]? = some (.cells #[.bool false, .int .i64 0, .int .i64 0, .slice none 0 0, .slice none 0 0] 30 (0, 0))) ⟨hb5.drew, hx5, h5⟩ (fun v hh => ?_)
  clear hb5 hx5 h5 hS
  obtain ⟨hb, hx, hr⟩ := hh
  have hS := And.intro hb hx
  refine wpAnyH_take (i := 10) (oi := ⟨_, _, _, _, _, _⟩) (v := ?v10) rfl (by kernel_rfl) (by kernel_rfl) (by kernel_rfl) (fun _ _ _ h => h) ?y10 hS ?_
  case y10 => first | (refine Or.inr ⟨by rfl, ?_⟩; with_reducible rfl) | (refine Or.inl ⟨by rfl, ?_⟩; intro wS hSw; obtain ⟨⟨-, -, -, -, -, -, a6⟩, -⟩ := seven_box (HBlk.out wS hSw.1); obtain ⟨b0, b1, b2, -⟩ := three_box hSw.2; have lk := HLk.out wS hSw.1; go_simp; try with_reducible rfl)
  simp only [Act.put, List.setIfInBounds_toArray, List.set_cons_zero, List.set_cons_succ]
  refine wpAnyH_done (by kernel_rfl) ?_ _
  clear hS
  have HBv := Lib.hid hb
  have HRv := Lib.hid hr
  clear hb hx hr HX HRb Hu HBlk HLk
  obtain ⟨⟨y0, y1, y2, y3, y4⟩, ⟨f0, f1, f2, f3, f4⟩⟩ := five_box HRv.out
  go_wp2
  obtain ⟨h5, hk5⟩ := set5 HRv.out (.bool false) (.int .i64 0) (.int .i64 0) (.slice none 0 0) (.slice none 0 0)
  obtain ⟨⟨q0, q1, q2, q3, q4⟩, -⟩ := five_box h5
  exact bodyPost_ret (v := .tuple #[.agg #[.bool false, .int .i64 0, .int .i64 0, .slice none 0 0, .slice none 0 0], .bool false]) (by simp [results, Tryz.f25, go_sem, q0, q1, q2, q3, q4]) rfl ⟨rfl, HBv.out.trans (hk5.below HBv.out.size (fun k e => by have := HXe.out; omega))⟩
set_option maxRecDepth 100000 in
set_option maxHeartbeats 4000000 in
theorem mGet_any [Watch] {base : Nat} {p q nm km em : Nat} {next room peak : Int} {L : List Rec} {k : Ky} {r : Rec} (w : World) (h : MeIs base w p q nm km em next room peak L) (hr : fndK L k = some r) (hlt : r.x.tree.length ≤ 1000000) (hlk : r.x.tou.length ≤ 1000000) :
    Calls Tryz.prog 25 #[.pointer (some ⟨p, 0, none⟩), kyv k] w fun e w' => ∃ tv kv, e = .returned (.tuple #[entv ⟨r.x.is, r.x.en, r.x.far, r.x.tree, r.x.tou, tv, kv⟩, .bool true]) ∧ TwOwn w.heap.size w' tv r.x.tree ∧ IvOwn w.heap.size w' kv r.x.tou ∧ Below w.heap.size w w' := by
  have hkk : kyOk k := by obtain ⟨h1, rfl⟩ := fndK_some hr; exact h.ln.ord.wf _ h1
  have HLk := Lib.hid (fun (wS : World) (hw : Below w.heap.size w wS) => by have := ent_look (h.later hw).en hkk true; rw [hr] at this; exact this)
  have hto := (h.en.tws r (fndK_some hr).1).1
  have hko := (h.en.ivs r (fndK_some hr).1).1
  have HTo := Lib.hid hto.got
  have HKo := Lib.hid hko.got
  have HL1 := Lib.hid hlt
  have HL2 := Lib.hid hlk
  obtain ⟨at1, ct, hat⟩ := own_val hto
  obtain ⟨ak1, ck, hak⟩ := own_val hko
  obtain ⟨rk, rn, ⟨xis, xen, xfar, xtree, xtou, xtv, xkv⟩⟩ := r
  simp only at hat hak HLk HTo HKo HL1 HL2 ⊢
  subst hat hak
  simp only [entv, Option.map_some, Option.getD_some, if_true, Option.isSome_some] at HLk
  clear hr hto hko hlt hlk
  have H := Lib.hid h
  have HOk := Lib.hid hkk
  clear h hkk
  go_enter Tryz.func25, Tryz.ntmps25
  go_upto_region 1 with (fail)
  refine gen_world (S := fun u => Below w.heap.size w u ∧ u.heap[w.heap.size]? = some (.cells #[.int .i64 k.rule, .int .i64 k.level, .int .i64 k.place] 24 (0, 0)) ∧ u.heap[w.heap.size + 1]? = some (.cells #[.bool false, .int .i64 0, .int .i64 0, .slice none 0 0, .slice none 0 0] 30 (0, 0))) (two_new w _ _) (fun u hu => ?_)
  obtain ⟨hb, hx, hr⟩ := hu
  obtain ⟨X, hX⟩ : ∃ X, X = w.heap.size := ⟨_, rfl⟩
  have HXe := Lib.hid hX
  rw [← hX] at hx hr ⊢
  have HB := Lib.hid hb
  have HX := Lib.hid hx
  have HRb := Lib.hid hr
  have Hu := Lib.hid (H.out.later hb)
  clear hX hb hx hr
  go_wp2_with fail
  refine (Hu.out.ln.made u).mono ?_
  rintro e w1 ⟨rfl, rfl⟩
  go_upto_region 3 with (fail)
  have HBlk := Lib.hid (fun (wS : World) (hw : Below w.heap.size w wS) => (H.out.later hw).ln.blk)
  refine wp_region_held_drew (S := fun v => Below w.heap.size w v ∧ v.heap[X]? = some (.cells #[.int .i64 k.rule, .int .i64 k.level, .int .i64 k.place] 24 (0, 0))) (by kernel_rfl) ⟨HB.out.drew, HX.out⟩ (fun hS => ?_)
  refine wpAnyH_take (i := 0) (oi := ⟨_, _, _, _, _, _⟩) (v := ?v11) rfl (by kernel_rfl) (by kernel_rfl) (by kernel_rfl) (fun _ _ _ h => h) ?y11 hS ?_
  case y11 => first | (refine Or.inr ⟨by rfl, ?_⟩; with_reducible rfl) | (refine Or.inl ⟨by rfl, ?_⟩; intro wS hSw; obtain ⟨⟨-, -, -, -, -, -, a6⟩, -⟩ := seven_box (HBlk.out wS hSw.1); obtain ⟨b0, b1, b2, -⟩ := three_box hSw.2; have lk := HLk.out wS hSw.1; go_simp; try with_reducible rfl)
  simp only [Act.put, List.setIfInBounds_toArray, List.set_cons_zero, List.set_cons_succ]
  refine wpAnyH_take (i := 1) (oi := ⟨_, _, _, _, _, _⟩) (v := ?v12) rfl (by kernel_rfl) (by kernel_rfl) (by kernel_rfl) (fun _ _ _ h => h) ?y12 hS ?_
  case y12 => first | (refine Or.inr ⟨by rfl, ?_⟩; with_reducible rfl) | (refine Or.inl ⟨by rfl, ?_⟩; intro wS hSw; obtain ⟨⟨-, -, -, -, -, -, a6⟩, -⟩ := seven_box (HBlk.out wS hSw.1); obtain ⟨b0, b1, b2, -⟩ := three_box hSw.2; have lk := HLk.out wS hSw.1; go_simp; try with_reducible rfl)
  simp only [Act.put, List.setIfInBounds_toArray, List.set_cons_zero, List.set_cons_succ]
  refine wpAnyH_take (i := 2) (oi := ⟨_, _, _, _, _, _⟩) (v := ?v13) rfl (by kernel_rfl) (by kernel_rfl) (by kernel_rfl) (fun _ _ _ h => h) ?y13 hS ?_
  case y13 => first | (refine Or.inr ⟨by rfl, ?_⟩; with_reducible rfl) | (refine Or.inl ⟨by rfl, ?_⟩; intro wS hSw; obtain ⟨⟨-, -, -, -, -, -, a6⟩, -⟩ := seven_box (HBlk.out wS hSw.1); obtain ⟨b0, b1, b2, -⟩ := three_box hSw.2; have lk := HLk.out wS hSw.1; go_simp; try with_reducible rfl)
  simp only [Act.put, List.setIfInBounds_toArray, List.set_cons_zero, List.set_cons_succ]
  refine wpAnyH_take (i := 3) (oi := ⟨_, _, _, _, _, _⟩) (v := ?v14) rfl (by kernel_rfl) (by kernel_rfl) (by kernel_rfl) (fun _ _ _ h => h) ?y14 hS ?_
  case y14 => first | (refine Or.inr ⟨by rfl, ?_⟩; with_reducible rfl) | (refine Or.inl ⟨by rfl, ?_⟩; intro wS hSw; obtain ⟨⟨-, -, -, -, -, -, a6⟩, -⟩ := seven_box (HBlk.out wS hSw.1); obtain ⟨b0, b1, b2, -⟩ := three_box hSw.2; have lk := HLk.out wS hSw.1; go_simp; try with_reducible rfl)
  simp only [Act.put, List.setIfInBounds_toArray, List.set_cons_zero, List.set_cons_succ]
  refine wpAnyH_take (i := 4) (oi := ⟨_, _, _, _, _, _⟩) (v := ?v15) rfl (by kernel_rfl) (by kernel_rfl) (by kernel_rfl) (fun _ _ _ h => h) ?y15 hS ?_
  case y15 => first | (refine Or.inr ⟨by rfl, ?_⟩; with_reducible rfl) | (refine Or.inl ⟨by rfl, ?_⟩; intro wS hSw; obtain ⟨⟨-, -, -, -, -, -, a6⟩, -⟩ := seven_box (HBlk.out wS hSw.1); obtain ⟨b0, b1, b2, -⟩ := three_box hSw.2; have lk := HLk.out wS hSw.1; go_simp; try with_reducible rfl)
  simp only [Act.put, List.setIfInBounds_toArray, List.set_cons_zero, List.set_cons_succ]
  refine wpAnyH_take (i := 5) (oi := ⟨_, _, _, _, _, _⟩) (v := ?v16) rfl (by kernel_rfl) (by kernel_rfl) (by kernel_rfl) (fun _ _ _ h => h) ?y16 hS ?_
  case y16 => first | (refine Or.inr ⟨by rfl, ?_⟩; with_reducible rfl) | (refine Or.inl ⟨by rfl, ?_⟩; intro wS hSw; obtain ⟨⟨-, -, -, -, -, -, a6⟩, -⟩ := seven_box (HBlk.out wS hSw.1); obtain ⟨b0, b1, b2, -⟩ := three_box hSw.2; have lk := HLk.out wS hSw.1; go_simp; try with_reducible rfl)
  simp only [Act.put, List.setIfInBounds_toArray, List.set_cons_zero, List.set_cons_succ]
  refine wpAnyH_take (i := 6) (oi := ⟨_, _, _, _, _, _⟩) (v := ?v17) rfl (by kernel_rfl) (by kernel_rfl) (by kernel_rfl) (fun _ _ _ h => h) ?y17 hS ?_
  case y17 => first | (refine Or.inr ⟨by rfl, ?_⟩; with_reducible rfl) | (refine Or.inl ⟨by rfl, ?_⟩; intro wS hSw; obtain ⟨⟨-, -, -, -, -, -, a6⟩, -⟩ := seven_box (HBlk.out wS hSw.1); obtain ⟨b0, b1, b2, -⟩ := three_box hSw.2; have lk := HLk.out wS hSw.1; go_simp; try with_reducible rfl)
  simp only [Act.put, List.setIfInBounds_toArray, List.set_cons_zero, List.set_cons_succ]
  refine wpAnyH_take (i := 7) (oi := ⟨_, _, _, _, _, _⟩) (v := ?v18) rfl (by kernel_rfl) (by kernel_rfl) (by kernel_rfl) (fun _ _ _ h => h) ?y18 hS ?_
  case y18 => first | (refine Or.inr ⟨by rfl, ?_⟩; with_reducible rfl) | (refine Or.inl ⟨by rfl, ?_⟩; intro wS hSw; obtain ⟨⟨-, -, -, -, -, -, a6⟩, -⟩ := seven_box (HBlk.out wS hSw.1); obtain ⟨b0, b1, b2, -⟩ := three_box hSw.2; have lk := HLk.out wS hSw.1; go_simp; try with_reducible rfl)
  simp only [Act.put, List.setIfInBounds_toArray, List.set_cons_zero, List.set_cons_succ]
  refine wpAnyH_take (i := 8) (oi := ⟨_, _, _, _, _, _⟩) (v := ?v19) rfl (by kernel_rfl) (by kernel_rfl) (by kernel_rfl) (fun _ _ _ h => h) ?y19 hS ?_
  case y19 => first | (refine Or.inr ⟨by rfl, ?_⟩; with_reducible rfl) | (refine Or.inl ⟨by rfl, ?_⟩; intro wS hSw; obtain ⟨⟨-, -, -, -, -, -, a6⟩, -⟩ := seven_box (HBlk.out wS hSw.1); obtain ⟨b0, b1, b2, -⟩ := three_box hSw.2; have lk := HLk.out wS hSw.1; go_simp; try with_reducible rfl)
  simp only [Act.put, List.setIfInBounds_toArray, List.set_cons_zero, List.set_cons_succ]
  refine wpAnyH_ready (rs := [9]) (by kernel_rfl) (by simp) ?_
  refine AllReadyH.cons (o := ⟨_, _, _, _, _, _⟩) rfl (fun K hK => ?_) AllReadyH.nil
  have hR := HRb.out
  obtain ⟨⟨y0, y1, y2, y3, y4⟩, ⟨f0, f1, f2, f3, f4⟩⟩ := five_box hR
  obtain ⟨h5, hk5⟩ := set5 hR (.bool xis) (.int .i64 xen) (.int .i64 xfar) (.slice at1 xtree.length ct) (.slice ak1 xtou.length ck)
  have hb5 := HB.out.trans (hk5.below HB.out.size (fun k e => by have := HXe.out; omega))
  have hx5 := hk5.obj HX.out (by omega)
  go_simp
  refine hK.out _ _ ⟨hb5.drew, hx5⟩ (fun hSd => ?_)
  clear hSd hK K y0 y1 y2 y3 y4 f0 f1 f2 f3 f4 hR hk5
  try simp only [Act.put, List.setIfInBounds_toArray, List.set_cons_zero, List.set_cons_succ]
  refine gen_anyH (S2 := fun v => Below w.heap.size w v ∧ v.heap[X]? = some (.cells #[.int .i64 k.rule, .int .i64 k.level, .int .i64 k.place] 24 (0, 0)) ∧ v.heap[X + 1]? = some (.cells #[.bool xis, .int .i64 xen, .int .i64 xfar, .slice at1 xtree.length ct, .slice ak1 xtou.length ck] 30 (0, 0))) ⟨hb5.drew, hx5, h5⟩ (fun v hh => ?_)
  clear hb5 hx5 h5 hS
  obtain ⟨hb, hx, hr⟩ := hh
  have hS := And.intro hb hx
  refine wpAnyH_take (i := 10) (oi := ⟨_, _, _, _, _, _⟩) (v := ?v20) rfl (by kernel_rfl) (by kernel_rfl) (by kernel_rfl) (fun _ _ _ h => h) ?y20 hS ?_
  case y20 => first | (refine Or.inr ⟨by rfl, ?_⟩; with_reducible rfl) | (refine Or.inl ⟨by rfl, ?_⟩; intro wS hSw; obtain ⟨⟨-, -, -, -, -, -, a6⟩, -⟩ := seven_box (HBlk.out wS hSw.1); obtain ⟨b0, b1, b2, -⟩ := three_box hSw.2; have lk := HLk.out wS hSw.1; go_simp; try with_reducible rfl)
  simp only [Act.put, List.setIfInBounds_toArray, List.set_cons_zero, List.set_cons_succ]
  refine wpAnyH_done (by kernel_rfl) ?_ _
  clear hS
  have HBv := Lib.hid hb
  have HRv := Lib.hid hr
  clear hb hx hr HX HRb Hu HBlk HLk
  obtain ⟨⟨y0, y1, y2, y3, y4⟩, ⟨f0, f1, f2, f3, f4⟩⟩ := five_box HRv.out
  go_wp2_with fail
  refine (copied_any ⟨xis, xen, xfar, xtree, xtou, .slice at1 xtree.length ct, .slice ak1 xtou.length ck⟩ _ (HTo.out.later HBv.out) (HKo.out.later HBv.out) HL1.out HL2.out).mono ?_
  rintro e v2 ⟨tv, kv, rfl, ho1, ho2, hb⟩
  simp only at ho1 ho2
  obtain ⟨a1, c1, rfl⟩ := own_val ho1
  obtain ⟨a2, c2, rfl⟩ := own_val ho2
  have HO1 := Lib.hid (ownsRow_base ho1 HBv.out.size)
  have HO2 := Lib.hid (ownsRow_base ho2 HBv.out.size)
  have HR2 := Lib.hid ((hb.block _ (lt_of_block HRv.out)).trans HRv.out)
  have HB2 := Lib.hid (HBv.out.trans (hb.mono HBv.out.size))
  clear ho1 ho2 hb y0 y1 y2 y3 y4 f0 f1 f2 f3 f4
  obtain ⟨⟨y0, y1, y2, y3, y4⟩, ⟨f0, f1, f2, f3, f4⟩⟩ := five_box HR2.out
  go_wp2
  obtain ⟨h5, hk5⟩ := set5 HR2.out (.bool xis) (.int .i64 xen) (.int .i64 xfar) (.slice a1 xtree.length c1) (.slice a2 xtou.length c2)
  obtain ⟨⟨q0, q1, q2, q3, q4⟩, -⟩ := five_box h5
  have ho1 := row_kept HO1.out hk5 (fun k cs hc e => by subst e; have := HR2.out; rw [hc] at this; simp at this)
  have ho2 := row_kept HO2.out hk5 (fun k cs hc e => by subst e; have := HR2.out; rw [hc] at this; simp at this)
  exact bodyPost_ret (v := .tuple #[.agg #[.bool xis, .int .i64 xen, .int .i64 xfar, .slice a1 xtree.length c1, .slice a2 xtou.length c2], .bool true]) (by simp [results, Tryz.f25, go_sem, q0, q1, q2, q3, q4]) rfl ⟨_, _, rfl, ho1, ho2, HB2.out.trans (hk5.below HB2.out.size (fun k e => by have := HXe.out; omega))⟩
end Go.Proofs.YtpchjpmkkiopiaaGreat
