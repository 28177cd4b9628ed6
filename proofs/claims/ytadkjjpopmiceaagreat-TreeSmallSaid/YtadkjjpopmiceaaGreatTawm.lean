import Derived.Test.YtadkjjpopmiceaaGreatTallm
import Derived.Test.YtadkjjpopmiceaaGreatStr3
import Derived.RangeFuncBox
import Derived.WalkSpells
import Derived.LoopN
namespace Go.Proofs.YtadkjjpopmiceaaGreat
open Go.RowKit Go.Lib Go.Shelf
attribute [local go_sem] Oper.semAt_some

/-- a row of twigs of the call's own. -/
def TwOwn (base : Nat) (w : World) (v : Value) (l : List Tw) : Prop := w.ownsRow base 45 5 v l.length (tvs l)
theorem TwOwn.later {B : Nat} {w w' : World} {v : Value} {l : List Tw} (h : TwOwn B w v l) (hb : Below w.heap.size w w') : TwOwn B w' v l := (Keeps.ofNew hb (fun _ => False)).row h (fun _ _ h => h)
theorem TwOwn.lift {B C : Nat} {w : World} {v : Value} {l : List Tw} (h : TwOwn B w v l) (hB : C ≤ B) : TwOwn C w v l := ownsRow_base h hB
def ToldT (w : World) (l : List Tw) (en : Ending) (w' : World) : Prop := ∃ v', en = .returned v' ∧ TwOwn w.heap.size w' v' l ∧ Below w.heap.size w w'
theorem fold2 (t : Array Value) (p q : Tmp) (u v : Value) : (#[p, q].zip #[u, v]).foldl (fun (t : Array Value) (x : Tmp × Value) => t.setIfInBounds x.1 x.2) t = (t.setIfInBounds p u).setIfInBounds q v := by
  have h : (#[p, q] : Array Tmp).zip #[u, v] = #[(p, u), (q, v)] := by rw [List.zip_toArray]; rfl
  rw [h]
  simp
theorem kpT_append {b B n : Nat} {X : Nat → Prop} {W w1 : World} {v v' : Value} {xs : List Value} {o : Obj} (hrow : W.ownsRow b 45 5 v n xs) (hg : (W.alloc o).grownBy w1 v.ownBlock) (hB : X B) : KpT b X W (w1.setCell ⟨B, 0, none⟩ v') := by
  refine ⟨?_, fun k ob hk ht ho => ?_⟩
  · have := hg.size
    simp [World.setCell] at this ⊢
    omega
  · have hlt := (Array.getElem?_eq_some_iff.1 ho).1
    rw [Below.heap_setCell _ _ _ _ (fun e => hk (by rw [show k = B from e]; exact hB))]
    refine (hg.block k (by simp; omega) (fun e => ht ?_)).trans ((Below.heap_alloc _ _ _ hlt).trans ho)
    rcases hrow.2 with ⟨rfl, -⟩ | ⟨g, cap, cur, rfl, hb, hgb, -⟩
    · simp [Value.ownBlock] at e
    · simp [Value.ownBlock] at e
      subst e
      rw [hgb] at ho
      cases ho
      exact ⟨hb, _, _, rfl⟩
set_option maxRecDepth 100000 in
set_option maxHeartbeats 4000000 in
theorem rowS_any {B x : Nat} {v : Value} {l : List Tw} {most peak : Nat} (w : World) (h : TAr B w x v l most peak) (hl : l.length ≤ 1000000) :
    Calls Tryz.prog 74 #[.agg #[.pointer (some ⟨x, 0, none⟩)]] w fun en w' => ToldT w l en w' := by
  have HA := Lib.hid h
  obtain ⟨i0, hi0, hz0, hz1, hz2⟩ := info_parts Tryz.infoTwig
  clear h
  refine (callsIn_wide (n := 9)).1 ?_
  refine callsIn_of_wp_marks Tryz.func74 rfl trivial ?_ rfl
  simp only [Tryz.ntmps74, List.size_toArray, List.length_cons, List.length_nil, Nat.reduceAdd, Nat.reduceSub, Array.replicate_succ, Array.replicate_zero, List.push_toArray, List.append_toArray, List.nil_append, List.cons_append]
  refine wpIn_wide.2 ?_
  go_upto_region 1 with (fail)
  refine gen_world (S := fun u => Below w.heap.size w u ∧ u.heap[w.heap.size]? = some (.cells #[.pointer (some ⟨x, 0, none⟩)] 107 (0, 0)) ∧ u.heap[w.heap.size + 1]? = some (.cells #[.slice none 0 0] 75 (0, 0))) (two_new w _ _) (fun u hu => ?_)
  obtain ⟨hb0, hx, hy⟩ := hu
  have cS := (block_cell' hx 0).1
  obtain ⟨X, hX⟩ : ∃ X, X = w.heap.size := ⟨_, rfl⟩
  obtain ⟨Bl, hBl⟩ : ∃ Bl, Bl = w.heap.size + 1 := ⟨_, rfl⟩
  rw [← hX] at cS ⊢
  rw [show X + 1 = Bl from by omega]
  rw [← hBl] at hy
  have HY := Lib.hid hy
  have HB0 := Lib.hid hb0
  have HXe := Lib.hid (And.intro hX hBl)
  clear hb0 hx hy hX hBl
  go_wp2_with fail
  refine (callsIn_wide.1 (all_in 5 (some ⟨x, 0, none⟩) u)).mono ?_
  rintro e w9 ⟨rfl, rfl⟩
  clear cS
  go_wp2_with fail
  have hal := (Below.refl u.heap.size u).alloc (Nat.le_refl _) (.cells #[.pointer (some ⟨x, 0, none⟩)] 105)
  have hBa := heap_alloc_new u (.cells #[.pointer (some ⟨x, 0, none⟩)] 105)
  obtain ⟨Ba, hBaE⟩ : ∃ Ba, Ba = u.heap.size := ⟨_, rfl⟩
  have HB9 := Lib.hid (HB0.out.trans (hal.mono HB0.out.size))
  have HY9 := Lib.hid ((hal.block _ (lt_of_block HY.out)).trans HY.out)
  rw [← hBaE] at hBa ⊢
  have hYB : Bl < Ba := by rw [hBaE]; exact lt_of_block HY.out
  have hXl : w.heap.size ≤ Bl := by have := HXe.out; omega
  clear hal hBaE
  generalize u.alloc (.cells #[.pointer (some ⟨x, 0, none⟩)] 105) = w9 at hBa HB9 HY9 ⊢
  have HBa := Lib.hid hBa
  have hA9 := HA.out.later HB9.out
  have HA9 := Lib.hid hA9
  have hxl : x < w.heap.size := lt_of_block HA.out.1
  have hgl : ∀ k, v.ownBlock = some k → k < w.heap.size := fun k hk => (HA.out.2.1.lt k hk).2
  have HGl := Lib.hid hgl
  have hBal := lt_of_block hBa
  have hwl := HB9.out.size
  clear hBa hA9 hgl
  refine (wpIn_wide (n := 9)).1 ?_
  refine range_strong3 (α := Fin l.length) (by omega) (gf := 126) (lb := #[.pointer (some ⟨Ba, 0, none⟩)]) rfl (enters_of Tryz.func126 (by kernel_rfl) rfl)
    (encs := fun y => #[.int .i64 ((y : Fin l.length).val : Int), twv (l[y.val]'y.isLt)]) (Kp := KpT w.heap.size fun k => k = w9.heap.size + 1 ∨ k = Bl) (S := fun ys => ys.map Fin.val = List.range l.length) (Sp := fun pre => ∃ k, k ≤ l.length ∧ pre.map Fin.val = List.range k) (N := l.length)
    (fun l2 J2 Jx2 W3 hb hs3 hJ2 hJx2 hY2 h02 => all1_in w.heap.size 8 (by omega) l2 Ba x _ B v l most peak J2 Jx2 W3 (fun k hk => by omega) (fun e => by omega) (fun e => by omega) (fun k hk => ⟨fun e => by have := HGl.out k hk; omega, HGl.out k hk⟩) hJ2 hJx2 hY2 ((hb.block _ (lt_of_block HBa.out)).trans HBa.out) (HA9.out.later hb) h02)
    KpT.trans (fun W o o' ho hc => KpT.putObj W _ o' (Or.inl rfl) ho) (fun _ => rfl)
    (fun pre W' => (∃ v, Boxed W' Bl 75 v ∧ W'.ownsRow w.heap.size 45 5 v pre.length (tvs (pre.map (fun y : Fin l.length => l[y.val]'y.isLt))) ∧ True) ∧ Below w.heap.size w W')
    (fun _ _ _ => False)
    (OwnFrom.and (Own.from (holdsRow_own w.heap.size Bl 75 45 5 (fun pre : List (Fin l.length) => pre.length) (fun pre => tvs (pre.map (fun y : Fin l.length => l[y.val]'y.isLt))) (fun _ _ => True)) w9.heap.size) (ownFrom_below (Nat.le_refl _) hwl))
    (fun _ _ _ _ _ hs _ _ => hs.elim)
    ⟨⟨_, HY9.out, World.ownsRow_nil _ _ _ _, trivial⟩, HB9.out⟩
    (fun y a' W' => ∃ Bx, W'.heap[Bx]? = some (.cells (twc (l[y.val]'y.isLt)).toArray 45 (0, 0)) ∧ a' = { tmps := #[.agg #[.pointer (some ⟨x, 0, none⟩)], .pointer (some ⟨X, 0, none⟩), .pointer (some ⟨Bl, 0, none⟩), undef, .pointer (some ⟨Bx, 0, none⟩), .pointer (some ⟨X, 0, none⟩), .pointer (some ⟨x, 0, none⟩), .func (.func 126) #[] #[.pointer (some ⟨Ba, 0, none⟩)], .int .i64 (y.val : Int), twv (l[y.val]'y.isLt), undef, undef, undef, undef, undef], defers := [] })
    (fun y a' => Own.from (fun s A C row hs hg hrow => by
      obtain ⟨Bx, h1, h3⟩ := hs
      exact ⟨Bx, (hg.block Bx (lt_of_block h1) (fun e => by obtain ⟨o, ho, hc⟩ := hrow Bx e.symm; rw [h1] at ho; cases ho; cases hc)).trans h1, h3⟩) _)
    ?assign ?body ?done ?stop
  case assign =>
    rintro l2 pre y W' K ⟨⟨v, hv, hrow, -⟩, hB⟩ hK
    simp only [fold2, List.setIfInBounds_toArray, List.set_cons_zero, List.set_cons_succ] at hK ⊢
    obtain ⟨t, ht⟩ : ∃ t, t = l[y.val]'y.isLt := ⟨_, rfl⟩
    rw [← ht] at hK ⊢
    unfold twv at hK ⊢
    clear ht
    gi_wp2
    exact hK _ _ ((KeepsOthers.alloc _ _).from _) (KpT.ofBelow ((Below.refl _ _).alloc (Nat.le_refl _) _)) ⟨⟨v, hv.alloc _, hrow.alloc _, trivial⟩, hB.alloc hB.size _⟩ ⟨W'.heap.size, heap_alloc_new W' _, rfl⟩
  case body =>
    rintro l2 pre y a' W' hl2 ⟨⟨v, hv, hrow, -⟩, hB⟩ ⟨Bx, hx, rfl⟩ hlen
    obtain ⟨t, ht⟩ : ∃ t, t = l[y.val]'y.isLt := ⟨_, rfl⟩
    rw [← ht] at hx ⊢
    unfold twv
    obtain ⟨y0, y1, y2, y3, y4⟩ := five_box hx
    have hc := hv.cell
    have hBs := hB.size
    have HT := Lib.hid ht
    have hpl : pre.length ≤ 1000000 := by omega
    obtain ⟨j, hj⟩ : ∃ j, j = pre.length := ⟨_, rfl⟩
    rw [← hj] at hrow hpl hlen
    have HJ := Lib.hid hj
    obtain ⟨ao, cap, rfl⟩ := own_val hrow
    have HRow := Lib.hid hrow
    have HV := Lib.hid hv
    clear ht hj hx hv
    gi_wp2_with (gi_at_builtin; refine wpListIn_append_own _ rfl _ _ 75 rfl w.heap.size 45 i0 _ 5 40 Tryz.underlying75 hi0 hz0 hz1 hz2 rfl (by decide) _ _ _ rfl (hrow.alloc _) ⟨W'.heap.size, 0, none⟩ 1 1 [.int .i64 t.rule, .int .i64 t.lev, .int .i64 t.fr, .int .i64 t.to, .int .i64 t.kids] rfl rfl (World.news_of_block (cs := #[.int .i64 t.rule, .int .i64 t.lev, .int .i64 t.fr, .int .i64 t.to, .int .i64 t.kids]) (t := 45) (fr := (0, 0)) (heap_alloc_new W' _)) (by simp [Value.oneCell']) (by unfold maxLen; omega) (by omega) (by simp; omega) ?_; intro v' w1 hown' hgrow _; obtain ⟨g', cap', rfl⟩ := own_shape hown' (by omega); obtain ⟨hv1, hv2, hr2, hk2, hb2⟩ := HV.out.appended (by decide) hrow hBs hXl hown' hgrow; have hc1 := hv1.cell; have hf1 := hv1.frozen; have HKp := Lib.hid (kpT_append (X := fun k => k = w9.heap.size + 1 ∨ k = Bl) (B := Bl) (v' := .slice (some ⟨g', 0, none⟩) (j + 1) cap') hrow hgrow (.inr rfl)); have HV2 := Lib.hid hv2; have HR2 := Lib.hid hr2; have HK2 := Lib.hid hk2; have HB2 := Lib.hid hb2; clear hv1 hv2 hr2 hk2 hb2 hown' hgrow)
    exact ⟨HK2.out.from _, HKp.out, ⟨_, HV2.out, by
      rw [List.length_append, List.length_singleton, ← HJ.out, List.map_append, tvs, List.flatMap_append]
      have := HR2.out
      simp only [List.map_cons, List.map_nil, ← HT.out]
      simpa [twc] using this, trivial⟩, hB.trans HB2.out⟩
  case done =>
    rintro D ys W' hD hys ⟨⟨v, hv, hrow, -⟩, hB⟩ hKD
    have hyl : ys.length = l.length := by
      have := congrArg List.length hys
      simpa using this
    have hml : ys.map (fun y : Fin l.length => l[y.val]'y.isLt) = l := by
      have : ys.map (fun y : Fin l.length => l[y.val]'y.isLt) = (ys.map Fin.val).map (fun i => l.getD i ⟨0, 0, 0, 0, 0⟩) := by
        rw [List.map_map]
        apply List.map_congr_left
        intro y _
        simp
      rw [this, hys]
      apply List.ext_getElem
      · simp
      · intro i h1 h2
        simp [h2]
    rw [hyl, hml] at hrow
    obtain ⟨ao, cap, rfl⟩ := own_val hrow
    have hc := hv.cell
    have hf := hv.frozen
    have HRow := Lib.hid hrow
    have HKD := Lib.hid hKD
    have HV := Lib.hid hv
    have HB := Lib.hid hB
    clear hrow hKD hv hml hys hyl hB
    go_wp2_with fail
    have hK2 : (W'.setCell ⟨Bl, 0, none⟩ (.slice ao l.length cap)).heap[D]? = some (.deferred (some [])) := (KeepsOthers.setCell W' ⟨Bl, 0, none⟩ (.slice ao l.length cap)).same D _ HKD.out rfl
    have hset : Keeps (fun k => k = Bl) W' (W'.setCell ⟨Bl, 0, none⟩ (.slice ao l.length cap)) := (Keeps.refl (fun k => k = Bl) W').setCell (p := ⟨Bl, 0, none⟩) rfl _
    have hput : Keeps (fun k => k = D) (W'.setCell ⟨Bl, 0, none⟩ (.slice ao l.length cap)) ((W'.setCell ⟨Bl, 0, none⟩ (.slice ao l.length cap)).putObj D (.deferred none)) := (Keeps.refl (fun k => k = D) _).grown (grownBy_putObj' _ D (.deferred none)) (fun k e => by cases e; rfl)
    have hne := own_ne' (show W'.heap[Bl]? = _ from HV.out) (by decide) HRow.out
    have hr1 := hset.row HRow.out (fun k hk e => hne (by rw [← e]; exact hk))
    have hr2 := hput.row hr1 (fun k hk e => by
      obtain ⟨g', cap', cur, hv', hbg, hgb, -⟩ := hr1.2.resolve_left (fun h => by
        obtain ⟨h1, -⟩ := h
        rw [h1] at hk
        simp [Value.ownBlock] at hk)
      rw [hv'] at hk
      simp [Value.ownBlock] at hk
      rw [hk, e, hK2] at hgb
      simp at hgb)
    have hc4 : (W'.setCell ⟨Bl, 0, none⟩ (.slice ao l.length cap)).cell? ⟨Bl, 0, none⟩ = some (.slice ao l.length cap) := (HV.out.set _).cell
    have hc5 : ((W'.setCell ⟨Bl, 0, none⟩ (.slice ao l.length cap)).putObj D (.deferred none)).cell? ⟨Bl, 0, none⟩ = some (.slice ao l.length cap) := cell_kept hc4 (grownBy_putObj' _ D (.deferred none)) (fun r e => by cases e; exact ⟨_, hK2, rfl⟩)
    refine ⟨by simp, .inl ⟨_, _, rfl, run_takeDeferred hK2, ?_⟩⟩
    refine ⟨.slice ao l.length cap, by simp [results, Tryz.f74, go_sem, hc5], _, rfl, hr2, ?_⟩
    have hb1 := HB.out.setCell (p := ⟨Bl, 0, none⟩) hXl (.slice ao l.length cap)
    exact hb1.grown (grownBy_putObj' _ D (.deferred none)) hb1.size (fun k hk => by cases hk; omega)
  case stop => exact fun D c pre W' hD hpre h => h.elim
end Go.Proofs.YtadkjjpopmiceaaGreat
namespace Go.Proofs.YtadkjjpopmiceaaGreat
open Go.RowKit Go.Lib

/-- a part of a row. -/
theorem own_part {w : World} {B g n cap : Nat} {l : List Tw} (h : w.ownsRow B 45 5 (.slice (some ⟨g, 0, none⟩) n cap) n (tvs l)) (i j off c : Nat) (hij : i ≤ j) (hj : j ≤ n) (ho : i = j ∨ off = i * 5) (hc : j - i ≤ c ∧ c ≤ maxLen) :
    TwAt w (.slice (some ⟨g, off, none⟩) (j - i) c) ((l.take j).drop i) := by
  have hn := own_rowsC twc_len (by omega) h
  obtain ⟨-, hb, cur, hg, h1, h2, -⟩ := own_open h
  have hl : ((l.take j).drop i).length = j - i := by rw [List.length_drop, List.length_take]; omega
  refine ⟨some ⟨g, off, none⟩, g, off, c, by rw [List.length_map, hl], by rw [List.length_map, hl]; exact hc.1, hc.2, (fun h => by cases h), fun _ => ⟨rfl, lt_of_block hg⟩, fun e he => ?_, fun k hk q hq => ?_⟩
  · obtain ⟨x, -, rfl⟩ := List.mem_map.1 he
    rfl
  · rw [List.length_map] at hk
    rw [hl] at hk
    rcases ho with ho | rfl
    · omega
    · have hil : i + k < l.length := by omega
      have := (own_cellC twc_len h (i + k) hil q hq).1
      simp only [List.getElem_map, List.getElem_drop, List.getElem_take]
      rw [← this]
      congr 2
      rw [Nat.add_mul]
theorem TwAt.nil (w : World) : TwAt w (.slice none 0 0) [] := ⟨none, 0, 0, 0, rfl, Nat.le_refl _, Nat.zero_le _, fun _ => ⟨rfl, rfl⟩, (fun h => absurd h (by simp)), (fun e he => by simp at he), fun i hi => by simp at hi⟩
theorem TwOwn.tw {B : Nat} {w : World} {v : Value} {l : List Tw} (h : TwOwn B w v l) : TwAt w v l := by
  unfold TwOwn at h
  rcases h.2 with ⟨rfl, h0⟩ | ⟨g, cap, cur, rfl, -, -, h1, h2, -⟩
  · obtain rfl : l = [] := List.eq_nil_of_length_eq_zero h0
    exact TwAt.nil w
  · have := own_part h 0 l.length 0 cap (Nat.zero_le _) (Nat.le_refl _) (.inr rfl) ⟨by omega, h2⟩
    simpa using this
theorem tw_empty (w : World) (c : Nat) (hc : c ≤ maxLen) (g off : Nat) (hg : g < w.heap.size) : TwAt w (.slice (some ⟨g, off, none⟩) 0 c) [] := ⟨some ⟨g, off, none⟩, g, off, c, rfl, Nat.zero_le _, hc, (fun h => by cases h), fun h => absurd h (by simp), (fun e he => by simp at he), fun i hi => by simp at hi⟩
set_option maxRecDepth 100000 in
set_option maxHeartbeats 1000000 in
theorem tClone_any {l : List Tw} (v : Value) (w : World) (h : TwAt w v l) (hl : l.length ≤ 1000000) :
    Calls Tryz.prog 83 #[v] w fun en w' => ToldT w l en w' := by
  obtain ⟨ao, cap, rfl⟩ := h.val
  obtain ⟨-, hlc, hcm, hnil, hnews⟩ := rows_news twc_len (by omega) h
  obtain ⟨n, hn⟩ : ∃ n, n = l.length := ⟨_, rfl⟩
  have HN := Lib.hid hn
  rw [← hn] at hl hnil h ⊢
  have H := Lib.hid h
  have Hnil := Lib.hid hnil
  clear h hn hnews hnil
  obtain ⟨i0, hi0, hz0, hz1, hz2⟩ := info_parts Tryz.infoTwig
  have qT : ∀ (w : World) (a : Option Addr) (n c : Nat), (binOp .eql 75 (.slice a n c) (.slice none 0 0)).run Tryz.prog w = .ok (.bool a.isNone) w := fun w a n c => Lib.run_eql_slice_nil w _ _ a n c 0 0 Tryz.underlying75
  cases ao with
  | none =>
    obtain ⟨h0, h1⟩ := Hnil.out rfl
    subst h0
    subst h1
    have HNl := Lib.hid (show l = [] from List.eq_nil_of_length_eq_zero HN.out.symm)
    go_enter Tryz.func83, Tryz.ntmps83
    go_wp2
    go_ret
    rw [HNl.out]
    exact ⟨_, rfl, World.ownsRow_nil _ _ _ _, Below.refl _ _⟩
  | some ad =>
    have hal : Below w.heap.size w (w.alloc (.cells #[] 45)) := (Below.refl _ _).alloc (Nat.le_refl _) _
    obtain ⟨-, -, -, -, hnews⟩ := rows_news twc_len (by omega) (H.out.later hal)
    have HNews := Lib.hid hnews
    have HOwn := Lib.hid (show (w.alloc (.cells #[] 45)).ownsRow w.heap.size 45 5 (.slice (some ⟨w.heap.size, 0, none⟩) 0 0) 0 [] from own_shut rfl (Nat.le_refl _) (heap_alloc_new w _) (Nat.le_refl _) (Nat.zero_le _) rfl rfl)
    have HHal := Lib.hid hal
    clear hnews hal
    go_enter Tryz.func83, Tryz.ntmps83
    go_wp2_with (at_builtin; refine wpList_append_mine _ rfl (.tmp 5) (.tmp 6) 75 rfl w.heap.size 45 i0 _ 5 40 Tryz.underlying75 hi0 hz0 hz1 hz2 rfl (by decide) _ 0 [] rfl HOwn.out (some ad) n cap (tvs l) rfl (by rw [flat_len twc_len, HN.out]) (fun h => by cases h) HNews.out (flat_one twc_one l) (by unfold maxLen; omega) (by omega) (by simp) ?_; intro v' w1 hown' hgrow hfr; obtain ⟨aov, capv, rfl⟩ := own_val hown'; have HO := Lib.hid hown'; have HG := Lib.hid hgrow; clear hown' hgrow hfr)
    go_ret
    refine ⟨_, rfl, ?_, HHal.out.grown HG.out HHal.out.size (fun r hr => by cases hr; exact Nat.le_refl _)⟩
    unfold TwOwn
    rw [← HN.out]
    have := HO.out
    simpa using this
/-- a number is one of some. -/
def anyN (rs : List Nat) (x : Int) : Bool := rs.any fun r => (r : Int) == x
def IdxI (rs : List Nat) (x : Int) (e : Ending) : Prop := ∃ r : Int, e = .returned (.int .i64 r) ∧ ((anyN rs x = false ∧ r = -1) ∨ (anyN rs x = true ∧ 0 ≤ r))
set_option maxRecDepth 100000 in
set_option maxHeartbeats 1000000 in
theorem index_any (B : Nat) (v : Value) (rs : List Nat) (x : Int) (w : World) (h : OwnN B w v rs) :
    Calls Tryz.prog 128 #[v, .int .i64 x] w fun e w' => IdxI rs x e ∧ w = w' := by
  have hcA := own_cells (nats_one rs) (by unfold OwnN at h; exact h)
  obtain ⟨ao, b, off, cap, rfl, hlc, hm, -, hao, -, hcc⟩ := hcA
  simp only [List.length_map] at hlc hao hcc ⊢
  unfold maxLen at hm
  obtain ⟨n, hn⟩ : ∃ n, n = rs.length := ⟨_, rfl⟩
  have HN := Lib.hid hn
  have HA := Lib.hid hao
  have HCC := Lib.hid hcc
  rw [← hn] at hlc ⊢
  clear h hao hcc hn
  go_enter Tryz.func128, Tryz.ntmps128
  go_wp2
  go_loop [8] (fun i => ∃ k : Nat, k ≤ n ∧ i = .int .i64 k ∧ Hid (anyN (rs.take k) x = false)) (fun i => n - (intOf i).toNat)
  case atStart => exact ⟨0, Nat.zero_le _, rfl, Lib.hid (by simp [anyN])⟩
  case round =>
    obtain ⟨k, hk, rfl, HT⟩ := hrel
    by_cases hlt : k < n
    · have hlt2 : (k : Int) < n := by omega
      have hkE : k < rs.length := by rw [← HN.out]; exact hlt
      have hao := HA.out (by omega)
      subst hao
      have c0 := HCC.out k hkE
      obtain ⟨y, hy⟩ : ∃ y, y = rs[k] := ⟨_, rfl⟩
      simp only [List.getElem_map, ← hy] at c0
      have HY := Lib.hid hy
      clear hy
      by_cases hq : (y : Int) = x
      · have hq1 : (x == (y : Int)) = true := by simp [hq]
        have hq2 : ((y : Int) == x) = true := by simp [hq]
        have HQ := Lib.hid hq
        clear hq
        go_wp2
        go_ret
        refine ⟨⟨k, rfl, .inr ⟨?_, by omega⟩⟩, rfl⟩
        unfold anyN
        rw [List.any_eq_true]
        exact ⟨rs[k], List.getElem_mem _, by rw [← HY.out]; exact hq2⟩
      · have hq1 : (x == (y : Int)) = false := by simp; omega
        have hq2 : ((y : Int) == x) = false := by simp; omega
        have HQ := Lib.hid hq2
        clear hq
        go_wp2
        go_round
        case rel => exact ⟨k + 1, by omega, by go_num, Lib.hid (by
          have := HT.out
          unfold anyN at this ⊢
          rw [List.take_succ_eq_append_getElem hkE, List.any_append, this, ← HY.out]
          simp [HQ.out])⟩
        case measure => simp [intOf]; omega
    · have hlt2 : ¬ (k : Int) < n := by omega
      go_wp2
      go_ret
      refine ⟨⟨-1, rfl, .inl ⟨?_, rfl⟩⟩, rfl⟩
      have := HT.out
      rwa [List.take_of_length_le (by rw [← HN.out]; omega)] at this
theorem contains_any (B : Nat) (v : Value) (rs : List Nat) (x : Int) (w : World) (h : OwnN B w v rs) :
    Calls Tryz.prog 110 #[v, .int .i64 x] w fun e w' => e = .returned (.bool (anyN rs x)) ∧ w = w' := by
  have HI := Lib.hid (index_any B v rs x w h)
  clear h
  go_enter Tryz.func110, Tryz.ntmps110
  go_wp2_with fail
  refine HI.out.mono ?_
  rintro e w' ⟨⟨r, rfl, hr⟩, rfl⟩
  have HR := Lib.hid hr
  clear hr
  rcases HR.out with ⟨h1, rfl⟩ | ⟨h1, h2⟩
  all_goals
    have H1 := Lib.hid h1
    clear h1
    go_wp2
    go_ret
    exact ⟨ret_bool (by rw [H1.out]; try (simp; try omega)), rfl⟩
end Go.Proofs.YtadkjjpopmiceaaGreat
namespace Go.Proofs.YtadkjjpopmiceaaGreat
open Go.RowKit Go.Lib

set_option maxRecDepth 100000 in
set_option maxHeartbeats 1000000 in
theorem grow0_any (w : World) : Calls Tryz.prog 111 #[.slice none 0 0, .int .i64 0] w fun e w' => e = .returned (.slice none 0 0) ∧ w = w' := by
  go_enter Tryz.func111, Tryz.ntmps111
  go_wp2
  go_ret
  exact ⟨rfl, rfl⟩
def GrowR (w : World) (e : Ending) (w' : World) : Prop := ∃ v', e = .returned v' ∧ w'.ownsRow w.heap.size 45 5 v' 0 [] ∧ Below w.heap.size w w'
set_option maxRecDepth 100000 in
set_option maxHeartbeats 2000000 in
theorem grow_any (n : Nat) (w : World) (h0 : 0 < n) (hl : n ≤ 2000000) : Calls Tryz.prog 111 #[.slice none 0 0, .int .i64 n] w fun e w' => GrowR w e w' := by
  obtain ⟨i0, hi0, hz0, hz1, hz2⟩ := info_parts Tryz.infoTwig
  have hrun := run_append_nil_zeros (P := Tryz.prog) w 75 3 75 45 i0 _ .i64 .i64 Tryz.underlying75 Tryz.underlying3 hi0 hz0 n h0 (by rw [hz1]; omega) (by omega) (by rw [hz2]; omega)
  have HR := Lib.hid hrun
  have hn0 : (0 : Int) < n := by omega
  have hsz : n ≤ grownCap w n 0 45 := grownCap_ge w n 0 _
  have hcm : grownCap w n 0 45 ≤ maxLen := grownCap_le_maxLen w n 0 _ (by unfold maxLen; omega)
  have HCm := Lib.hid hcm
  clear hrun hcm
  go_enter Tryz.func111, Tryz.ntmps111
  go_wp2_with (at_builtin; refine Lib.wpList_append_run _ rfl (.tmp 20) (.tmp 21) 75 3 rfl _ _ rfl rfl _ _ HR.out ?_)
  go_ret
  refine ⟨_, rfl, own_shut rfl (Nat.le_refl _) (heap_alloc_new w.drew _) (Nat.zero_le _) HCm.out ?_ rfl, ((Below.refl w.heap.size w).drew).alloc (Nat.le_refl _) _⟩
  have h1 := zeros_len n
  have h2 := zeros_len (grownCap w n 0 45 - n)
  rw [zTw_cells] at h1 h2
  rw [Array.length_toList] at h1 h2
  rw [Array.size_append, h1, h2]
  omega
set_option maxRecDepth 100000 in
set_option maxHeartbeats 4000000 in
theorem concat_any {R : Nat} {v1 v2 : Value} {l1 l2 : List Tw} (w : World) (hR : w.heap[R]? = some (.cells #[v1, v2] 75 (0, 0))) (h1 : TwAt w v1 l1) (h2 : TwAt w v2 l2) (hl1 : l1.length ≤ 1000000) (hl2 : l2.length ≤ 1000000) :
    Calls Tryz.prog 80 #[.slice (some ⟨R, 0, none⟩) 2 2] w fun en w' => ToldT w (l1 ++ l2) en w' := by
  have H1 := Lib.hid h1
  have H2 := Lib.hid h2
  have HR := Lib.hid hR
  obtain ⟨c0, c1⟩ := two_box hR
  obtain ⟨a1, p1, rfl⟩ := h1.val
  obtain ⟨a2, p2, rfl⟩ := h2.val
  obtain ⟨n1, hn1⟩ : ∃ n1, n1 = l1.length := ⟨_, rfl⟩
  obtain ⟨n2, hn2⟩ : ∃ n2, n2 = l2.length := ⟨_, rfl⟩
  have HN := Lib.hid (And.intro hn1 hn2)
  rw [← hn1] at hl1 c0 H1 HR
  rw [← hn2] at hl2 c1 H2 HR
  clear h1 h2 hR hn1 hn2
  have hs1 : ¬ ((n1 : Int) < 0) := by omega
  have hs2 : ¬ ((n1 : Int) + n2 < 0) := by omega
  obtain ⟨i0, hi0, hz0, hz1, hz2⟩ := info_parts Tryz.infoTwig
  have hG : Calls Tryz.prog 111 #[.slice none 0 0, .int .i64 ((n1 : Int) + n2)] w fun e w' => GrowR w e w' := by
    by_cases h0 : n1 + n2 = 0
    · have e1 : n1 = 0 := by omega
      have e2 : n2 = 0 := by omega
      subst e1
      subst e2
      exact (grow0_any w).mono fun e w' h => by
        obtain ⟨rfl, rfl⟩ := h
        exact ⟨_, rfl, World.ownsRow_nil _ _ _ _, Below.refl _ _⟩
    · have := grow_any (n1 + n2) w (by omega) (by omega)
      rwa [show ((n1 + n2 : Nat) : Int) = (n1 : Int) + n2 from by omega] at this
  have HG := Lib.hid hG
  clear hG
  go_enter Tryz.func80, Tryz.ntmps80
  go_wp2
  refine wp_loop_rounds 3 ?_
  rw [rounds_succ]
  go_wp2
  rw [rounds_succ]
  go_wp2
  rw [rounds_succ]
  go_wp2_with fail
  refine HG.out.mono ?_
  rintro e w1 ⟨v', rfl, ho, hb⟩
  obtain ⟨ga, gc, rfl⟩ := own_val ho
  have HO := Lib.hid ho
  have HB := Lib.hid hb
  clear c0 c1 ho hb
  have hR1 := (HB.out.block _ (lt_of_block HR.out)).trans HR.out
  obtain ⟨c0, c1⟩ := two_box hR1
  obtain ⟨-, -, -, hnil1, hnews1⟩ := rows_news twc_len (by omega) (H1.out.later HB.out)
  have Hnil1 := Lib.hid hnil1
  have Hnews1 := Lib.hid hnews1
  have hsz1 := HB.out.size
  clear hnil1 hnews1
  go_wp2
  refine wp_loop_rounds 3 ?_
  rw [rounds_succ]
  go_wp2_with (at_builtin; refine wpList_append_mine _ rfl (.tmp 31) (.tmp 32) 75 rfl w.heap.size 45 i0 _ 5 40 Tryz.underlying75 hi0 hz0 hz1 hz2 rfl (by decide) _ 0 [] rfl HO.out a1 n1 p1 (tvs l1) rfl (by rw [flat_len twc_len, HN.out.1]) Hnil1.out Hnews1.out (flat_one twc_one l1) (by unfold maxLen; omega) (by omega) (by omega) ?_; intro v2 w2 hown' hgrow hfr; obtain ⟨ga2, gc2, rfl⟩ := own_val hown'; have HO2 := Lib.hid hown'; have HG2 := Lib.hid hgrow; clear hown' hgrow hfr)
  simp only [Nat.zero_add, List.nil_append] at HO2
  have hb2 : Below w.heap.size w w2 := HB.out.grown HG2.out HB.out.size (fun r hr => (HO.out.lt r hr).1)
  have HB2 := Lib.hid hb2
  clear c0 c1 hb2 hsz1
  have hR2 := (HB2.out.block _ (lt_of_block HR.out)).trans HR.out
  obtain ⟨c0, c1⟩ := two_box hR2
  obtain ⟨-, -, -, hnil2, hnews2⟩ := rows_news twc_len (by omega) (H2.out.later HB2.out)
  have Hnil2 := Lib.hid hnil2
  have Hnews2 := Lib.hid hnews2
  have hsz2 := HB2.out.size
  clear hnil2 hnews2 hR1 hR2
  rw [rounds_succ]
  go_wp2_with (at_builtin; refine wpList_append_mine _ rfl (.tmp 31) (.tmp 32) 75 rfl w.heap.size 45 i0 _ 5 40 Tryz.underlying75 hi0 hz0 hz1 hz2 rfl (by decide) _ n1 (tvs l1) rfl HO2.out a2 n2 p2 (tvs l2) rfl (by rw [flat_len twc_len, HN.out.2]) Hnil2.out Hnews2.out (flat_one twc_one l2) (by unfold maxLen; omega) (by omega) (by omega) ?_; intro v3 w3 hown' hgrow hfr; obtain ⟨ga3, gc3, rfl⟩ := own_val hown'; have HO3 := Lib.hid hown'; have HG3 := Lib.hid hgrow; clear hown' hgrow hfr)
  rw [rounds_succ]
  go_wp2
  go_ret
  refine ⟨_, rfl, ?_, HB2.out.grown HG3.out HB2.out.size (fun r hr => (HO2.out.lt r hr).1)⟩
  unfold TwOwn
  rw [List.length_append, ← HN.out.1, ← HN.out.2, tvs, List.flatMap_append]
  exact HO3.out
end Go.Proofs.YtadkjjpopmiceaaGreat
