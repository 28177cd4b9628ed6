import Derived.Test.YtadkjjpopmiceaaGreatTtam
import Derived.Test.YtadkjjpopmiceaaGreatDbum
import Derived.Test.YtadkjjpopmiceaaGreatNotm
namespace Go.Proofs.YtadkjjpopmiceaaGreat
open Go.RowKit Go.Lib

theorem twat_nil (w : World) : TwAt w (.slice none 0 0) [] := TwOwn.tw (B := 0) (World.ownsRow_nil _ _ _ _)
theorem pow3_any (k : Nat) (hk : k < 4) (w : World) : Calls Tryz.prog 31 #[.int .i64 k] w fun e w' => ∃ p : Int, e = .returned (.int .i64 p) ∧ 1 ≤ p ∧ p ≤ 27 ∧ Below w.heap.size w w' := by
  have hk' : (k : Int) < 4 := by omega
  go_enter Tryz.func31, Tryz.ntmps31
  match k, hk with
  | 0, _ => go_wp2; go_ret; exact ⟨_, rfl, by omega, by omega, (one_new w _).1⟩
  | 1, _ => go_wp2; go_ret; exact ⟨_, rfl, by omega, by omega, (one_new w _).1⟩
  | 2, _ => go_wp2; go_ret; exact ⟨_, rfl, by omega, by omega, (one_new w _).1⟩
  | 3, _ => go_wp2; go_ret; exact ⟨_, rfl, by omega, by omega, (one_new w _).1⟩
theorem new_row {α : Type} {f : α → List Value} {C : Nat} (hf : ∀ x, (f x).length = C) {w : World} {g : Nat} {e : TypeId} {cur : Array Value} {l : List α} (hg : w.heap[g]? = some (.cells cur e (0, 0))) (hl : l.length ≤ 1000000) (hc : cur.toList = l.flatMap f) :
    RowsAt w C (.slice (some ⟨g, 0, none⟩) l.length l.length) (l.map f) := by
  have h1 : cur.size = l.length * C := by
    have := congrArg List.length hc
    rw [flat_len hf] at this
    simpa using this
  refine own_rows hf rfl (own_shut (base := 0) (by rw [flat_len hf]) (Nat.zero_le _) hg (Nat.le_refl _) (by unfold maxLen; omega) h1 ?_)
  rw [List.take_of_length_le (by simp [h1]), hc]
theorem ddc_len (d : Dd) : (ddc d).length = 7 := rfl
def smD (v : Value) (L : List Tw) (x : Int) (A : Nat) : List Dd := [⟨0, 0, 0, 0, 0, 0, v, L⟩, ⟨5, x, 1, 0, 0, 9, .slice none 0 0, []⟩, ⟨0, 0, 0, 0, 0, 0, .slice (some ⟨A, 0, none⟩) 1 1, [⟨0, 0, 9, 9, 0⟩]⟩, ⟨4, 1, 0, 0, 0, 0, .slice none 0 0, []⟩, ⟨3, 0, 0, 0, 0, 9, .slice none 0 0, []⟩]
theorem smD_at {u : World} {A B : Nat} {v : Value} {L : List Tw} {x : Int} {cur : Array Value} {t : TypeId} (hg : u.heap[B]? = some (.cells cur t (0, 0))) (hc : cur.toList = (smD v L x A).flatMap ddc) (h1 : TwAt u v L) (h2 : TwAt u (.slice (some ⟨A, 0, none⟩) 1 1) [⟨0, 0, 9, 9, 0⟩]) (hok : ∀ t ∈ L, twOk t) (hl : L.length ≤ 140737488355328) :
    DdsAt u (.slice (some ⟨B, 0, none⟩) 5 5) (smD v L x A) := by
  refine ⟨new_row (l := smD v L x A) ddc_len hg (by simp [smD]) hc, fun d hd => ?_⟩
  simp only [smD, List.mem_cons, List.not_mem_nil, or_false] at hd
  rcases hd with rfl | rfl | rfl | rfl | rfl
  · exact ⟨h1, hok, hl, by simp only []; omega⟩
  · exact ⟨twat_nil u, fun t ht => by simp at ht, by simp, by simp only []; omega⟩
  · exact ⟨h2, fun t ht => by
      rw [List.mem_singleton.1 ht]
      exact ⟨by simp only []; omega, by simp only []; omega⟩, by simp, by simp only []; omega⟩
  · exact ⟨twat_nil u, fun t ht => by simp at ht, by simp, by simp only []; omega⟩
  · exact ⟨twat_nil u, fun t ht => by simp at ht, by simp, by simp only []; omega⟩
def l8 : List Tw := [⟨-1, 0, 0, 0, 0⟩, ⟨0, -1, 0, 0, 0⟩, ⟨0, 99, 0, 0, 0⟩, ⟨0, 100, 0, 0, 0⟩, ⟨0, 0, 0, 0, 4611686018427387904⟩, ⟨0, 0, 0, 0, -9223372036854775808⟩, ⟨0, 0, -1, 0, 0⟩, ⟨0, 0, 9223372036854775807, 9223372036854775807, 0⟩]
theorem l8_ok : ∀ t ∈ l8, twOk t := by
  intro t ht
  simp only [l8, List.mem_cons, List.not_mem_nil, or_false] at ht
  rcases ht with rfl | rfl | rfl | rfl | rfl | rfl | rfl | rfl <;> exact ⟨by simp only []; omega, by simp only []; omega⟩
set_option maxRecDepth 100000 in
set_option maxHeartbeats 16000000 in
theorem treeSmall_main (HAp : ApartT) (w : World) : Calls Tryz.prog 4 #[] w fun e w' => e = .returned (.bool true) ∧ Below w.heap.size w w' := by
  have HT := Lib.hid (fun (v : Value) (l : List Tw) (n pl : Int) (u : World) (h : TwAt u v l) (hok : ∀ t ∈ l, twOk t) (hl : l.length ≤ 140737488355328) => treeTells_main HAp v l n pl u h hok hl)
  have HBu := Lib.hid (fun (room : Int) (v1 : Value) (L : List Dd) (u : World) (h1 : DdsAt u v1 L) (hL : L.length ≤ 140737488351232) (hrm : room ≤ 9223372036854775807) => treeBuilds_main room v1 L u h1 hL hrm)
  have HAw := Lib.hid (fun u => awake_any u)
  have HNo := Lib.hid (fun u => nobuilder_any u)
  clear HAp
  obtain ⟨i0, hi0, hz0, hz1, hz2⟩ := info_parts Tryz.infoTwig
  go_enter Tryz.func4, Tryz.ntmps4
  go_wp2
  go_loopw [1] (fun i wr => ∃ n : Nat, n ≤ 1296 ∧ i = .int .i64 n ∧ Hid (Below w.heap.size w wr)) (fun i _ => 1296 - (intOf i).toNat)
  case atStart => exact ⟨0, by omega, rfl, Lib.hid (Below.refl _ _)⟩
  case round =>
    obtain ⟨n, hn, rfl, HB⟩ := hrel
    by_cases hlt : n < 1296
    · have hlt' : (n : Int) < 1296 := by omega
      obtain ⟨m, hm, hm15⟩ : ∃ m : Nat, (n : Int).tdiv 81 = (m : Int) ∧ m ≤ 15 := ⟨n / 81, by rw [Int.tdiv_eq_ediv_of_nonneg (by omega)]; omega, by omega⟩
      go_wp2
      go_loopw [2, 4] (fun v i wr => ∃ (k : Nat) (L : List Tw), k ≤ 4 ∧ L.length = k ∧ i = .int .i64 k ∧ Hid (∀ t ∈ L, twOk t) ∧ Hid (wr.ownsRow w.heap.size 45 5 v k (tvs L)) ∧ Hid (Below w.heap.size w wr)) (fun _ i _ => 4 - (intOf i).toNat)
      case atStart => exact ⟨0, [], by omega, rfl, rfl, Lib.hid (by simp), Lib.hid (World.ownsRow_nil _ _ _ _), HB⟩
      case round =>
        clear HB
        obtain ⟨k, L, hk, hLk, rfl, HOk, HO, HB⟩ := hrel
        have HLk := Lib.hid hLk
        obtain ⟨va, vc, rfl⟩ := own_val HO.out
        clear hLk
        by_cases hk4 : k < 4
        · have hk4' : (k : Int) < 4 := by omega
          obtain ⟨x2, hx2, hx20, hx21⟩ : ∃ x : Int, (m : Int).tmod 2 = x ∧ 0 ≤ x ∧ x ≤ 1 := ⟨_, rfl, Int.tmod_nonneg _ (by omega), by have := Int.tmod_lt_of_pos (m : Int) (b := 2) (by omega); omega⟩
          obtain ⟨y1, hy1, hy10, hy13⟩ : ∃ y : Int, (k : Int) * x2 = y ∧ 0 ≤ y ∧ y ≤ 3 := by
            rcases (by omega : x2 = 0 ∨ x2 = 1) with rfl | rfl
            · exact ⟨0, by simp, by omega, by omega⟩
            · exact ⟨k, by simp, by omega, by omega⟩
          obtain ⟨d2, hd2, hd20, hd21⟩ : ∃ x : Int, (m : Int).tdiv 2 = x ∧ 0 ≤ x ∧ x ≤ 8 := ⟨_, rfl, by rw [Int.tdiv_eq_ediv_of_nonneg (by omega)]; omega, by rw [Int.tdiv_eq_ediv_of_nonneg (by omega)]; omega⟩
          obtain ⟨x3, hx3, hx30, hx31⟩ : ∃ x : Int, d2.tmod 2 = x ∧ 0 ≤ x ∧ x ≤ 1 := ⟨_, rfl, Int.tmod_nonneg _ (by omega), by have := Int.tmod_lt_of_pos d2 (b := 2) (by omega); omega⟩
          obtain ⟨y3, hy3, hy30, hy33⟩ : ∃ y : Int, (k : Int) * x3 = y ∧ 0 ≤ y ∧ y ≤ 3 := by
            rcases (by omega : x3 = 0 ∨ x3 = 1) with rfl | rfl
            · exact ⟨0, by simp, by omega, by omega⟩
            · exact ⟨k, by simp, by omega, by omega⟩
          obtain ⟨d4, hd4, hd40, hd41⟩ : ∃ x : Int, (m : Int).tdiv 4 = x ∧ 0 ≤ x ∧ x ≤ 8 := ⟨_, rfl, by rw [Int.tdiv_eq_ediv_of_nonneg (by omega)]; omega, by rw [Int.tdiv_eq_ediv_of_nonneg (by omega)]; omega⟩
          obtain ⟨x4, hx4, hx40, hx41⟩ : ∃ x : Int, (m : Int).tmod 4 = x ∧ 0 ≤ x ∧ x ≤ 3 := ⟨_, rfl, Int.tmod_nonneg _ (by omega), by have := Int.tmod_lt_of_pos (m : Int) (b := 4) (by omega); omega⟩
          obtain ⟨x5, hx5, hx50, hx51⟩ : ∃ x : Int, (m : Int).tmod 3 = x ∧ 0 ≤ x ∧ x ≤ 2 := ⟨_, rfl, Int.tmod_nonneg _ (by omega), by have := Int.tmod_lt_of_pos (m : Int) (b := 3) (by omega); omega⟩
          go_wp2_with fail
          obtain ⟨hb0, hg0⟩ := one_new wr (.cells #[.int .i64 2, .int .i64 1, .int .i64 0] 3 (0, 0))
          have HB0 := Lib.hid (HB.out.trans (hb0.mono HB.out.size))
          have HO0 := Lib.hid (row_later HO.out hb0)
          have HG0 := Lib.hid hg0
          refine (pow3_any k hk4 _).mono ?_
          rintro e w2 ⟨p, rfl, hp1, hp2, hb2⟩
          have HB2 := Lib.hid (HB0.out.trans (hb2.mono HB0.out.size))
          have HO2 := Lib.hid (row_later HO0.out hb2)
          have hg2 := (hb2.block _ (lt_of_block HG0.out)).trans HG0.out
          obtain ⟨q, hq, hq0, hq1⟩ : ∃ x : Int, (n : Int).tdiv p = x ∧ 0 ≤ x ∧ x ≤ 1296 := ⟨_, rfl, Int.tdiv_nonneg (by omega) (by omega), Int.le_trans (Int.tdiv_le_self _ (by omega)) (by omega)⟩
          obtain ⟨r, hr, hr2⟩ : ∃ r : Nat, q.tmod 3 = (r : Int) ∧ r < 3 := ⟨(q.tmod 3).toNat, by have := Int.tmod_nonneg (a := q) 3 (by omega); omega, by have := Int.tmod_lt_of_pos q (b := 3) (by omega); omega⟩
          have hr2' : (r : Int) < 3 := by omega
          obtain ⟨z, hz, hzz⟩ : ∃ z : Int, w2.cell? ⟨wr.heap.size, r, none⟩ = some (.int .i64 z) ∧ z ≤ 2 := by
            rw [(block_cell' hg2 r).1]
            match r, hr2 with
            | 0, _ => exact ⟨2, rfl, by omega⟩
            | 1, _ => exact ⟨1, rfl, by omega⟩
            | 2, _ => exact ⟨0, rfl, by omega⟩
          have hp0 : (p == 0) = false := by simp; omega
          have hp0' : decide (p = 0) = false := by simp; omega
          clear hb0 hg0 hb2 hg2
          go_wp2_with fail
          refine (twig_any y1 (9 - y3) z w2).mono ?_
          rintro e w3 ⟨rfl, hb3⟩
          have HB3 := Lib.hid (HB2.out.trans (hb3.mono HB2.out.size))
          have HO3 := Lib.hid (row_later HO2.out hb3)
          clear hb3 hz
          go_upto_region 10 with (fail)
          obtain ⟨hb4, hg4⟩ := one_new w3 (.cells #[.int .i64 0, .int .i64 0, .int .i64 y1, .int .i64 (9 - y3), .int .i64 z] 45 (0, 0))
          refine gen_world (S := fun u => Below w.heap.size w u ∧ u.ownsRow w.heap.size 45 5 (.slice va k vc) k (tvs L) ∧ u.heap[w3.heap.size]? = some (.cells #[.int .i64 0, .int .i64 0, .int .i64 y1, .int .i64 (9 - y3), .int .i64 z] 45 (0, 0)) ∧ ∀ b, va = some ⟨b, 0, none⟩ → b ≠ w3.heap.size) ⟨HB3.out.trans (hb4.mono HB3.out.size), row_later HO3.out hb4, hg4, fun b hb e => by
            subst hb
            have := (HO3.out.lt b rfl).2
            omega⟩ (fun u hu => ?_)
          obtain ⟨hbu, hou, hgu, hne⟩ := hu
          have HBq := Lib.hid hbu
          have HOq := Lib.hid hou
          have HGq := Lib.hid hgu
          have HNe := Lib.hid hne
          have HTb := Lib.hid (show w.heap.size ≤ w3.heap.size from HB3.out.size)
          generalize w3.heap.size = tb at HGq HNe HTb ⊢
          clear hb4 hg4 hbu hou hgu hne HB HO HB0 HO0 HG0 HB2 HO2 HB3 HO3
          go_upto_if 40 with (fail)
          go_cut [5] (fun y w1 => ∃ t : Tw, y = .pointer (some ⟨tb, 0, none⟩) ∧ twOk t ∧ Hid (Below w.heap.size w w1) ∧ Hid (w1.ownsRow w.heap.size 45 5 (.slice va k vc) k (tvs L)) ∧ Hid (w1.heap[tb]? = some (.cells (twc t).toArray 45 (0, 0))))
          case first =>
            by_cases h4 : d4 = (k : Int)
            · obtain ⟨c0, f0⟩ := block_cell' HGq.out 0
              obtain ⟨c1, f1⟩ := block_cell' HGq.out 1
              obtain ⟨c2, f2⟩ := block_cell' HGq.out 2
              obtain ⟨c3, f3⟩ := block_cell' HGq.out 3
              obtain ⟨c4, f4⟩ := block_cell' HGq.out 4
              have hks : Keeps (fun k => k = tb) u ((u.setCell ⟨tb, 0, none⟩ (.int .i64 x4)).setCell ⟨tb, 2, none⟩ (.int .i64 (y1 + x5))) := ((Keeps.refl (fun k => k = tb) u).setCell (p := ⟨tb, 0, none⟩) rfl _).setCell (p := ⟨tb, 2, none⟩) rfl _
              have HBn := Lib.hid (HBq.out.trans (hks.below HBq.out.size (fun k e => by subst e; exact HTb.out)))
              have HOn := Lib.hid (hks.row HOq.out (fun b hb e => HNe.out b (by
                rcases HOq.out.2 with ⟨h1, -⟩ | ⟨g, cap, cur, h1, -⟩
                · rw [h1] at hb
                  simp [Value.ownBlock] at hb
                · rw [h1] at hb
                  simp only [Value.ownBlock, Option.some.injEq] at hb
                  subst hb
                  simp only [Value.slice.injEq] at h1
                  exact h1.1) e))
              have HGn := Lib.hid (show ((u.setCell ⟨tb, 0, none⟩ (.int .i64 x4)).setCell ⟨tb, 2, none⟩ (.int .i64 (y1 + x5))).heap[tb]? = some (.cells (twc (⟨x4, 0, y1 + x5, 9 - y3, z⟩ : Tw)).toArray 45 (0, 0)) from block_setCell' (k := 2) (block_setCell' (k := 0) HGq.out))
              clear hks
              go_wp2
              go_meet
              exact ⟨⟨x4, 0, y1 + x5, 9 - y3, z⟩, rfl, ⟨by simp only []; omega, by simp only []; omega⟩, HBn, HOn, HGn⟩
            · go_wp2
              go_meet
              exact ⟨⟨0, 0, y1, 9 - y3, z⟩, rfl, ⟨by simp only []; omega, by simp only []; omega⟩, HBq, HOq, HGq⟩
          case rest =>
            obtain ⟨t, rfl, htk, HB5, HO5, HG5⟩ := hcut
            obtain ⟨ru, lv, fr, tz, kk⟩ := t
            have c0 : wc.cell? ⟨tb, 0, none⟩ = some (.int .i64 ru) := (block_cell' HG5.out 0).1
            have c1 : wc.cell? ⟨tb, 1, none⟩ = some (.int .i64 lv) := (block_cell' HG5.out 1).1
            have c2 : wc.cell? ⟨tb, 2, none⟩ = some (.int .i64 fr) := (block_cell' HG5.out 2).1
            have c3 : wc.cell? ⟨tb, 3, none⟩ = some (.int .i64 tz) := (block_cell' HG5.out 3).1
            have c4 : wc.cell? ⟨tb, 4, none⟩ = some (.int .i64 kk) := (block_cell' HG5.out 4).1
            go_wp2_with (at_builtin; refine wpList_append_own _ rfl (.tmp 52) (.tmp 54) 22 rfl w.heap.size 45 i0 _ 5 40 Tryz.underlying22 hi0 hz0 hz1 hz2 rfl (by decide) _ k _ rfl (HO5.out.alloc _) ⟨wc.heap.size, 0, none⟩ 1 1 [.int .i64 ru, .int .i64 lv, .int .i64 fr, .int .i64 tz, .int .i64 kk] rfl rfl (World.news_of_block (cs := #[.int .i64 ru, .int .i64 lv, .int .i64 fr, .int .i64 tz, .int .i64 kk]) (t := 45) (fr := (0, 0)) (heap_alloc_new wc _)) (by simp [Value.oneCell']) (by unfold maxLen; omega) (by omega) (by have := HB5.out.size; simp; omega) ?_; intro v' w1 hown' hgrow _)
            have HB6 := Lib.hid ((HB5.out.alloc HB5.out.size _).grown hgrow (by have := HB5.out.size; simp; omega) (fun r hr => (HO5.out.lt r hr).1))
            have HO6 := Lib.hid (show w1.ownsRow w.heap.size 45 5 v' (k + 1) (tvs (L ++ [(⟨ru, lv, fr, tz, kk⟩ : Tw)])) from by
              unfold tvs
              rw [List.flatMap_append]
              simpa [twc] using hown')
            have HOk6 := Lib.hid (show ∀ t ∈ L ++ [(⟨ru, lv, fr, tz, kk⟩ : Tw)], twOk t from fun t ht => by
              rcases List.mem_append.1 ht with h | h
              · exact HOk.out t h
              · rw [List.mem_singleton.1 h]
                exact htk)
            clear c0 c1 c2 c3 c4 hown' hgrow HB5 HO5 HG5
            go_wp2
            go_roundw
            case rel => exact ⟨k + 1, _, by omega, by simp [HLk.out], by go_num, HOk6, HO6, HB6⟩
            case measure => simp [intOf]; omega
        · have hk4' : ¬ (k : Int) < 4 := by omega
          have HTw := Lib.hid (show TwAt wr (.slice va k vc) L from TwOwn.tw (B := w.heap.size) (by unfold TwOwn; rw [HLk.out]; exact HO.out))
          obtain ⟨x1, hx1, hx10, hx11⟩ : ∃ x : Int, (n : Int).tmod 11 = x ∧ 0 ≤ x ∧ x ≤ 10 := ⟨_, rfl, Int.tmod_nonneg _ (by omega), by have := Int.tmod_lt_of_pos (n : Int) (b := 11) (by omega); omega⟩
          obtain ⟨x2, hx2, hx20, hx21⟩ : ∃ x : Int, (n : Int).tmod 5 = x ∧ 0 ≤ x ∧ x ≤ 4 := ⟨_, rfl, Int.tmod_nonneg _ (by omega), by have := Int.tmod_lt_of_pos (n : Int) (b := 5) (by omega); omega⟩
          obtain ⟨x3, hx3, hx30, hx31⟩ : ∃ x : Int, (n : Int).tmod 3 = x ∧ 0 ≤ x ∧ x ≤ 2 := ⟨_, rfl, Int.tmod_nonneg _ (by omega), by have := Int.tmod_lt_of_pos (n : Int) (b := 3) (by omega); omega⟩
          go_wp2_with fail
          refine (HT.out _ L _ _ _ HTw.out HOk.out (by rw [HLk.out]; omega)).mono ?_
          rintro e w5 ⟨rfl, hb⟩
          have HB5 := Lib.hid (HB.out.trans (hb.mono HB.out.size))
          have HT5 := Lib.hid (HTw.out.later hb)
          clear hb
          go_wp2_with fail
          refine (twig_any 9 9 0 w5).mono ?_
          rintro e w6 ⟨rfl, hb⟩
          have HB6 := Lib.hid (HB5.out.trans (hb.mono HB5.out.size))
          have HT6 := Lib.hid (HT5.out.later hb)
          clear hb
          go_wp2_with fail
          obtain ⟨hb7, hg7⟩ := one_new w6 (.cells #[.int .i64 0, .int .i64 0, .int .i64 9, .int .i64 9, .int .i64 0] 45 (0, 0))
          have hT7 := new_row (l := [(⟨0, 0, 9, 9, 0⟩ : Tw)]) twc_len hg7 (by simp) rfl
          obtain ⟨hb8, hg8⟩ := one_new (w6.alloc (.cells #[.int .i64 0, .int .i64 0, .int .i64 9, .int .i64 9, .int .i64 0] 45 (0, 0))) (.cells ((smD (.slice va k vc) L x3 w6.heap.size).flatMap ddc).toArray 50 (0, 0))
          have e1 : (w6.alloc (.cells #[.int .i64 0, .int .i64 0, .int .i64 9, .int .i64 9, .int .i64 0] 45 (0, 0))).heap.size = w6.heap.size + 1 := by simp
          have hba := hb7.trans (hb8.mono (by omega))
          have hT8 : TwAt _ _ _ := TwAt.later hT7 hb8
          have hT8' := HT6.out.later hba
          rw [e1] at hg8
          refine (HBu.out x2 _ (smD (.slice va k vc) L x3 w6.heap.size) _ (smD_at hg8 rfl hT8' hT8 HOk.out (by rw [HLk.out]; omega)) (by simp [smD]) (by omega)).mono ?_
          rintro e w9 ⟨rfl, hb9⟩
          have HB9 := Lib.hid (HB6.out.trans ((hba.trans (hb9.mono (by simp; omega))).mono HB6.out.size))
          clear hb7 hg7 hT7 hb8 hg8 e1 hba hT8 hT8' hb9
          go_wp2
          go_roundw
          case rel => exact ⟨n + 1, by omega, by go_num, HB9⟩
          case measure => simp [intOf]; omega
    · have hlt' : ¬ (n : Int) < 1296 := by omega
      go_upto_region 17 with (fail)
      obtain ⟨hb1, hg1⟩ := one_new wr (.cells (l8.flatMap twc).toArray 45 (0, 0))
      refine gen_world (S := fun u => Below w.heap.size w u ∧ u.heap[wr.heap.size]? = some (.cells (l8.flatMap twc).toArray 45 (0, 0))) ⟨HB.out.trans (hb1.mono HB.out.size), hg1⟩ (fun u hu => ?_)
      obtain ⟨hbu, hgu⟩ := hu
      have HBv := Lib.hid hbu
      have HGv := Lib.hid hgu
      generalize wr.heap.size = g8 at HGv ⊢
      clear hb1 hg1 hbu hgu HB
      go_wp2
      go_loopw [7] (fun i wr => ∃ k : Nat, k ≤ 8 ∧ i = .int .i64 k ∧ Hid (Below w.heap.size w wr) ∧ Hid (wr.heap[g8]? = some (.cells (l8.flatMap twc).toArray 45 (0, 0)))) (fun i _ => 8 - (intOf i).toNat)
      case atStart => exact ⟨0, by omega, rfl, HBv, HGv⟩
      case round =>
        clear HBv HGv
        obtain ⟨k, hk, rfl, HB, HG⟩ := hrel
        by_cases hk8 : k < 8
        · have hk8' : (k : Int) < 8 := by omega
          have hkk : k < l8.length := by simp [l8]; exact hk8
          have hrow : TwAt wr (.slice (some ⟨g8, 0, none⟩) 8 8) l8 := new_row (l := l8) twc_len HG.out (by simp [l8]) rfl
          go_upto_region 20 with (fail)
          have HC := Lib.hid (hrow.cells.2.2.2.2 k hkk)
          obtain ⟨⟨ru, lv, fr, tz, kk⟩, htw⟩ : ∃ t, t = l8[k] := ⟨_, rfl⟩
          have HTw := Lib.hid htw
          have hcs := HC.out
          rw [← htw] at hcs
          obtain ⟨b', off', he, hb', E0, E1, E2, E3, E4⟩ := hcs
          simp only [Option.some.injEq, Addr.mk.injEq, and_true] at he
          obtain ⟨rfl, rfl⟩ := he
          simp only [Nat.zero_add] at E0 E1 E2 E3 E4
          have HP := Lib.hid (hrow.part (i := k) (j := k + 1) (c := 8 - k) (by omega) (by omega) ⟨by omega, by unfold maxLen; omega⟩)
          have g1 : (k : Int) ≤ k + 1 := by omega
          have g2 : (k : Int) + 1 ≤ 8 := by omega
          have g4 : ¬ 8 = k := by omega
          have g5 : (0 : Int) ≤ (k : Int) + 1 := by omega
          have hw1 : IntKind.i64.wrap ((k : Int) + 1) = (k : Int) + 1 := IntWalk.i64_in _ (by omega)
          have htn : ((k : Int) + 1).toNat = k + 1 := by omega
          have HOk := Lib.hid (show ∀ t ∈ [(⟨ru, lv, fr, tz, kk⟩ : Tw)], twOk t from fun t ht => by
            rw [List.mem_singleton.1 ht, HTw.out]
            exact l8_ok _ (List.getElem_mem _))
          have HP1 := Lib.hid (show TwAt wr (.slice (some ⟨g8, k * 5, none⟩) 1 (8 - k)) [(⟨ru, lv, fr, tz, kk⟩ : Tw)] from by
            have h := HP.out
            have e : (l8.drop k).take (k + 1 - k) = [(⟨ru, lv, fr, tz, kk⟩ : Tw)] := by
              rw [show k + 1 - k = 1 from by omega, List.drop_eq_getElem_cons hkk, HTw.out]
              rfl
            rw [e, show k + 1 - k = 1 from by omega, Nat.zero_add] at h
            exact h)
          have HT1 := Lib.hid (fun (u : World) (hu : Below wr.heap.size wr u) => (HT.out (.slice (some ⟨g8, k * 5, none⟩) 1 (8 - k)) _ 0 9223372036854775806 u (HP1.out.later hu) HOk.out (by simp)).mono (R' := fun e w' => e = .returned (.bool true) ∧ Below wr.heap.size wr w') fun e w' hh => ⟨hh.1, hu.trans (hh.2.mono hu.size)⟩)
          have HTg := Lib.hid (fun (u : World) (hu : Below wr.heap.size wr u) => (twig_any 0 0 0 u).mono (R' := fun e w' => e = .returned (.agg #[.int .i64 0, .int .i64 0, .int .i64 0, .int .i64 0, .int .i64 0]) ∧ Below wr.heap.size wr w') fun e w' hh => ⟨hh.1, hu.trans (hh.2.mono hu.size)⟩)
          have HOk2 := Lib.hid (show ∀ t ∈ [(⟨0, 0, 0, 0, 0⟩ : Tw), ⟨ru, lv, fr, tz, kk⟩], twOk t from fun t ht => by
            rcases List.mem_cons.1 ht with rfl | ht
            · exact ⟨by simp only []; omega, by simp only []; omega⟩
            · exact HOk.out t ht)
          clear hrow htw hb' HP HC
          refine wp_region_held_drew (S := fun u => Below wr.heap.size wr u) (by kernel_rfl) ((Below.refl wr.heap.size wr).drew) (fun hS => ?_)
          refine wpAnyH_take (i := 0) (oi := ⟨_, _, _, _, _, _⟩) (v := ?v1) rfl (by kernel_rfl) (by kernel_rfl) (by kernel_rfl) (fun _ _ _ h => h) ?y1 hS ?_
          case y1 => first | (refine Or.inr ⟨by rfl, ?_⟩; with_reducible rfl) | (refine Or.inl ⟨by rfl, ?_⟩; intro wS hSw; have z0 := cell_later hSw E0; have z1 := cell_later hSw E1; have z2 := cell_later hSw E2; have z3 := cell_later hSw E3; have z4 := cell_later hSw E4; go_simp; try with_reducible rfl)
          simp only [Act.put, List.setIfInBounds_toArray, List.set_cons_zero, List.set_cons_succ]
          refine wpAnyH_take (i := 1) (oi := ⟨_, _, _, _, _, _⟩) (v := ?v2) rfl (by kernel_rfl) (by kernel_rfl) (by kernel_rfl) (fun _ _ _ h => h) ?y2 hS ?_
          case y2 => first | (refine Or.inr ⟨by rfl, ?_⟩; with_reducible rfl) | (refine Or.inl ⟨by rfl, ?_⟩; intro wS hSw; have z0 := cell_later hSw E0; have z1 := cell_later hSw E1; have z2 := cell_later hSw E2; have z3 := cell_later hSw E3; have z4 := cell_later hSw E4; go_simp; try with_reducible rfl)
          simp only [Act.put, List.setIfInBounds_toArray, List.set_cons_zero, List.set_cons_succ]
          refine wpAnyH_take (i := 2) (oi := ⟨_, _, _, _, _, _⟩) (v := ?v3) rfl (by kernel_rfl) (by kernel_rfl) (by kernel_rfl) (fun _ _ _ h => h) ?y3 hS ?_
          case y3 => first | (refine Or.inr ⟨by rfl, ?_⟩; with_reducible rfl) | (refine Or.inl ⟨by rfl, ?_⟩; intro wS hSw; have z0 := cell_later hSw E0; have z1 := cell_later hSw E1; have z2 := cell_later hSw E2; have z3 := cell_later hSw E3; have z4 := cell_later hSw E4; go_simp; try with_reducible rfl)
          simp only [Act.put, List.setIfInBounds_toArray, List.set_cons_zero, List.set_cons_succ]
          refine wpAnyH_take (i := 3) (oi := ⟨_, _, _, _, _, _⟩) (v := ?v4) rfl (by kernel_rfl) (by kernel_rfl) (by kernel_rfl) (fun _ _ _ h => h) ?y4 hS ?_
          case y4 => first | (refine Or.inr ⟨by rfl, ?_⟩; with_reducible rfl) | (refine Or.inl ⟨by rfl, ?_⟩; intro wS hSw; have z0 := cell_later hSw E0; have z1 := cell_later hSw E1; have z2 := cell_later hSw E2; have z3 := cell_later hSw E3; have z4 := cell_later hSw E4; go_simp; try with_reducible rfl)
          simp only [Act.put, List.setIfInBounds_toArray, List.set_cons_zero, List.set_cons_succ]
          refine wpAnyH_take (i := 4) (oi := ⟨_, _, _, _, _, _⟩) (v := ?v5) rfl (by kernel_rfl) (by kernel_rfl) (by kernel_rfl) (fun _ _ _ h => h) ?y5 hS ?_
          case y5 => first | (refine Or.inr ⟨by rfl, ?_⟩; with_reducible rfl) | (refine Or.inl ⟨by rfl, ?_⟩; intro wS hSw; have z0 := cell_later hSw E0; have z1 := cell_later hSw E1; have z2 := cell_later hSw E2; have z3 := cell_later hSw E3; have z4 := cell_later hSw E4; go_simp; try with_reducible rfl)
          simp only [Act.put, List.setIfInBounds_toArray, List.set_cons_zero, List.set_cons_succ]
          refine wpAnyH_ready (rs := [5]) (by kernel_rfl) (by simp) ?_
          refine AllReadyH.cons (o := ⟨_, _, _, _, _, _⟩) rfl (fun K hK => ?_) AllReadyH.nil
          go_simp
          refine (HT1.out _ hS).mono ?_
          rintro e wx ⟨rfl, hS⟩
          go_wp2_with fail
          refine hK.out _ _ hS (fun _ => ?_)
          clear hK K
          try simp only [Act.put, List.setIfInBounds_toArray, List.set_cons_zero, List.set_cons_succ]
          refine wpAnyH_take (i := 6) (oi := ⟨_, _, _, _, _, _⟩) (v := ?v6) rfl (by kernel_rfl) (by kernel_rfl) (by kernel_rfl) (fun _ _ _ h => h) ?y6 hS ?_
          case y6 => first | (refine Or.inr ⟨by rfl, ?_⟩; with_reducible rfl) | (refine Or.inl ⟨by rfl, ?_⟩; intro wS hSw; have z0 := cell_later hSw E0; have z1 := cell_later hSw E1; have z2 := cell_later hSw E2; have z3 := cell_later hSw E3; have z4 := cell_later hSw E4; go_simp; try with_reducible rfl)
          simp only [Act.put, List.setIfInBounds_toArray, List.set_cons_zero, List.set_cons_succ]
          refine wpAnyH_take (i := 7) (oi := ⟨_, _, _, _, _, _⟩) (v := ?v7) rfl (by kernel_rfl) (by kernel_rfl) (by kernel_rfl) (fun _ _ _ h => h) ?y7 hS ?_
          case y7 => first | (refine Or.inr ⟨by rfl, ?_⟩; with_reducible rfl) | (refine Or.inl ⟨by rfl, ?_⟩; intro wS hSw; have z0 := cell_later hSw E0; have z1 := cell_later hSw E1; have z2 := cell_later hSw E2; have z3 := cell_later hSw E3; have z4 := cell_later hSw E4; go_simp; try with_reducible rfl)
          simp only [Act.put, List.setIfInBounds_toArray, List.set_cons_zero, List.set_cons_succ]
          refine wpAnyH_take (i := 9) (oi := ⟨_, _, _, _, _, _⟩) (v := ?v8) rfl (by kernel_rfl) (by kernel_rfl) (by kernel_rfl) (fun _ _ _ h => h) ?y8 hS ?_
          case y8 => first | (refine Or.inr ⟨by rfl, ?_⟩; with_reducible rfl) | (refine Or.inl ⟨by rfl, ?_⟩; intro wS hSw; have z0 := cell_later hSw E0; have z1 := cell_later hSw E1; have z2 := cell_later hSw E2; have z3 := cell_later hSw E3; have z4 := cell_later hSw E4; go_simp; try with_reducible rfl)
          simp only [Act.put, List.setIfInBounds_toArray, List.set_cons_zero, List.set_cons_succ]
          refine wpAnyH_take (i := 10) (oi := ⟨_, _, _, _, _, _⟩) (v := ?v9) rfl (by kernel_rfl) (by kernel_rfl) (by kernel_rfl) (fun _ _ _ h => h) ?y9 hS ?_
          case y9 => first | (refine Or.inr ⟨by rfl, ?_⟩; with_reducible rfl) | (refine Or.inl ⟨by rfl, ?_⟩; intro wS hSw; have z0 := cell_later hSw E0; have z1 := cell_later hSw E1; have z2 := cell_later hSw E2; have z3 := cell_later hSw E3; have z4 := cell_later hSw E4; go_simp; try with_reducible rfl)
          simp only [Act.put, List.setIfInBounds_toArray, List.set_cons_zero, List.set_cons_succ]
          refine wpAnyH_take (i := 11) (oi := ⟨_, _, _, _, _, _⟩) (v := ?v10) rfl (by kernel_rfl) (by kernel_rfl) (by kernel_rfl) (fun _ _ _ h => h) ?y10 hS ?_
          case y10 => first | (refine Or.inr ⟨by rfl, ?_⟩; with_reducible rfl) | (refine Or.inl ⟨by rfl, ?_⟩; intro wS hSw; have z0 := cell_later hSw E0; have z1 := cell_later hSw E1; have z2 := cell_later hSw E2; have z3 := cell_later hSw E3; have z4 := cell_later hSw E4; go_simp; try with_reducible rfl)
          simp only [Act.put, List.setIfInBounds_toArray, List.set_cons_zero, List.set_cons_succ]
          refine wpAnyH_take (i := 12) (oi := ⟨_, _, _, _, _, _⟩) (v := ?v11) rfl (by kernel_rfl) (by kernel_rfl) (by kernel_rfl) (fun _ _ _ h => h) ?y11 hS ?_
          case y11 => first | (refine Or.inr ⟨by rfl, ?_⟩; with_reducible rfl) | (refine Or.inl ⟨by rfl, ?_⟩; intro wS hSw; have z0 := cell_later hSw E0; have z1 := cell_later hSw E1; have z2 := cell_later hSw E2; have z3 := cell_later hSw E3; have z4 := cell_later hSw E4; go_simp; try with_reducible rfl)
          simp only [Act.put, List.setIfInBounds_toArray, List.set_cons_zero, List.set_cons_succ]
          refine wpAnyH_ready (rs := [8]) (by kernel_rfl) (by simp) ?_
          refine AllReadyH.cons (o := ⟨_, _, _, _, _, _⟩) rfl (fun K hK => ?_) AllReadyH.nil
          go_simp
          refine (HTg.out _ hS).mono ?_
          rintro e wx ⟨rfl, hS⟩
          go_wp2_with fail
          refine hK.out _ _ hS (fun _ => ?_)
          clear hK K
          try simp only [Act.put, List.setIfInBounds_toArray, List.set_cons_zero, List.set_cons_succ]
          refine wpAnyH_ready (rs := [13]) (by kernel_rfl) (by simp) ?_
          refine AllReadyH.cons (o := ⟨_, _, _, _, _, _⟩) rfl (fun K hK => ?_) AllReadyH.nil
          go_simp
          refine hK.out _ _ (hS.alloc hS.size _) (fun _ => ?_)
          clear hK K
          try simp only [Act.put, List.setIfInBounds_toArray, List.set_cons_zero, List.set_cons_succ]
          have hSa := hS.alloc hS.size (.cells #[.int .i64 0, .int .i64 0, .int .i64 0, .int .i64 0, .int .i64 0, .int .i64 ru, .int .i64 lv, .int .i64 fr, .int .i64 tz, .int .i64 kk] 45 (0, 0))
          have hQ : TwAt _ _ _ := new_row (l := [(⟨0, 0, 0, 0, 0⟩ : Tw), ⟨ru, lv, fr, tz, kk⟩]) twc_len (one_new wx (.cells #[.int .i64 0, .int .i64 0, .int .i64 0, .int .i64 0, .int .i64 0, .int .i64 ru, .int .i64 lv, .int .i64 fr, .int .i64 tz, .int .i64 kk] 45 (0, 0))).2 (by simp) rfl
          refine wpAnyH_ready (rs := [14]) (by kernel_rfl) (by simp) ?_
          refine AllReadyH.cons (o := ⟨_, _, _, _, _, _⟩) rfl (fun K hK => ?_) AllReadyH.nil
          go_simp
          refine (HT.out _ _ _ _ _ hQ HOk2.out (by simp)).mono ?_
          rintro e wy ⟨rfl, hby⟩
          have hSy : Below wr.heap.size wr wy := hSa.trans (hby.mono hSa.size)
          go_wp2_with fail
          refine hK.out _ _ (hSy) (fun _ => ?_)
          clear hK K
          try simp only [Act.put, List.setIfInBounds_toArray, List.set_cons_zero, List.set_cons_succ]
          refine wpAnyH_take (i := 15) (oi := ⟨_, _, _, _, _, _⟩) (v := ?v12) rfl (by kernel_rfl) (by kernel_rfl) (by kernel_rfl) (fun _ _ _ h => h) ?y12 hSy ?_
          case y12 => first | (refine Or.inr ⟨by rfl, ?_⟩; with_reducible rfl) | (refine Or.inl ⟨by rfl, ?_⟩; intro wS hSw; go_simp; try with_reducible rfl)
          simp only [Act.put, List.setIfInBounds_toArray, List.set_cons_zero, List.set_cons_succ]
          refine wpAnyH_take (i := 16) (oi := ⟨_, _, _, _, _, _⟩) (v := ?v13) rfl (by kernel_rfl) (by kernel_rfl) (by kernel_rfl) (fun _ _ _ h => h) ?y13 hSy ?_
          case y13 => first | (refine Or.inr ⟨by rfl, ?_⟩; with_reducible rfl) | (refine Or.inl ⟨by rfl, ?_⟩; intro wS hSw; go_simp; try with_reducible rfl)
          simp only [Act.put, List.setIfInBounds_toArray, List.set_cons_zero, List.set_cons_succ]
          refine wpAnyH_done (by kernel_rfl) ?_ _
          have HB2 := Lib.hid (HB.out.trans (hSy.mono HB.out.size))
          have HG2 := Lib.hid ((hSy.block _ (lt_of_block HG.out)).trans HG.out)
          clear hS hSa hSy hby hQ E0 E1 E2 E3 E4 HT1 HTg HP1
          go_wp2
          go_roundw
          case rel => exact ⟨k + 1, by omega, by go_num, HB2, HG2⟩
          case measure => simp [intOf]; omega
        · have hk8' : ¬ (k : Int) < 8 := by omega
          go_wp2_with fail
          refine (HNo.out _).mono ?_
          rintro e w2 ⟨rfl, hb⟩
          have HB2 := Lib.hid (HB.out.trans (hb.mono HB.out.size))
          clear hb
          go_wp2_with fail
          refine (HAw.out _).mono ?_
          rintro e w3 ⟨rfl, hb⟩
          have HB3 := Lib.hid (HB2.out.trans (hb.mono HB2.out.size))
          clear hb
          go_wp2
          go_ret
          exact ⟨rfl, HB3.out⟩
end Go.Proofs.YtadkjjpopmiceaaGreat
