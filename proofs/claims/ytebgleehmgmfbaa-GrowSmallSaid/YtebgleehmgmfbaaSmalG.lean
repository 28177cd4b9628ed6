/-
  Chapter 26: the walk of GrowSmall.
-/
import Derived.Test.YtebgleehmgmfbaaDoeW
import Derived.Test.YtebgleehmgmfbaaNon6
namespace Go.Proofs.Ytebgleehmgmfbaa
open Go.RowKit Go.Lib

theorem Try.infoAnswer : (Try.prog.info? 53).map (fun i => (i.zero, i.size, i.bytes)) = some (some (.agg #[.bool false, .int .i64 0, .int .i64 0, .slice none 0 0, .int .i64 0]), 5, 56) := by kernel_rfl
/-- a row of answers that grows. -/
structure RowL (base : Nat) (w : World) (v : Value) (l : List An) : Prop where
  row : w.ownsRow base 53 5 v l.length (l.flatMap anc)
  tr : ∀ a ∈ l, TwIn w a.v a.tree ∧ a.tree.length ≤ 1
theorem RowL.keepT {base B : Nat} {T : List TypeId} {mp : Bool} {w w' : World} {v : Value} {l : List An} (h : RowL base w v l) (hk : @KeepT noWatch B T mp w w') (h1 : 53 ∉ T) (h2 : 60 ∉ T) : RowL base w' v l :=
  ⟨row_keepT h.row hk h1, fun a ha => ⟨(h.tr a ha).1.keepT hk h2, (h.tr a ha).2⟩⟩
theorem RowL.later {base : Nat} {w w' : World} {v : Value} {l : List An} (h : RowL base w v l) (hb : Below w.heap.size w w') : RowL base w' v l := h.keepT (T := []) (B := 0) (mp := false) (KeepT.ofBelow hb) (by simp) (by simp)
theorem RowL.ans {base : Nat} {w : World} {v : Value} {l : List An} (h : RowL base w v l) : AnsAt w v l := ⟨own_rows anc_len rfl h.row, fun a ha => (h.tr a ha).1.1⟩
theorem RowL.len {base : Nat} {w : World} {v : Value} {l : List An} (h : RowL base w v l) (k : Nat) : (atA l k).tree.length ≤ 1 := by
  by_cases hk : k < l.length
  · rw [atA_lt hk]; exact (h.tr _ (List.getElem_mem hk)).2
  · rw [atA_ge hk]; simp [An.none]
theorem RowL.nil (base : Nat) (w : World) : RowL base w (.slice none 0 0) [] := ⟨⟨by simp, .inl ⟨rfl, rfl⟩⟩, fun a ha => by simp at ha⟩
theorem anc_one (a : An) {ao : Option Addr} {n cap : Nat} (hv : a.v = .slice ao n cap) : ∀ u ∈ anc a, u.oneCell' = true := by
  intro u hu
  simp [anc, hv] at hu
  rcases hu with rfl | rfl | rfl | rfl | rfl <;> rfl

theorem prs_two {w : World} {g : Nat} {p q : Pr} (hb : w.heap[g]? = some (.cells #[.int .i64 p.1, .int .i64 p.2, .int .i64 q.1, .int .i64 q.2] 24 (0, 0))) : PrsAt w (.slice (some ⟨g, 0, none⟩) 2 2) [p, q] := by
  have hr : w.ownsRow 0 24 2 (.slice (some ⟨g, 0, none⟩) 2 2) 2 ([p, q].flatMap prc) := ⟨rfl, .inr ⟨g, 2, _, rfl, Nat.zero_le _, hb, Nat.le_refl _, by unfold maxLen; omega, rfl, rfl⟩⟩
  exact own_rows prc_len rfl hr
theorem prs_one {w : World} {g : Nat} {p : Pr} (hb : w.heap[g]? = some (.cells #[.int .i64 p.1, .int .i64 p.2] 24 (0, 0))) : PrsAt w (.slice (some ⟨g, 0, none⟩) 1 1) [p] := by
  have hr : w.ownsRow 0 24 2 (.slice (some ⟨g, 0, none⟩) 1 1) 1 ([p].flatMap prc) := ⟨rfl, .inr ⟨g, 1, _, rfl, Nat.zero_le _, hb, Nat.le_refl _, by unfold maxLen; omega, rfl, rfl⟩⟩
  exact own_rows prc_len rfl hr
theorem prs_nil (w : World) : PrsAt w (.slice none 0 0) [] := ⟨none, 0, 0, 0, rfl, Nat.le_refl _, by unfold maxLen; omega, fun _ => ⟨rfl, rfl⟩, fun h => by simp at h, fun e he => by simp at he, fun i hi => by simp at hi⟩
/-- the ends. -/
def endA (i : Nat) : Int := if i = 0 then -9223372036854775808 else if i = 1 then -1 else if i = 2 then 0 else 9223372036854775807
theorem endA_wf (i : Nat) : (Lit.int .i64 (endA i)).wf = true := by unfold endA; split; · rfl
                                                                    split; · rfl
                                                                    split <;> rfl
theorem ends_cell {w : World} {E : Nat} {t : TypeId} (h : w.heap[E]? = some (.cells #[.int .i64 (-9223372036854775808), .int .i64 (-1), .int .i64 0, .int .i64 9223372036854775807] t (0, 0))) (i : Nat) (hi : i < 4) : w.cell? ⟨E, i, none⟩ = some (.int .i64 (endA i)) := by
  have : i = 0 ∨ i = 1 ∨ i = 2 ∨ i = 3 := by omega
  rcases this with rfl | rfl | rfl | rfl <;> simp [World.cell?, h, endA]
theorem row_cell2 {w : World} {base g i cp : Nat} {e : TypeId} {xs : List Value} {x0 x1 x2 x3 x4 : Value} (h : w.ownsRow base e 5 (.slice (some ⟨g, 0, none⟩) (i + 1) cp) (i + 1) (xs ++ [x0, x1, x2, x3, x4])) (hx : xs.length = i * 5) : ∃ cur, w.heap[g]? = some (.cells cur e (0, 0)) ∧ cur[i * 5 + 2]? = some x2 := by
  obtain ⟨g', cap', cur, hv, -, hg, -, -, -, ht⟩ := h.2.resolve_left (fun h => by simp at h)
  simp only [Value.slice.injEq, Option.some.injEq, Addr.mk.injEq] at hv
  obtain ⟨⟨rfl, -⟩, -⟩ := hv
  refine ⟨cur, hg, ?_⟩
  have h1 : (cur.toList.take ((i + 1) * 5))[i * 5 + 2]? = some x2 := by
    rw [ht, List.getElem?_append_right (by omega), hx, Nat.add_sub_cancel_left]
    rfl
  rw [List.getElem?_take_of_lt (by omega)] at h1
  simpa using h1
theorem row_set2 {w : World} {base g i cp : Nat} {e : TypeId} {xs : List Value} {x0 x1 x2 x3 x4 u : Value} (h : w.ownsRow base e 5 (.slice (some ⟨g, 0, none⟩) (i + 1) cp) (i + 1) (xs ++ [x0, x1, x2, x3, x4])) (hx : xs.length = i * 5) :
    (w.setCell ⟨g, i * 5 + 2, none⟩ u).ownsRow base e 5 (.slice (some ⟨g, 0, none⟩) (i + 1) cp) (i + 1) (xs ++ [x0, x1, u, x3, x4]) := by
  obtain ⟨g', cap', cur, hv, hb, hg, h1, h2, h3, ht⟩ := h.2.resolve_left (fun h => by simp at h)
  simp only [Value.slice.injEq, Option.some.injEq, Addr.mk.injEq] at hv
  obtain ⟨⟨rfl, -⟩, -, rfl⟩ := hv
  refine ⟨by have := h.1; simpa using this, .inr ⟨g, cp, cur.setIfInBounds (i * 5 + 2) u, rfl, hb, block_setCell' hg, h1, h2, by simpa using h3, ?_⟩⟩
  rw [Array.toList_setIfInBounds, List.take_set, ht, List.set_append_right _ _ (by omega), hx, Nat.add_sub_cancel_left]
  rfl
theorem tw_block {w : World} {g : Nat} {k : Int} (hb : w.heap[g]? = some (.cells #[.int .i64 k, .int .i64 0, .int .i64 0, .int .i64 0, .int .i64 0] 60 (0, 0))) : TwIn w (.slice (some ⟨g, 0, none⟩) 1 1) [⟨k, 0, 0, 0, 0⟩] := by
  have hr : w.ownsRow 0 60 5 (.slice (some ⟨g, 0, none⟩) 1 1) 1 ([(⟨k, 0, 0, 0, 0⟩ : Tw)].flatMap twc) := ⟨rfl, .inr ⟨g, 1, _, rfl, Nat.zero_le _, hb, Nat.le_refl _, by unfold maxLen; omega, rfl, rfl⟩⟩
  refine ⟨own_rows twc_len rfl hr, fun g' off n cap e _ => ?_⟩
  simp only [Value.slice.injEq, Option.some.injEq, Addr.mk.injEq] at e
  obtain ⟨⟨rfl, -⟩, -⟩ := e
  exact ⟨_, _, hb⟩

set_option maxRecDepth 100000 in
set_option maxHeartbeats 4000000 in
theorem growSmall_main (w : World) : Calls Try.prog 4 #[] w fun e w' => e = .returned (.bool true) ∧ Below w.heap.size w w' := by
  obtain ⟨i0, hi0, hz0, hz1, hz2⟩ := info_parts Try.infoAnswer
  go_enter Try.func4, Try.ntmps4
  go_wp2
  go_loopw [1] (fun v1 wr => ∃ n : Nat, n ≤ 2401 ∧ v1 = .int .i64 n ∧ Below w.heap.size w wr) (fun i _ => 2401 - (intOf i).toNat)
  case atStart => exact ⟨0, Nat.zero_le _, rfl, Below.refl _ _⟩
  case round =>
    obtain ⟨n, hn, rfl, hbel⟩ := hrel
    have Hbel := Lib.hid hbel
    clear hbel
    by_cases hlt : n < 2401
    · have hlt' : (n : Int) < 2401 := by omega
      have hw9 : IntKind.i64.wrap ((n : Int) + 1) = (n : Int) + 1 := IntWalk.i64_in _ (by omega)
      have Hlt := Lib.hid hlt
      clear hn
      go_wp2_with fail
      go_loopw [2, 3, 4] (fun v2 v3 v4 wq => ∃ (l : List An) (k : Nat) (m : Int), k ≤ 4 ∧ l.length = k ∧ v4 = .int .i64 k ∧ v3 = .int .i64 m ∧ 0 ≤ m ∧ m ≤ 2401 ∧ RowL w.heap.size wq v2 l ∧ Below w.heap.size w wq) (fun _ _ i _ => 4 - (intOf i).toNat)
      case atStart => exact ⟨[], 0, n, by omega, rfl, rfl, rfl, by omega, by omega, RowL.nil _ _, Hbel.out⟩
      case round =>
        obtain ⟨l, k, m, hk, hlk, rfl, rfl, hm0, hm1, hrow, hb2⟩ := hrel
        have Hb2 := Lib.hid hb2
        have HRow := Lib.hid hrow
        have Hlk := Lib.hid hlk
        have hr := hrow.row
        rw [hlk] at hr
        obtain ⟨vo, vc, rfl⟩ := own_val hr
        clear hb2 hrow hlk hr
        by_cases hk4 : k < 4
        · have hk4' : (k : Int) < 4 := by omega
          have hw8 : IntKind.i64.wrap ((k : Int) + 1) = (k : Int) + 1 := IntWalk.i64_in _ (by omega)
          go_wp2_with fail
          refine (to_any (m % 7) wr).mono ?_
          rintro e w1 ⟨rfl, hb1⟩
          have HB1 := Lib.hid hb1
          clear hb1
          go_upto_region 10 with (fail)
          refine gen_world (S := fun u => Below w1.heap.size w1 u ∧ u.heap[w1.heap.size]? = some (.cells #[.bool true, .int .i64 (m % 7), .int .i64 (-1), .slice none 0 0, .int .i64 0] 53 (0, 0))) (one_new w1 _) (fun u hu => ?_)
          obtain ⟨hbu, hx⟩ := hu
          have HBu := Lib.hid (HB1.out.trans (hbu.mono HB1.out.size))
          have HXn := Lib.hid (show wr.heap.size ≤ w1.heap.size from HB1.out.size)
          obtain ⟨X, hX⟩ : ∃ X, X = w1.heap.size := ⟨_, rfl⟩
          rw [← hX] at hx HXn ⊢
          have HX := Lib.hid hx
          obtain ⟨x0, x1, x2, x3, x4, f0, f1, f2, f3, f4⟩ := five_box hx
          clear hbu hX HB1 hx
          have hw7 : IntKind.i64.wrap ((n : Int) + (k : Int)) = (n : Int) + k := IntWalk.i64_in _ (by omega)
          go_upto_region 11 with (fail)
          obtain ⟨fa, hfa⟩ : ∃ fa : Int, fa = ((n : Int) + k) % 5 := ⟨_, rfl⟩
          rw [← hfa]
          refine gen_world (S := fun v => Keeps (fun k => k = X) u v ∧ v.heap[X]? = some (.cells #[.bool true, .int .i64 (m % 7), .int .i64 fa, .slice none 0 0, .int .i64 0] 53 (0, 0))) ⟨(Keeps.refl (fun k => k = X) u).setCell (p := ⟨X, 2, none⟩) rfl _, block_setCell' (k := 2) HX.out⟩ (fun u2 hu => ?_)
          obtain ⟨hk2, hx2⟩ := hu
          have hbo : Below u2.heap.size u2 (u2.alloc (.cells #[.int .i64 k, .int .i64 0, .int .i64 0, .int .i64 0, .int .i64 0] 60 (0, 0))) := (one_new u2 _).1
          have hxa := (hbo.block _ (lt_of_block hx2)).trans hx2
          have HK2 := Lib.hid hk2
          have HX2 := Lib.hid hx2
          have HXA := Lib.hid hxa
          clear x0 x1 x2 x3 x4 f0 f1 f2 f3 f4
          obtain ⟨x0, x1, x2, x3, x4, f0, f1, f2, f3, f4⟩ := five_box hxa
          clear hk2 hx2 hbo hxa HX
          go_upto_if 44 with (fail)
          have hga : (u2.alloc (.cells #[.int .i64 k, .int .i64 0, .int .i64 0, .int .i64 0, .int .i64 0] 60 (0, 0))).heap[u2.heap.size]? = some (.cells #[.int .i64 k, .int .i64 0, .int .i64 0, .int .i64 0, .int .i64 0] 60 (0, 0)) := (one_new u2 _).2
          have hXG : X ≠ u2.heap.size := by have := lt_of_block HX2.out; omega
          have hkx : Keeps (fun k => k = X) (u2.alloc (.cells #[.int .i64 k, .int .i64 0, .int .i64 0, .int .i64 0, .int .i64 0] 60 (0, 0))) ((u2.alloc (.cells #[.int .i64 k, .int .i64 0, .int .i64 0, .int .i64 0, .int .i64 0] 60 (0, 0))).setCell ⟨X, 3, none⟩ (.slice (some ⟨u2.heap.size, 0, none⟩) 1 1)) := (Keeps.refl (fun k => k = X) _).setCell (p := ⟨X, 3, none⟩) rfl _
          have hku : Keeps (fun k => k = X) u ((u2.alloc (.cells #[.int .i64 k, .int .i64 0, .int .i64 0, .int .i64 0, .int .i64 0] 60 (0, 0))).setCell ⟨X, 3, none⟩ (.slice (some ⟨u2.heap.size, 0, none⟩) 1 1)) := (HK2.out.alloc _).trans hkx
          have hGn : u.heap.size ≤ u2.heap.size := HK2.out.size
          refine gen_world (S := fun v => Keeps (fun k => k = X) u v ∧ v.heap[X]? = some (.cells #[.bool true, .int .i64 (m % 7), .int .i64 fa, .slice (some ⟨u2.heap.size, 0, none⟩) 1 1, .int .i64 0] 53 (0, 0)) ∧ v.heap[u2.heap.size]? = some (.cells #[.int .i64 k, .int .i64 0, .int .i64 0, .int .i64 0, .int .i64 0] 60 (0, 0))) ⟨hku, block_setCell' (k := 3) HXA.out, hkx.obj hga (Ne.symm hXG)⟩ (fun u3 hu => ?_)
          obtain ⟨hk3, hx3, hg3⟩ := hu
          obtain ⟨G, hG⟩ : ∃ G, G = u2.heap.size := ⟨_, rfl⟩
          rw [← hG] at hx3 hg3 hXG hGn ⊢
          have HK3 := Lib.hid hk3
          have HX3 := Lib.hid hx3
          have HG3 := Lib.hid hg3
          have HXG := Lib.hid hXG
          clear x0 x1 x2 x3 x4 f0 f1 f2 f3 f4
          obtain ⟨x0, x1, x2, x3, x4, f0, f1, f2, f3, f4⟩ := five_box hx3
          clear hga hkx hku hk3 hx3 hg3 hG hXG HK2 HX2 HXA hfa
          go_cut [] (fun w1 => ∃ is : Bool, w1.heap[X]? = some (.cells #[.bool is, .int .i64 (m % 7), .int .i64 fa, .slice (some ⟨G, 0, none⟩) 1 1, .int .i64 0] 53 (0, 0)) ∧ Keeps (fun k => k = X) u3 w1)
          case first =>
            by_cases h5 : m % 7 = 5
            · have q1 : (m % 7 == 5) = true := by rw [h5]; rfl
              clear h5
              go_wp2_with fail
              go_meet
              exact ⟨false, block_setCell' (k := 0) HX3.out, (Keeps.refl (fun k => k = X) u3).setCell (p := ⟨X, 0, none⟩) rfl _⟩
            · have q1 : (m % 7 == 5) = false := by simpa using h5
              clear h5
              go_wp2_with fail
              go_meet
              exact ⟨true, HX3.out, Keeps.refl _ _⟩
          case rest =>
            obtain ⟨is, hx4, hk4x⟩ := hcut
            have HK4 := Lib.hid (HK3.out.trans hk4x)
            have HX4 := Lib.hid hx4
            have HG4 := Lib.hid (hk4x.obj HG3.out (Ne.symm HXG.out))
            clear x0 x1 x2 x3 x4 f0 f1 f2 f3 f4
            obtain ⟨x0, x1, x2, x3, x4, f0, f1, f2, f3, f4⟩ := five_box hx4
            clear hx4 hk4x HK3 HX3 HG3
            have hw6 : IntKind.i64.wrap ((n : Int) % 14 + 1) = (n : Int) % 14 + 1 := IntWalk.i64_in _ (by omega)
            go_upto_if 49 with (fail)
            go_cut [] (fun w1 => ∃ er : Int, w1.heap[X]? = some (.cells #[.bool is, .int .i64 (m % 7), .int .i64 fa, .slice (some ⟨G, 0, none⟩) 1 1, .int .i64 er] 53 (0, 0)) ∧ Keeps (fun k => k = X) wc w1)
            case first =>
              by_cases h6 : m % 7 = 6
              · have q1 : (m % 7 == 6) = true := by rw [h6]; rfl
                clear h6
                go_wp2_with fail
                go_meet
                exact ⟨_, block_setCell' (k := 4) HX4.out, (Keeps.refl (fun k => k = X) wc).setCell (p := ⟨X, 4, none⟩) rfl _⟩
              · have q1 : (m % 7 == 6) = false := by simpa using h6
                clear h6
                go_wp2_with fail
                go_meet
                exact ⟨0, HX4.out, Keeps.refl _ _⟩
            case rest =>
              obtain ⟨er, hx5, hk5x⟩ := hcut
              have HK5 := Lib.hid (HK4.out.trans hk5x)
              have HG5 := Lib.hid (hk5x.obj HG4.out (Ne.symm HXG.out))
              clear x0 x1 x2 x3 x4 f0 f1 f2 f3 f4
              obtain ⟨x0, x1, x2, x3, x4, f0, f1, f2, f3, f4⟩ := five_box hx5
              have HX5 := Lib.hid hx5
              clear hx5 hk5x HK4 HX4 HG4
              have hXw : Below wr.heap.size wr wc := HBu.out.trans (Keeps.below HK5.out HBu.out.size (fun k e => by subst e; exact HXn.out))
              have HBc := Lib.hid (Hb2.out.trans (hXw.mono Hb2.out.size))
              have hrc := HRow.out.later hXw
              have HRc := Lib.hid hrc
              have hrr := hrc.row
              rw [Hlk.out] at hrr
              have HRr := Lib.hid hrr
              obtain ⟨a, ha⟩ : ∃ a : An, a = ⟨is, m % 7, fa, [⟨k, 0, 0, 0, 0⟩], .slice (some ⟨G, 0, none⟩) 1 1, er⟩ := ⟨_, rfl⟩
              have hac : anc a = [.bool is, .int .i64 (m % 7), .int .i64 fa, .slice (some ⟨G, 0, none⟩) 1 1, .int .i64 er] := by rw [ha]; rfl
              have htw := tw_block HG5.out
              have HTw := Lib.hid htw
              have HAc := Lib.hid hac
              have HAe := Lib.hid ha
              clear hXw hrc hrr htw hac ha f0 f1 f2 f3 f4
              go_upto_region 16 with (fail)
              go_wp2_with (at_builtin; refine wpList_append_mine _ rfl (.tmp 54) (.tmp 56) 25 rfl w.heap.size 53 i0 (.agg #[.bool false, .int .i64 0, .int .i64 0, .slice none 0 0, .int .i64 0]) 5 56 Try.underlying25 hi0 hz0 hz1 hz2 rfl (by decide) (.slice vo k vc) k (l.flatMap anc) rfl (HRr.out.alloc _) (some ⟨wc.heap.size, 0, none⟩) 1 1 (anc a) rfl (by rw [HAc.out]; rfl) (by simp) (fun ad e j u hj => by cases e; rw [HAc.out] at hj; exact cell_new_list wc [.bool is, .int .i64 (m % 7), .int .i64 fa, .slice (some ⟨G, 0, none⟩) 1 1, .int .i64 er] 53 j u hj) (by rw [HAc.out]; intro u hu; simp at hu; rcases hu with rfl | rfl | rfl | rfl | rfl <;> rfl) (by unfold maxLen; omega) (by omega) (by have := HBc.out.size; simp; omega) ?_; intro v4 w4 hown4 hg4 hfr4; have hb4 := (HBc.out.alloc HBc.out.size _).grown hg4 (by have := HBc.out.size; simp; omega) (fun k hk => (HRr.out.lt k hk).1); have HG4 := Lib.hid hg4; have Hown4 := Lib.hid hown4; have HB4 := Lib.hid hb4; clear hown4 hg4 hfr4 hb4)
              go_roundw
              case rel =>
                have hkt := grow_keepT HRr.out ((Below.refl _ _).alloc (Nat.le_refl _) _) HG4.out (by decide)
                refine ⟨l ++ [a], k + 1, m / 7, by omega, by simp [Hlk.out], by go_num, rfl, by omega, by omega, ⟨?_, fun b hb => ?_⟩, HB4.out⟩
                · have e1 : (l ++ [a]).length = k + 1 := by simp [Hlk.out]
                  have e2 : (l ++ [a]).flatMap anc = l.flatMap anc ++ anc a := by simp
                  rw [e1, e2]
                  exact Hown4.out
                · rcases List.mem_append.1 hb with hb | hb
                  · exact ⟨(HRc.out.tr b hb).1.keepT hkt (by decide), (HRc.out.tr b hb).2⟩
                  · simp at hb
                    subst hb
                    rw [HAe.out]
                    exact ⟨HTw.out.keepT hkt (by decide), by simp⟩
              case measure => simp [intOf]; omega
        · have hk4' : ¬ (k : Int) < 4 := by omega
          clear hk4
          have hgd := growDoes_main (L := [(0, 0), (1, (n : Int) % 2)]) (p := ((n : Int) % 3, (n : Int) % 4)) (lev := (n : Int) % 5) (.slice (some ⟨wr.heap.size, 0, none⟩) 2 2) (.slice vo k vc) (wr.alloc (.cells #[.int .i64 0, .int .i64 0, .int .i64 1, .int .i64 ((n : Int) % 2)] 24 (0, 0))) (prs_two (p := (0, 0)) (q := (1, (n : Int) % 2)) (one_new wr _).2) (fun p hp => by
            simp at hp
            rcases hp with rfl | rfl
            · exact ⟨rfl, rfl⟩
            · exact ⟨rfl, wf64 (by simp only; omega)⟩) ⟨wf64 (by simp only; omega), wf64 (by simp only; omega)⟩ ((HRow.out.later (one_new wr _).1).ans) (by rw [Hlk.out]; omega) (by simp) (fun j => by have := HRow.out.len j; omega)
          have HGd := Lib.hid hgd
          have HBo := Lib.hid (Hb2.out.trans ((one_new wr (.cells #[.int .i64 0, .int .i64 0, .int .i64 1, .int .i64 ((n : Int) % 2)] 24 (0, 0))).1.mono Hb2.out.size))
          clear hgd
          go_wp2_with fail
          refine HGd.out.mono ?_
          rintro e w5 ⟨rfl, hb5⟩
          have HB5 := Lib.hid (HBo.out.trans (hb5.mono HBo.out.size))
          clear hb5
          go_wp2_with fail
          go_roundw
          case rel => exact ⟨n + 1, Hlt.out, by go_num, HB5.out⟩
          case measure => have := Hlt.out; simp [intOf]; omega
    · have hlt' : ¬ (n : Int) < 2401 := by omega
      clear hlt hn
      go_upto_region 21 with (fail)
      refine gen_world (S := fun u => Below wr.heap.size wr u ∧ u.heap[wr.heap.size]? = some (.cells #[.int .i64 (-9223372036854775808), .int .i64 (-1), .int .i64 0, .int .i64 9223372036854775807] 3 (0, 0))) (one_new wr _) (fun u hu => ?_)
      obtain ⟨hbu, hx⟩ := hu
      have HBu := Lib.hid (Hbel.out.trans (hbu.mono Hbel.out.size))
      have HEn := Lib.hid (show w.heap.size ≤ wr.heap.size from Hbel.out.size)
      obtain ⟨E, hE⟩ : ∃ E, E = wr.heap.size := ⟨_, rfl⟩
      rw [← hE] at hx HEn ⊢
      have HE := Lib.hid hx
      clear hbu hx hE Hbel
      go_wp2_with fail
      go_loopw [7, 8] (fun v7 v8 wq => ∃ (l : List An) (i : Nat), i ≤ 4 ∧ l.length = i ∧ v8 = .int .i64 i ∧ RowL w.heap.size wq v7 l ∧ wq.heap[E]? = some (.cells #[.int .i64 (-9223372036854775808), .int .i64 (-1), .int .i64 0, .int .i64 9223372036854775807] 3 (0, 0)) ∧ Below w.heap.size w wq) (fun _ i _ => 4 - (intOf i).toNat)
      case atStart => exact ⟨[], 0, by omega, rfl, rfl, RowL.nil _ _, HE.out, HBu.out⟩
      case round =>
        obtain ⟨l, i, hi, hli, rfl, hrow, hE2, hb2⟩ := hrel
        have Hb2 := Lib.hid hb2
        have HRow := Lib.hid hrow
        have Hli := Lib.hid hli
        have HE2 := Lib.hid hE2
        have hr := hrow.row
        rw [hli] at hr
        obtain ⟨vo, vc, rfl⟩ := own_val hr
        clear hb2 hrow hli hE2 hr
        by_cases hi4 : i < 4
        · have hi4' : (i : Int) < 4 := by omega
          have hw8 : IntKind.i64.wrap ((i : Int) + 1) = (i : Int) + 1 := IntWalk.i64_in _ (by omega)
          obtain ⟨j, hj⟩ : ∃ j, j = 3 - i := ⟨_, rfl⟩
          have hw7 : IntKind.i64.wrap (3 - (i : Int)) = (j : Int) := (IntWalk.i64_in _ (by omega)).trans (by omega)
          have hj4 : (j : Int) < 4 := by omega
          have e0 := ends_cell HE2.out i hi4
          have e1 := ends_cell HE2.out j (by omega)
          have Hj4 := Lib.hid (show j < 4 by omega)
          clear hj
          go_wp2_with fail
          refine (to_any (endA i) wr).mono ?_
          rintro e w1 ⟨rfl, hb1⟩
          have HB1 := Lib.hid (Hb2.out.trans (hb1.mono Hb2.out.size))
          have hrc := HRow.out.later hb1
          have HRc := Lib.hid hrc
          have hrr := hrc.row
          rw [Hli.out] at hrr
          have HRr := Lib.hid hrr
          have HE3 := Lib.hid ((hb1.block _ (lt_of_block HE2.out)).trans HE2.out)
          clear hb1 hrc hrr e0 e1
          go_wp2_with (at_builtin; refine wpList_append_mine _ rfl (.tmp 80) (.tmp 86) 25 rfl w.heap.size 53 i0 (.agg #[.bool false, .int .i64 0, .int .i64 0, .slice none 0 0, .int .i64 0]) 5 56 Try.underlying25 hi0 hz0 hz1 hz2 rfl (by decide) (.slice vo i vc) i (l.flatMap anc) rfl (HRr.out.alloc _) (some ⟨w1.heap.size, 0, none⟩) 1 1 [.bool true, .int .i64 (endA i), .int .i64 (-1), .slice none 0 0, .int .i64 0] rfl (by rfl) (by simp) (fun ad e j u hj => by cases e; exact cell_new_list w1 [.bool true, .int .i64 (endA i), .int .i64 (-1), .slice none 0 0, .int .i64 0] 53 j u hj) (by intro u hu; simp at hu; rcases hu with rfl | rfl | rfl | rfl | rfl <;> rfl) (by unfold maxLen; omega) (by omega) (by have := HB1.out.size; simp; omega) ?_; intro v4 w4 hown4 hg4 hfr4; have hb4 := (HB1.out.alloc HB1.out.size _).grown hg4 (by have := HB1.out.size; simp; omega) (fun k hk => (HRr.out.lt k hk).1); obtain ⟨g, cp, rfl⟩ := own_shape hown4 (by omega); obtain ⟨cur, hcg, hcu⟩ := row_cell2 hown4 (by rw [flat_len anc_len, Hli.out]); have c2 := (block_cell' hcg (i * 5 + 2)).1.trans hcu; have f2 := (block_cell' hcg (i * 5 + 2)).2; have hkt := grow_keepT HRr.out ((Below.refl _ _).alloc (Nat.le_refl _) _) hg4 (by decide); have HE4 := Lib.hid (hkt.cells HE3.out (by decide)); have HKt := Lib.hid hkt; have HCg := Lib.hid hcg; have e1 := ends_cell HE4.out j Hj4.out; have Hown4 := Lib.hid hown4; have HB4 := Lib.hid hb4; clear hown4 hg4 hfr4 hb4 hkt hcg hcu)
          go_upto_region 27 with (fail)
          have hset := row_set2 (u := .int .i64 (endA j)) Hown4.out (by rw [flat_len anc_len, Hli.out])
          have hgb : w.heap.size ≤ g := (Hown4.out.lt g rfl).1
          have hks : Keeps (fun k => k = g) w4 (w4.setCell ⟨g, i * 5 + 2, none⟩ (.int .i64 (endA j))) := (Keeps.refl (fun k => k = g) w4).setCell (p := ⟨g, i * 5 + 2, none⟩) rfl _
          have hks2 : @KeepT noWatch 0 [53] false w4 (w4.setCell ⟨g, i * 5 + 2, none⟩ (.int .i64 (endA j))) := Keeps.mono hks fun k _ e => by subst e; exact ⟨Nat.zero_le _, by unfold Tyb; rw [HCg.out]; simp⟩
          have hrow5 : RowL w.heap.size (w4.setCell ⟨g, i * 5 + 2, none⟩ (.int .i64 (endA j))) (.slice (some ⟨g, 0, none⟩) (i + 1) cp) (l ++ [⟨true, endA i, endA j, [], .slice none 0 0, 0⟩]) := ⟨by
            have e1 : (l ++ [(⟨true, endA i, endA j, [], .slice none 0 0, 0⟩ : An)]).length = i + 1 := by simp [Hli.out]
            have e2 : (l ++ [(⟨true, endA i, endA j, [], .slice none 0 0, 0⟩ : An)]).flatMap anc = l.flatMap anc ++ [.bool true, .int .i64 (endA i), .int .i64 (endA j), .slice none 0 0, .int .i64 0] := by simp [anc]
            rw [e1, e2]
            exact hset, fun b hb => by
            rcases List.mem_append.1 hb with hb | hb
            · exact ⟨((HRc.out.tr b hb).1.keepT HKt.out (by decide)).keepT hks2 (by decide), (HRc.out.tr b hb).2⟩
            · simp at hb
              subst hb
              exact ⟨TwIn.nil _, by simp⟩⟩
          refine gen_world (S := fun u => RowL w.heap.size u (.slice (some ⟨g, 0, none⟩) (i + 1) cp) (l ++ [⟨true, endA i, endA j, [], .slice none 0 0, 0⟩]) ∧ u.heap[E]? = some (.cells #[.int .i64 (-9223372036854775808), .int .i64 (-1), .int .i64 0, .int .i64 9223372036854775807] 3 (0, 0)) ∧ Below w.heap.size w u) ⟨hrow5, hks2.cells HE4.out (by decide), HB4.out.trans (Keeps.below hks HB4.out.size (fun k e => by subst e; exact hgb))⟩ (fun u hu => ?_)
          obtain ⟨hr5, hE5, hb5⟩ := hu
          have HR5 := Lib.hid hr5
          have HE5 := Lib.hid hE5
          have HBu := Lib.hid hb5
          have E0 := Lib.hid (ends_cell hE5 i hi4)
          have E1 := Lib.hid (ends_cell hE5 j Hj4.out)
          have HG1 := Lib.hid (fun (wq : World) (hb : Below u.heap.size u wq) => growDoes_main (L := []) (p := (endA i, endA j)) (lev := endA i) (.slice none 0 0) (.slice (some ⟨g, 0, none⟩) (i + 1) cp) wq (prs_nil wq) (fun p hp => by simp at hp) ⟨endA_wf i, endA_wf j⟩ (hr5.later hb).ans (by simp [Hli.out]; omega) (by simp) (fun j => by have := hr5.len j; omega))
          have HG2 := Lib.hid (fun (wq : World) (pv : Value) (hb : Below u.heap.size u wq) (hp : PrsAt wq pv [(endA i, endA i)]) => growDoes_main (L := [(endA i, endA i)]) (p := (endA i, endA i)) (lev := 0) pv (.slice (some ⟨g, 0, none⟩) (i + 1) cp) wq hp (fun p hp => by simp at hp; subst hp; exact ⟨endA_wf i, endA_wf i⟩) ⟨endA_wf i, endA_wf i⟩ (hr5.later hb).ans (by simp [Hli.out]; omega) (by simp) (fun j => by have := hr5.len j; omega))
          clear hr5 hE5 hb5 hset hgb hks hks2 hrow5 c2 f2 e1
          refine wp_region_held_drew (S := fun wq => Below u.heap.size u wq) (by kernel_rfl) ((Below.refl _ _).drew) (fun hS => ?_)
          refine wpAnyH_take (i := 0) (oi := ⟨_, _, _, _, _, _⟩) (v := ?v1) rfl (by kernel_rfl) (by kernel_rfl) (by kernel_rfl) (fun _ _ _ h => h) ?y1 hS ?_
          case y1 => first | (refine Or.inr ⟨by rfl, ?_⟩; with_reducible rfl) | (refine Or.inl ⟨by rfl, ?_⟩; intro wS hSw; have e0S := cell_later hSw E0.out; have e1S := cell_later hSw E1.out; go_simp; try with_reducible rfl)
          simp only [Act.put, List.setIfInBounds_toArray, List.set_cons_zero, List.set_cons_succ]
          refine wpAnyH_take (i := 1) (oi := ⟨_, _, _, _, _, _⟩) (v := ?v2) rfl (by kernel_rfl) (by kernel_rfl) (by kernel_rfl) (fun _ _ _ h => h) ?y2 hS ?_
          case y2 => first | (refine Or.inr ⟨by rfl, ?_⟩; with_reducible rfl) | (refine Or.inl ⟨by rfl, ?_⟩; intro wS hSw; have e0S := cell_later hSw E0.out; have e1S := cell_later hSw E1.out; go_simp; try with_reducible rfl)
          simp only [Act.put, List.setIfInBounds_toArray, List.set_cons_zero, List.set_cons_succ]
          refine wpAnyH_take (i := 2) (oi := ⟨_, _, _, _, _, _⟩) (v := ?v3) rfl (by kernel_rfl) (by kernel_rfl) (by kernel_rfl) (fun _ _ _ h => h) ?y3 hS ?_
          case y3 => first | (refine Or.inr ⟨by rfl, ?_⟩; with_reducible rfl) | (refine Or.inl ⟨by rfl, ?_⟩; intro wS hSw; have e0S := cell_later hSw E0.out; have e1S := cell_later hSw E1.out; go_simp; try with_reducible rfl)
          simp only [Act.put, List.setIfInBounds_toArray, List.set_cons_zero, List.set_cons_succ]
          refine wpAnyH_take (i := 3) (oi := ⟨_, _, _, _, _, _⟩) (v := ?v4) rfl (by kernel_rfl) (by kernel_rfl) (by kernel_rfl) (fun _ _ _ h => h) ?y4 hS ?_
          case y4 => first | (refine Or.inr ⟨by rfl, ?_⟩; with_reducible rfl) | (refine Or.inl ⟨by rfl, ?_⟩; intro wS hSw; have e0S := cell_later hSw E0.out; have e1S := cell_later hSw E1.out; go_simp; try with_reducible rfl)
          simp only [Act.put, List.setIfInBounds_toArray, List.set_cons_zero, List.set_cons_succ]
          refine wpAnyH_take (i := 4) (oi := ⟨_, _, _, _, _, _⟩) (v := ?v5) rfl (by kernel_rfl) (by kernel_rfl) (by kernel_rfl) (fun _ _ _ h => h) ?y5 hS ?_
          case y5 => first | (refine Or.inr ⟨by rfl, ?_⟩; with_reducible rfl) | (refine Or.inl ⟨by rfl, ?_⟩; intro wS hSw; have e0S := cell_later hSw E0.out; have e1S := cell_later hSw E1.out; go_simp; try with_reducible rfl)
          simp only [Act.put, List.setIfInBounds_toArray, List.set_cons_zero, List.set_cons_succ]
          refine wpAnyH_take (i := 5) (oi := ⟨_, _, _, _, _, _⟩) (v := ?v6) rfl (by kernel_rfl) (by kernel_rfl) (by kernel_rfl) (fun _ _ _ h => h) ?y6 hS ?_
          case y6 => first | (refine Or.inr ⟨by rfl, ?_⟩; with_reducible rfl) | (refine Or.inl ⟨by rfl, ?_⟩; intro wS hSw; have e0S := cell_later hSw E0.out; have e1S := cell_later hSw E1.out; go_simp; try with_reducible rfl)
          simp only [Act.put, List.setIfInBounds_toArray, List.set_cons_zero, List.set_cons_succ]
          refine wpAnyH_take (i := 6) (oi := ⟨_, _, _, _, _, _⟩) (v := ?v7) rfl (by kernel_rfl) (by kernel_rfl) (by kernel_rfl) (fun _ _ _ h => h) ?y7 hS ?_
          case y7 => first | (refine Or.inr ⟨by rfl, ?_⟩; with_reducible rfl) | (refine Or.inl ⟨by rfl, ?_⟩; intro wS hSw; have e0S := cell_later hSw E0.out; have e1S := cell_later hSw E1.out; go_simp; try with_reducible rfl)
          simp only [Act.put, List.setIfInBounds_toArray, List.set_cons_zero, List.set_cons_succ]
          refine wpAnyH_take (i := 7) (oi := ⟨_, _, _, _, _, _⟩) (v := ?v8) rfl (by kernel_rfl) (by kernel_rfl) (by kernel_rfl) (fun _ _ _ h => h) ?y8 hS ?_
          case y8 => first | (refine Or.inr ⟨by rfl, ?_⟩; with_reducible rfl) | (refine Or.inl ⟨by rfl, ?_⟩; intro wS hSw; have e0S := cell_later hSw E0.out; have e1S := cell_later hSw E1.out; go_simp; try with_reducible rfl)
          simp only [Act.put, List.setIfInBounds_toArray, List.set_cons_zero, List.set_cons_succ]
          refine wpAnyH_take (i := 8) (oi := ⟨_, _, _, _, _, _⟩) (v := ?v9) rfl (by kernel_rfl) (by kernel_rfl) (by kernel_rfl) (fun _ _ _ h => h) ?y9 hS ?_
          case y9 => first | (refine Or.inr ⟨by rfl, ?_⟩; with_reducible rfl) | (refine Or.inl ⟨by rfl, ?_⟩; intro wS hSw; have e0S := cell_later hSw E0.out; have e1S := cell_later hSw E1.out; go_simp; try with_reducible rfl)
          simp only [Act.put, List.setIfInBounds_toArray, List.set_cons_zero, List.set_cons_succ]
          refine wpAnyH_take (i := 9) (oi := ⟨_, _, _, _, _, _⟩) (v := ?v10) rfl (by kernel_rfl) (by kernel_rfl) (by kernel_rfl) (fun _ _ _ h => h) ?y10 hS ?_
          case y10 => first | (refine Or.inr ⟨by rfl, ?_⟩; with_reducible rfl) | (refine Or.inl ⟨by rfl, ?_⟩; intro wS hSw; have e0S := cell_later hSw E0.out; have e1S := cell_later hSw E1.out; go_simp; try with_reducible rfl)
          simp only [Act.put, List.setIfInBounds_toArray, List.set_cons_zero, List.set_cons_succ]
          refine wpAnyH_take (i := 10) (oi := ⟨_, _, _, _, _, _⟩) (v := ?v11) rfl (by kernel_rfl) (by kernel_rfl) (by kernel_rfl) (fun _ _ _ h => h) ?y11 hS ?_
          case y11 => first | (refine Or.inr ⟨by rfl, ?_⟩; with_reducible rfl) | (refine Or.inl ⟨by rfl, ?_⟩; intro wS hSw; have e0S := cell_later hSw E0.out; have e1S := cell_later hSw E1.out; go_simp; try with_reducible rfl)
          simp only [Act.put, List.setIfInBounds_toArray, List.set_cons_zero, List.set_cons_succ]
          refine wpAnyH_take (i := 11) (oi := ⟨_, _, _, _, _, _⟩) (v := ?v12) rfl (by kernel_rfl) (by kernel_rfl) (by kernel_rfl) (fun _ _ _ h => h) ?y12 hS ?_
          case y12 => first | (refine Or.inr ⟨by rfl, ?_⟩; with_reducible rfl) | (refine Or.inl ⟨by rfl, ?_⟩; intro wS hSw; have e0S := cell_later hSw E0.out; have e1S := cell_later hSw E1.out; go_simp; try with_reducible rfl)
          simp only [Act.put, List.setIfInBounds_toArray, List.set_cons_zero, List.set_cons_succ]
          refine wpAnyH_take (i := 12) (oi := ⟨_, _, _, _, _, _⟩) (v := ?v13) rfl (by kernel_rfl) (by kernel_rfl) (by kernel_rfl) (fun _ _ _ h => h) ?y13 hS ?_
          case y13 => first | (refine Or.inr ⟨by rfl, ?_⟩; with_reducible rfl) | (refine Or.inl ⟨by rfl, ?_⟩; intro wS hSw; have e0S := cell_later hSw E0.out; have e1S := cell_later hSw E1.out; go_simp; try with_reducible rfl)
          simp only [Act.put, List.setIfInBounds_toArray, List.set_cons_zero, List.set_cons_succ]
          refine wpAnyH_take (i := 13) (oi := ⟨_, _, _, _, _, _⟩) (v := ?v14) rfl (by kernel_rfl) (by kernel_rfl) (by kernel_rfl) (fun _ _ _ h => h) ?y14 hS ?_
          case y14 => first | (refine Or.inr ⟨by rfl, ?_⟩; with_reducible rfl) | (refine Or.inl ⟨by rfl, ?_⟩; intro wS hSw; have e0S := cell_later hSw E0.out; have e1S := cell_later hSw E1.out; go_simp; try with_reducible rfl)
          simp only [Act.put, List.setIfInBounds_toArray, List.set_cons_zero, List.set_cons_succ]
          refine wpAnyH_take (i := 14) (oi := ⟨_, _, _, _, _, _⟩) (v := ?v15) rfl (by kernel_rfl) (by kernel_rfl) (by kernel_rfl) (fun _ _ _ h => h) ?y15 hS ?_
          case y15 => first | (refine Or.inr ⟨by rfl, ?_⟩; with_reducible rfl) | (refine Or.inl ⟨by rfl, ?_⟩; intro wS hSw; have e0S := cell_later hSw E0.out; have e1S := cell_later hSw E1.out; go_simp; try with_reducible rfl)
          simp only [Act.put, List.setIfInBounds_toArray, List.set_cons_zero, List.set_cons_succ]
          refine wpAnyH_ready (rs := [15]) (by kernel_rfl) (by simp) ?_
          refine AllReadyH.cons (o := ⟨_, _, _, _, _, _⟩) rfl (fun K hK => ?_) AllReadyH.nil
          go_simp
          refine (HG1.out _ hS).mono ?_
          rintro e wx ⟨rfl, hbx⟩
          go_wp2_with fail
          have hS : Below u.heap.size u wx := hS.trans (hbx.mono hS.size)
          refine hK.out _ _ (hS) (fun _ => ?_)
          clear hK K
          try simp only [Act.put, List.setIfInBounds_toArray, List.set_cons_zero, List.set_cons_succ]
          refine wpAnyH_take (i := 16) (oi := ⟨_, _, _, _, _, _⟩) (v := ?v16) rfl (by kernel_rfl) (by kernel_rfl) (by kernel_rfl) (fun _ _ _ h => h) ?y16 hS ?_
          case y16 => first | (refine Or.inr ⟨by rfl, ?_⟩; with_reducible rfl) | (refine Or.inl ⟨by rfl, ?_⟩; intro wS hSw; have e0S := cell_later hSw E0.out; have e1S := cell_later hSw E1.out; go_simp; try with_reducible rfl)
          simp only [Act.put, List.setIfInBounds_toArray, List.set_cons_zero, List.set_cons_succ]
          refine wpAnyH_take (i := 17) (oi := ⟨_, _, _, _, _, _⟩) (v := ?v17) rfl (by kernel_rfl) (by kernel_rfl) (by kernel_rfl) (fun _ _ _ h => h) ?y17 hS ?_
          case y17 => first | (refine Or.inr ⟨by rfl, ?_⟩; with_reducible rfl) | (refine Or.inl ⟨by rfl, ?_⟩; intro wS hSw; have e0S := cell_later hSw E0.out; have e1S := cell_later hSw E1.out; go_simp; try with_reducible rfl)
          simp only [Act.put, List.setIfInBounds_toArray, List.set_cons_zero, List.set_cons_succ]
          refine wpAnyH_take (i := 18) (oi := ⟨_, _, _, _, _, _⟩) (v := ?v18) rfl (by kernel_rfl) (by kernel_rfl) (by kernel_rfl) (fun _ _ _ h => h) ?y18 hS ?_
          case y18 => first | (refine Or.inr ⟨by rfl, ?_⟩; with_reducible rfl) | (refine Or.inl ⟨by rfl, ?_⟩; intro wS hSw; have e0S := cell_later hSw E0.out; have e1S := cell_later hSw E1.out; go_simp; try with_reducible rfl)
          simp only [Act.put, List.setIfInBounds_toArray, List.set_cons_zero, List.set_cons_succ]
          refine wpAnyH_take (i := 19) (oi := ⟨_, _, _, _, _, _⟩) (v := ?v19) rfl (by kernel_rfl) (by kernel_rfl) (by kernel_rfl) (fun _ _ _ h => h) ?y19 hS ?_
          case y19 => first | (refine Or.inr ⟨by rfl, ?_⟩; with_reducible rfl) | (refine Or.inl ⟨by rfl, ?_⟩; intro wS hSw; have e0S := cell_later hSw E0.out; have e1S := cell_later hSw E1.out; go_simp; try with_reducible rfl)
          simp only [Act.put, List.setIfInBounds_toArray, List.set_cons_zero, List.set_cons_succ]
          refine wpAnyH_take (i := 20) (oi := ⟨_, _, _, _, _, _⟩) (v := ?v20) rfl (by kernel_rfl) (by kernel_rfl) (by kernel_rfl) (fun _ _ _ h => h) ?y20 hS ?_
          case y20 => first | (refine Or.inr ⟨by rfl, ?_⟩; with_reducible rfl) | (refine Or.inl ⟨by rfl, ?_⟩; intro wS hSw; have e0S := cell_later hSw E0.out; have e1S := cell_later hSw E1.out; go_simp; try with_reducible rfl)
          simp only [Act.put, List.setIfInBounds_toArray, List.set_cons_zero, List.set_cons_succ]
          refine wpAnyH_take (i := 21) (oi := ⟨_, _, _, _, _, _⟩) (v := ?v21) rfl (by kernel_rfl) (by kernel_rfl) (by kernel_rfl) (fun _ _ _ h => h) ?y21 hS ?_
          case y21 => first | (refine Or.inr ⟨by rfl, ?_⟩; with_reducible rfl) | (refine Or.inl ⟨by rfl, ?_⟩; intro wS hSw; have e0S := cell_later hSw E0.out; have e1S := cell_later hSw E1.out; go_simp; try with_reducible rfl)
          simp only [Act.put, List.setIfInBounds_toArray, List.set_cons_zero, List.set_cons_succ]
          refine wpAnyH_take (i := 22) (oi := ⟨_, _, _, _, _, _⟩) (v := ?v22) rfl (by kernel_rfl) (by kernel_rfl) (by kernel_rfl) (fun _ _ _ h => h) ?y22 hS ?_
          case y22 => first | (refine Or.inr ⟨by rfl, ?_⟩; with_reducible rfl) | (refine Or.inl ⟨by rfl, ?_⟩; intro wS hSw; have e0S := cell_later hSw E0.out; have e1S := cell_later hSw E1.out; go_simp; try with_reducible rfl)
          simp only [Act.put, List.setIfInBounds_toArray, List.set_cons_zero, List.set_cons_succ]
          refine wpAnyH_take (i := 23) (oi := ⟨_, _, _, _, _, _⟩) (v := ?v23) rfl (by kernel_rfl) (by kernel_rfl) (by kernel_rfl) (fun _ _ _ h => h) ?y23 hS ?_
          case y23 => first | (refine Or.inr ⟨by rfl, ?_⟩; with_reducible rfl) | (refine Or.inl ⟨by rfl, ?_⟩; intro wS hSw; have e0S := cell_later hSw E0.out; have e1S := cell_later hSw E1.out; go_simp; try with_reducible rfl)
          simp only [Act.put, List.setIfInBounds_toArray, List.set_cons_zero, List.set_cons_succ]
          refine wpAnyH_take (i := 24) (oi := ⟨_, _, _, _, _, _⟩) (v := ?v24) rfl (by kernel_rfl) (by kernel_rfl) (by kernel_rfl) (fun _ _ _ h => h) ?y24 hS ?_
          case y24 => first | (refine Or.inr ⟨by rfl, ?_⟩; with_reducible rfl) | (refine Or.inl ⟨by rfl, ?_⟩; intro wS hSw; have e0S := cell_later hSw E0.out; have e1S := cell_later hSw E1.out; go_simp; try with_reducible rfl)
          simp only [Act.put, List.setIfInBounds_toArray, List.set_cons_zero, List.set_cons_succ]
          refine wpAnyH_take (i := 25) (oi := ⟨_, _, _, _, _, _⟩) (v := ?v25) rfl (by kernel_rfl) (by kernel_rfl) (by kernel_rfl) (fun _ _ _ h => h) ?y25 hS ?_
          case y25 => first | (refine Or.inr ⟨by rfl, ?_⟩; with_reducible rfl) | (refine Or.inl ⟨by rfl, ?_⟩; intro wS hSw; have e0S := cell_later hSw E0.out; have e1S := cell_later hSw E1.out; go_simp; try with_reducible rfl)
          simp only [Act.put, List.setIfInBounds_toArray, List.set_cons_zero, List.set_cons_succ]
          refine wpAnyH_take (i := 26) (oi := ⟨_, _, _, _, _, _⟩) (v := ?v26) rfl (by kernel_rfl) (by kernel_rfl) (by kernel_rfl) (fun _ _ _ h => h) ?y26 hS ?_
          case y26 => first | (refine Or.inr ⟨by rfl, ?_⟩; with_reducible rfl) | (refine Or.inl ⟨by rfl, ?_⟩; intro wS hSw; have e0S := cell_later hSw E0.out; have e1S := cell_later hSw E1.out; go_simp; try with_reducible rfl)
          simp only [Act.put, List.setIfInBounds_toArray, List.set_cons_zero, List.set_cons_succ]
          refine wpAnyH_take (i := 28) (oi := ⟨_, _, _, _, _, _⟩) (v := ?v27) rfl (by kernel_rfl) (by kernel_rfl) (by kernel_rfl) (fun _ _ _ h => h) ?y27 hS ?_
          case y27 => first | (refine Or.inr ⟨by rfl, ?_⟩; with_reducible rfl) | (refine Or.inl ⟨by rfl, ?_⟩; intro wS hSw; have e0S := cell_later hSw E0.out; have e1S := cell_later hSw E1.out; go_simp; try with_reducible rfl)
          simp only [Act.put, List.setIfInBounds_toArray, List.set_cons_zero, List.set_cons_succ]
          refine wpAnyH_take (i := 29) (oi := ⟨_, _, _, _, _, _⟩) (v := ?v28) rfl (by kernel_rfl) (by kernel_rfl) (by kernel_rfl) (fun _ _ _ h => h) ?y28 hS ?_
          case y28 => first | (refine Or.inr ⟨by rfl, ?_⟩; with_reducible rfl) | (refine Or.inl ⟨by rfl, ?_⟩; intro wS hSw; have e0S := cell_later hSw E0.out; have e1S := cell_later hSw E1.out; go_simp; try with_reducible rfl)
          simp only [Act.put, List.setIfInBounds_toArray, List.set_cons_zero, List.set_cons_succ]
          refine wpAnyH_take (i := 30) (oi := ⟨_, _, _, _, _, _⟩) (v := ?v29) rfl (by kernel_rfl) (by kernel_rfl) (by kernel_rfl) (fun _ _ _ h => h) ?y29 hS ?_
          case y29 => first | (refine Or.inr ⟨by rfl, ?_⟩; with_reducible rfl) | (refine Or.inl ⟨by rfl, ?_⟩; intro wS hSw; have e0S := cell_later hSw E0.out; have e1S := cell_later hSw E1.out; go_simp; try with_reducible rfl)
          simp only [Act.put, List.setIfInBounds_toArray, List.set_cons_zero, List.set_cons_succ]
          refine wpAnyH_take (i := 31) (oi := ⟨_, _, _, _, _, _⟩) (v := ?v30) rfl (by kernel_rfl) (by kernel_rfl) (by kernel_rfl) (fun _ _ _ h => h) ?y30 hS ?_
          case y30 => first | (refine Or.inr ⟨by rfl, ?_⟩; with_reducible rfl) | (refine Or.inl ⟨by rfl, ?_⟩; intro wS hSw; have e0S := cell_later hSw E0.out; have e1S := cell_later hSw E1.out; go_simp; try with_reducible rfl)
          simp only [Act.put, List.setIfInBounds_toArray, List.set_cons_zero, List.set_cons_succ]
          refine wpAnyH_take (i := 32) (oi := ⟨_, _, _, _, _, _⟩) (v := ?v31) rfl (by kernel_rfl) (by kernel_rfl) (by kernel_rfl) (fun _ _ _ h => h) ?y31 hS ?_
          case y31 => first | (refine Or.inr ⟨by rfl, ?_⟩; with_reducible rfl) | (refine Or.inl ⟨by rfl, ?_⟩; intro wS hSw; have e0S := cell_later hSw E0.out; have e1S := cell_later hSw E1.out; go_simp; try with_reducible rfl)
          simp only [Act.put, List.setIfInBounds_toArray, List.set_cons_zero, List.set_cons_succ]
          refine wpAnyH_take (i := 33) (oi := ⟨_, _, _, _, _, _⟩) (v := ?v32) rfl (by kernel_rfl) (by kernel_rfl) (by kernel_rfl) (fun _ _ _ h => h) ?y32 hS ?_
          case y32 => first | (refine Or.inr ⟨by rfl, ?_⟩; with_reducible rfl) | (refine Or.inl ⟨by rfl, ?_⟩; intro wS hSw; have e0S := cell_later hSw E0.out; have e1S := cell_later hSw E1.out; go_simp; try with_reducible rfl)
          simp only [Act.put, List.setIfInBounds_toArray, List.set_cons_zero, List.set_cons_succ]
          refine wpAnyH_take (i := 34) (oi := ⟨_, _, _, _, _, _⟩) (v := ?v33) rfl (by kernel_rfl) (by kernel_rfl) (by kernel_rfl) (fun _ _ _ h => h) ?y33 hS ?_
          case y33 => first | (refine Or.inr ⟨by rfl, ?_⟩; with_reducible rfl) | (refine Or.inl ⟨by rfl, ?_⟩; intro wS hSw; have e0S := cell_later hSw E0.out; have e1S := cell_later hSw E1.out; go_simp; try with_reducible rfl)
          simp only [Act.put, List.setIfInBounds_toArray, List.set_cons_zero, List.set_cons_succ]
          refine wpAnyH_take (i := 35) (oi := ⟨_, _, _, _, _, _⟩) (v := ?v34) rfl (by kernel_rfl) (by kernel_rfl) (by kernel_rfl) (fun _ _ _ h => h) ?y34 hS ?_
          case y34 => first | (refine Or.inr ⟨by rfl, ?_⟩; with_reducible rfl) | (refine Or.inl ⟨by rfl, ?_⟩; intro wS hSw; have e0S := cell_later hSw E0.out; have e1S := cell_later hSw E1.out; go_simp; try with_reducible rfl)
          simp only [Act.put, List.setIfInBounds_toArray, List.set_cons_zero, List.set_cons_succ]
          refine wpAnyH_take (i := 36) (oi := ⟨_, _, _, _, _, _⟩) (v := ?v35) rfl (by kernel_rfl) (by kernel_rfl) (by kernel_rfl) (fun _ _ _ h => h) ?y35 hS ?_
          case y35 => first | (refine Or.inr ⟨by rfl, ?_⟩; with_reducible rfl) | (refine Or.inl ⟨by rfl, ?_⟩; intro wS hSw; have e0S := cell_later hSw E0.out; have e1S := cell_later hSw E1.out; go_simp; try with_reducible rfl)
          simp only [Act.put, List.setIfInBounds_toArray, List.set_cons_zero, List.set_cons_succ]
          refine wpAnyH_take (i := 37) (oi := ⟨_, _, _, _, _, _⟩) (v := ?v36) rfl (by kernel_rfl) (by kernel_rfl) (by kernel_rfl) (fun _ _ _ h => h) ?y36 hS ?_
          case y36 => first | (refine Or.inr ⟨by rfl, ?_⟩; with_reducible rfl) | (refine Or.inl ⟨by rfl, ?_⟩; intro wS hSw; have e0S := cell_later hSw E0.out; have e1S := cell_later hSw E1.out; go_simp; try with_reducible rfl)
          simp only [Act.put, List.setIfInBounds_toArray, List.set_cons_zero, List.set_cons_succ]
          refine wpAnyH_ready (rs := [27]) (by kernel_rfl) (by simp) ?_
          refine AllReadyH.cons (o := ⟨_, _, _, _, _, _⟩) rfl (fun K hK => ?_) AllReadyH.nil
          go_simp
          refine hK.out _ _ (hS.alloc hS.size _) (fun _ => ?_)
          clear hK K
          try simp only [Act.put, List.setIfInBounds_toArray, List.set_cons_zero, List.set_cons_succ]
          have hSa := hS.alloc hS.size (.cells #[.int .i64 (endA i), .int .i64 (endA i)] 24 (0, 0))
          have hQ := prs_one (p := (endA i, endA i)) (one_new wx (.cells #[.int .i64 (endA i), .int .i64 (endA i)] 24 (0, 0))).2
          refine wpAnyH_ready (rs := [38]) (by kernel_rfl) (by simp) ?_
          refine AllReadyH.cons (o := ⟨_, _, _, _, _, _⟩) rfl (fun K hK => ?_) AllReadyH.nil
          go_simp
          refine (HG2.out _ _ hSa hQ).mono ?_
          rintro e wy ⟨rfl, hby⟩
          have hSy : Below u.heap.size u wy := hSa.trans (hby.mono hSa.size)
          go_wp2_with fail
          refine hK.out _ _ (hSy) (fun _ => ?_)
          clear hK K
          try simp only [Act.put, List.setIfInBounds_toArray, List.set_cons_zero, List.set_cons_succ]
          refine wpAnyH_take (i := 39) (oi := ⟨_, _, _, _, _, _⟩) (v := ?v37) rfl (by kernel_rfl) (by kernel_rfl) (by kernel_rfl) (fun _ _ _ h => h) ?y37 hSy ?_
          case y37 => first | (refine Or.inr ⟨by rfl, ?_⟩; with_reducible rfl) | (refine Or.inl ⟨by rfl, ?_⟩; intro wS hSw; go_simp; try with_reducible rfl)
          simp only [Act.put, List.setIfInBounds_toArray, List.set_cons_zero, List.set_cons_succ]
          refine wpAnyH_take (i := 40) (oi := ⟨_, _, _, _, _, _⟩) (v := ?v38) rfl (by kernel_rfl) (by kernel_rfl) (by kernel_rfl) (fun _ _ _ h => h) ?y38 hSy ?_
          case y38 => first | (refine Or.inr ⟨by rfl, ?_⟩; with_reducible rfl) | (refine Or.inl ⟨by rfl, ?_⟩; intro wS hSw; go_simp; try with_reducible rfl)
          simp only [Act.put, List.setIfInBounds_toArray, List.set_cons_zero, List.set_cons_succ]
          refine wpAnyH_done (by kernel_rfl) ?_ _
          have HSy := Lib.hid (HBu.out.trans (hSy.mono HBu.out.size))
          have HE6 := Lib.hid ((hSy.block _ (lt_of_block HE5.out)).trans HE5.out)
          have HR6 := Lib.hid (HR5.out.later hSy)
          clear hSy hSa hQ hS
          go_wp2_with fail
          go_roundw
          case rel => exact ⟨l ++ [⟨true, endA i, endA j, [], .slice none 0 0, 0⟩], i + 1, by omega, by simp [Hli.out], by go_num, HR6.out, HE6.out, HSy.out⟩
          case measure => simp [intOf]; omega
        · have hi4' : ¬ (i : Int) < 4 := by omega
          clear hi4 hi
          go_wp2_with fail
          refine (st_new wr wr.heap.size (Nat.le_refl _)).mono ?_
          rintro e w1 ⟨rfl, hst, hb1⟩
          have HB1 := Lib.hid (Hb2.out.trans (hb1.mono Hb2.out.size))
          have HSt := Lib.hid hst
          obtain ⟨b2, hb2e⟩ : ∃ b2, b2 = wr.heap.size := ⟨_, rfl⟩
          rw [← hb2e] at HSt ⊢
          clear hst hb1 hb2e HRow HE2 Hb2
          go_upto_region 32 with (fail)
          obtain ⟨ha1, hx1⟩ := one_new w1 (.cells #[.pointer (some ⟨b2 + 1, 0, none⟩), .int .i64 0, .int .i64 0, .int .i64 0, .slice none 0 0, .slice none 0 0, .slice none 0 0, .bool true] 35 (0, 0))
          obtain ⟨ha2, hx2⟩ := one_new (w1.alloc (.cells #[.pointer (some ⟨b2 + 1, 0, none⟩), .int .i64 0, .int .i64 0, .int .i64 0, .slice none 0 0, .slice none 0 0, .slice none 0 0, .bool true] 35 (0, 0))) (.cells #[.slice none 0 0, .map none] 67 (0, 0))
          obtain ⟨ha3, hx3⟩ := one_new ((w1.alloc (.cells #[.pointer (some ⟨b2 + 1, 0, none⟩), .int .i64 0, .int .i64 0, .int .i64 0, .slice none 0 0, .slice none 0 0, .slice none 0 0, .bool true] 35 (0, 0))).alloc (.cells #[.slice none 0 0, .map none] 67 (0, 0))) (.cells #[.pointer none, .pointer (some ⟨w1.heap.size + 1, 0, none⟩)] 28 (0, 0))
          have hs1 : (w1.alloc (.cells #[.pointer (some ⟨b2 + 1, 0, none⟩), .int .i64 0, .int .i64 0, .int .i64 0, .slice none 0 0, .slice none 0 0, .slice none 0 0, .bool true] 35 (0, 0))).heap.size = w1.heap.size + 1 := by simp
          have hs2 : ((w1.alloc (.cells #[.pointer (some ⟨b2 + 1, 0, none⟩), .int .i64 0, .int .i64 0, .int .i64 0, .slice none 0 0, .slice none 0 0, .slice none 0 0, .bool true] 35 (0, 0))).alloc (.cells #[.slice none 0 0, .map none] 67 (0, 0))).heap.size = w1.heap.size + 2 := by simp
          have hba := (ha1.trans (ha2.mono (by rw [hs1]; omega))).trans (ha3.mono (by rw [hs2]; omega))
          have hy1 := (ha3.block _ (lt_of_block ((ha2.block _ (lt_of_block hx1)).trans hx1))).trans ((ha2.block _ (lt_of_block hx1)).trans hx1)
          have hy2 := (ha3.block _ (lt_of_block hx2)).trans hx2
          rw [hs1] at hy2
          rw [hs2] at hx3
          refine gen_world (S := fun u => Below w1.heap.size w1 u ∧ u.heap[w1.heap.size]? = some (.cells #[.pointer (some ⟨b2 + 1, 0, none⟩), .int .i64 0, .int .i64 0, .int .i64 0, .slice none 0 0, .slice none 0 0, .slice none 0 0, .bool true] 35 (0, 0)) ∧ u.heap[w1.heap.size + 1]? = some (.cells #[.slice none 0 0, .map none] 67 (0, 0)) ∧ u.heap[w1.heap.size + 2]? = some (.cells #[.pointer none, .pointer (some ⟨w1.heap.size + 1, 0, none⟩)] 28 (0, 0))) ⟨hba, hy1, hy2, hx3⟩ (fun u hu => ?_)
          obtain ⟨hbu, hu1, hu2, hu3⟩ := hu
          have HBu := Lib.hid (HB1.out.trans (hbu.mono HB1.out.size))
          have HSu := Lib.hid (HSt.out.later hbu)
          obtain ⟨N, hN⟩ : ∃ N, N = w1.heap.size := ⟨_, rfl⟩
          rw [← hN] at hu1 hu2 hu3 ⊢
          have HU1 := Lib.hid hu1
          have HU2 := Lib.hid hu2
          have HU3 := Lib.hid hu3
          clear hbu hu1 hu2 hu3 ha1 ha2 ha3 hx1 hx2 hx3 hs1 hs2 hba hy1 hy2 hN HSt HB1
          go_wp2_with fail
          go_loopw [12] (fun v12 wq => ∃ i : Nat, i ≤ 2 ∧ v12 = .int .i64 i ∧ Below u.heap.size u wq) (fun i _ => 2 - (intOf i).toNat)
          case atStart => exact ⟨0, by omega, rfl, Below.refl _ _⟩
          case round =>
            obtain ⟨i2, hi2, rfl, hbel⟩ := hrel
            have Hbel := Lib.hid hbel
            obtain ⟨n0, n1⟩ := two_box ((hbel.block _ (lt_of_block HU3.out)).trans HU3.out)
            clear hbel
            by_cases hlt2 : i2 < 2
            · have hlt3 : (i2 : Int) < 2 := by omega
              have hw6 : IntKind.i64.wrap ((i2 : Int) + 1) = (i2 : Int) + 1 := IntWalk.i64_in _ (by omega)
              have Hlt2 := Lib.hid hlt2
              by_cases h0 : i2 = 0
              · have nc : wr.cell? ⟨N + 2, i2, none⟩ = some (.pointer none) := by rw [h0]; exact n0
                clear h0 n0 n1 hlt2 hi2
                go_wp2_with fail
                refine (grow_nil wr (fun wq _ => made_nil wq)).mono ?_
                rintro e w5 ⟨rfl, hb5⟩
                have HB5 := Lib.hid (Hbel.out.trans (hb5.mono Hbel.out.size))
                clear hb5
                go_wp2_with fail
                go_roundw
                case rel => exact ⟨i2 + 1, Hlt2.out, by go_num, HB5.out.alloc HB5.out.size _⟩
                case measure => have := Hlt2.out; simp [intOf]; omega
              · have h1 : i2 = 1 := by omega
                have nc : wr.cell? ⟨N + 2, i2, none⟩ = some (.pointer (some ⟨N + 1, 0, none⟩)) := by rw [h1]; exact n1
                have hz2 := (Hbel.out.block _ (lt_of_block HU2.out)).trans HU2.out
                have HZ2 := Lib.hid hz2
                clear h0 h1 n0 n1 hlt2 hi2 hz2
                go_wp2_with fail
                refine (grow_nil wr (fun wq hb => made_zero wq ((hb.block _ (lt_of_block HZ2.out)).trans HZ2.out))).mono ?_
                rintro e w5 ⟨rfl, hb5⟩
                have HB5 := Lib.hid (Hbel.out.trans (hb5.mono Hbel.out.size))
                clear hb5
                go_wp2_with fail
                go_roundw
                case rel => exact ⟨i2 + 1, Hlt2.out, by go_num, HB5.out.alloc HB5.out.size _⟩
                case measure => have := Hlt2.out; simp [intOf]; omega
            · have hlt3 : ¬ (i2 : Int) < 2 := by omega
              clear hlt2 hi2 n0 n1
              go_wp2_with fail
              refine (grow_nobody wr).mono ?_
              rintro e w5 ⟨rfl, hb5⟩
              have HB5 := Lib.hid (Hbel.out.trans (hb5.mono Hbel.out.size))
              clear hb5
              go_upto_region 39 with (fail)
              refine gen_world (S := fun v => Below w5.heap.size w5 v) (one_new w5 _).1 (fun u6 hb6 => ?_)
              have HB6 := Lib.hid (HB5.out.trans (hb6.mono HB5.out.size))
              clear hb6
              have s5 := ((block_cell' ((HB6.out.block _ (lt_of_block HU1.out)).trans HU1.out) 5).1).trans (show _ = some (.slice none 0 0) from rfl)
              go_wp2_with fail
              refine (st_len u6 (HSu.out.later HB6.out)).mono ?_
              rintro e w7 ⟨rfl, rfl⟩
              go_wp2_with fail
              refine (awake_any u6).mono ?_
              rintro e w8 ⟨rfl, hb8⟩
              have HB8 := Lib.hid ((HBu.out.trans (HB6.out.mono HBu.out.size)).trans (hb8.mono (HBu.out.trans (HB6.out.mono HBu.out.size)).size))
              clear hb8
              go_wp2
              go_ret
              exact ⟨rfl, HB8.out⟩
end Go.Proofs.Ytebgleehmgmfbaa
