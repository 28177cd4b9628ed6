/-
  Chapter 01: same, awake: the chapter's example.
-/
import Derived.Test.YtchjlgmnfepedaaDoorRuns
namespace Go.Proofs.YtchjlgmnfepedaaDoor
open Go.RowKit Go.Lib Go.Shelf

/-- a slice of runs. -/
def PairsAt (w : World) (v : Value) (o : List (Nat × Nat)) : Prop :=
  ∃ ao b off cap, v = .slice ao o.length cap ∧ o.length ≤ cap ∧ cap ≤ maxLen ∧ (ao = none → o.length = 0 ∧ cap = 0) ∧ (0 < o.length → ao = some ⟨b, off, none⟩ ∧ b < w.heap.size) ∧
    ∀ k (h : k < o.length), w.cell? ⟨b, off + k * 2, none⟩ = some (.int .u8 (o[k].1 : Int)) ∧ w.cell? ⟨b, off + k * 2 + 1, none⟩ = some (.int .u8 (o[k].2 : Int))
theorem PairsAt.later {w w' : World} {v : Value} {o : List (Nat × Nat)} (h : PairsAt w v o) (hb : Below w.heap.size w w') : PairsAt w' v o := by
  obtain ⟨ao, b, off, cap, rfl, hl, hm, hnil, hao, hc⟩ := h
  refine ⟨ao, b, off, cap, rfl, hl, hm, hnil, fun h => ⟨(hao h).1, Nat.lt_of_lt_of_le (hao h).2 hb.size⟩, fun k hk => ?_⟩
  exact ⟨cell_later hb (hc k hk).1, cell_later hb (hc k hk).2⟩
theorem rcells_get {o : List (Nat × Nat)} {k : Nat} (hk : k < o.length) : (rcells o)[k * 2]? = some (.int .u8 (o[k].1 : Int)) ∧ (rcells o)[k * 2 + 1]? = some (.int .u8 (o[k].2 : Int)) := by
  have hd : o = o.take k ++ [o[k]] ++ o.drop (k + 1) := by
    rw [← List.take_succ_eq_append_getElem hk, List.take_append_drop]
  have hl : (rcells (o.take k)).length = k * 2 := by rw [rcells_len, List.length_take, Nat.min_eq_left (by omega)]
  have he : rcells o = rcells (o.take k) ++ ([.int .u8 (o[k].1 : Int), .int .u8 (o[k].2 : Int)] ++ rcells (o.drop (k + 1))) := by
    have h1 : rcells (o.take k ++ [o[k]] ++ o.drop (k + 1)) = rcells (o.take k) ++ ([.int .u8 (o[k].1 : Int), .int .u8 (o[k].2 : Int)] ++ rcells (o.drop (k + 1))) := by
      unfold rcells
      rw [List.flatMap_append, List.flatMap_append]
      simp only [List.flatMap_cons, List.flatMap_nil, List.append_nil, List.append_assoc]
    rw [← h1, ← hd]
  constructor
  · rw [he, List.getElem?_append_right (by omega), hl, Nat.sub_self]; rfl
  · rw [he, List.getElem?_append_right (by omega), hl, Nat.add_sub_cancel_left]; rfl
theorem pairs_own {w : World} {base : Nat} {v : Value} {o : List (Nat × Nat)} (h : w.ownsRow base 33 2 v o.length (rcells o)) : PairsAt w v o := by
  rcases h.2 with ⟨rfl, h0⟩ | ⟨g, cap, cur, rfl, hb, hg, hnc, hcm, hcs, ht⟩
  · exact ⟨none, 0, 0, 0, by rw [h0], by omega, by unfold maxLen; omega, fun _ => ⟨h0, rfl⟩, fun h => by omega, fun k hk => by omega⟩
  · refine ⟨_, g, 0, cap, rfl, hnc, hcm, (fun h => by cases h), fun _ => ⟨rfl, lt_of_block hg⟩, fun k hk => ?_⟩
    rw [Nat.zero_add]
    exact ⟨(own_cell h (rcells_get hk).1).1, (own_cell h (rcells_get hk).2).1⟩

theorem class_Runs' (w : World) (s : Nat → Bool) (hT : Tab w) :
    Calls Tryd.prog 17 #[clv s] w fun e W' => ∃ v, e = .returned v ∧ PairsAt W' v (runsOf (els s 256)) ∧ Below w.heap.size w W' :=
  (class_Runs w s hT).mono fun e W' ⟨v, he, hr, hb⟩ => ⟨v, he, pairs_own hr, hb⟩
theorem eqp_any (n : Nat) (w : World) (a0 a1 b0 b1 : Int) : (Op.equalIn (n + 2) 33 (.agg #[.int .u8 a0, .int .u8 a1]) (.agg #[.int .u8 b0, .int .u8 b1])).run Tryd.prog w = .ok (a0 == b0 && a1 == b1) w := by
  have u3 := Tryd.underlying5
  rw [show n + 2 = (n + 1) + 1 from rfl, Op.equalIn]
  simp only [Sem.run_bind, run_underlying Tryd.underlying33, Result.andThen_ok]
  simp only [Std.Legacy.Range.forIn_eq_forIn_range', Std.Legacy.Range.size, Nat.sub_zero, Nat.add_sub_cancel, Nat.div_one, List.range'_succ, List.range'_zero, List.forIn_cons, List.forIn_nil]
  go_simp
  by_cases h0 : a0 = b0 <;> by_cases h1 : a1 = b1 <;> simp [h0, h1]
theorem eqp_same (w : World) (a0 a1 : Int) : (Op.equalIn 10000 33 (.agg #[.int .u8 a0, .int .u8 a1]) (.agg #[.int .u8 a0, .int .u8 a1])).run Tryd.prog w = .ok true w := by
  have := eqp_any 9998 w a0 a1 a0 a1
  simpa using this

set_option maxHeartbeats 1000000 in
theorem same_true (w : World) (u v : Value) (o : List (Nat × Nat)) (hu : PairsAt w u o) (hv : PairsAt w v o) :
    Calls Tryd.prog 21 #[u, v] w fun e w' => e = .returned (.bool true) ∧ Below w.heap.size w w' := by
  have HU := Lib.hid hu
  have HV := Lib.hid hv
  obtain ⟨ao1, b1, off1, cap1, rfl, hl1, hm1, hn1, ha1, hc1⟩ := hu
  obtain ⟨ao2, b2, off2, cap2, rfl, hl2, hm2, hn2, ha2, hc2⟩ := hv
  clear hn1 hn2 ha1 ha2 hc1 hc2
  have hll : o.length ≤ 9223372036854775807 := by unfold maxLen at hm1; omega
  go_enter Tryd.func21, Tryd.ntmps21
  go_wp2
  go_loopw [5] (fun i wr => ∃ k : Nat, k ≤ o.length ∧ i = .int .i64 k ∧ Below w.heap.size w wr) (fun i _ => o.length - (intOf i).toNat)
  case atStart => exact ⟨0, by omega, rfl, Below.refl _ _⟩
  case round =>
    obtain ⟨k, hk, rfl, hb⟩ := hrel
    by_cases hlt : k < o.length
    · obtain ⟨ao1', b1', off1', cap1', he1, _, _, _, ha1, hc1⟩ := HU.out.later hb
      simp only [Value.slice.injEq, true_and] at he1
      obtain ⟨rfl, rfl⟩ := he1
      obtain ⟨rfl, hb1⟩ := ha1 (by omega)
      obtain ⟨ao2', b2', off2', cap2', he2, _, _, _, ha2, hc2⟩ := HV.out.later hb
      simp only [Value.slice.injEq, true_and] at he2
      obtain ⟨rfl, rfl⟩ := he2
      obtain ⟨rfl, hb2⟩ := ha2 (by omega)
      obtain ⟨x1, x2⟩ := hc1 k hlt
      obtain ⟨y1, y2⟩ := hc2 k hlt
      have HB := Lib.hid hb
      clear hc1 hc2 ha1 ha2 hb
      have hltI : (k : Int) < o.length := by omega
      have hE := fun w => eqp_same w (o[k].1 : Int) (o[k].2 : Int)
      go_wp2
      go_region
      go_wp2
      exact ⟨⟨k + 1, by omega, by go_num, ⟨HB.out.os, HB.out.tape, HB.out.output, HB.out.size, HB.out.block⟩⟩, by simp [intOf]; omega⟩
    · obtain rfl : k = o.length := by omega
      have hlt' : ¬ (o.length : Int) < o.length := by omega
      go_wp2
      go_ret
      exact ⟨rfl, hb⟩

theorem bytes_new4 (w : World) : BytesAt (w.alloc (.cells #[.int .u8 120, .int .u8 98, .int .u8 97, .int .u8 99] 5)) (.slice (some ⟨w.heap.size, 0, none⟩) 4 4) [120, 98, 97, 99] := by
  refine ⟨_, w.heap.size, 0, 4, rfl, by simp, by unfold maxLen; omega, (fun h => by cases h), fun _ => rfl, fun k hk => ?_⟩
  rw [Nat.zero_add, cell_alloc_new]
  match k, hk with
  | 0, _ => rfl
  | 1, _ => rfl
  | 2, _ => rfl
  | 3, _ => rfl
theorem pairs_new2 (w : World) : PairsAt (w.alloc (.cells #[.int .u8 97, .int .u8 99, .int .u8 120, .int .u8 120] 33)) (.slice (some ⟨w.heap.size, 0, none⟩) 2 2) [(97, 99), (120, 120)] := by
  refine ⟨_, w.heap.size, 0, 2, rfl, by simp, by unfold maxLen; omega, (fun h => by cases h), fun _ => ⟨rfl, by simp⟩, fun k hk => ?_⟩
  rw [Nat.zero_add, cell_alloc_new, cell_alloc_new]
  match k, hk with
  | 0, _ => exact ⟨rfl, rfl⟩
  | 1, _ => exact ⟨rfl, rfl⟩
theorem runs_awake : runsOf (els (clOf [120, 98, 97, 99]) 256) = [(97, 99), (120, 120)] := by decide +kernel
theorem runs_awake2 : (runsOf (els (clNot (clOf [120, 98, 97, 99])) 256)).length = 3 := by decide +kernel

set_option maxHeartbeats 1000000 in
theorem awake_any (w : World) (hT : Tab w) :
    Calls Tryd.prog 6 #[] w fun e w' => e = .returned (.bool true) ∧ Below w.heap.size w w' := by
  have hpos := hT.pos
  obtain ⟨S, hS⟩ : ∃ S, S = clOf [120, 98, 97, 99] := ⟨_, rfl⟩
  have r1 := runs_awake
  have r2 := runs_awake2
  have hof := fun w => class_Of (w.alloc (.cells #[.int .u8 120, .int .u8 98, .int .u8 97, .int .u8 99] 5)) [120, 98, 97, 99] _ (bytes_new4 w)
  rw [← hS] at r1 r2
  rw [← hS] at hof
  have HOF := Lib.hid (hof w)
  have R1 := Lib.hid r1
  have R2 := Lib.hid r2
  have HT := Lib.hid hT
  clear hof hS r1 r2 hT
  go_enter Tryd.func6, Tryd.ntmps6
  go_wp2_with fail
  refine HOF.out.mono ?_
  rintro e w1 ⟨rfl, hb⟩
  have hb1 : Below w.heap.size w w1 := ((Below.refl _ _).alloc (Nat.le_refl _) _).trans (hb.mono (by simp))
  have HB1 := Lib.hid hb1
  clear hb hb1 HOF
  unfold clv clc
  go_wp2_with fail
  have hbc : Below w.heap.size w (w1.alloc (.cells #[.int .u64 (word S 0), .int .u64 (word S 1), .int .u64 (word S 2), .int .u64 (word S 3)] 24)) := HB1.out.alloc HB1.out.size _
  have hnew := heap_alloc_new w1 (.cells #[.int .u64 (word S 0), .int .u64 (word S 1), .int .u64 (word S 2), .int .u64 (word S 3)] 24)
  generalize w1.alloc (.cells #[.int .u64 (word S 0), .int .u64 (word S 1), .int .u64 (word S 2), .int .u64 (word S 3)] 24) = w2 at hbc hnew ⊢
  refine (class_Runs' w2 S (HT.out.below hpos hbc)).mono ?_
  rintro e w3 ⟨v, rfl, hp, hb⟩
  rw [R1.out] at hp
  have hn2 := lt_of_block hnew
  have hnew3 := (hb.block _ hn2).trans hnew
  have hbc3 := hbc.trans (hb.mono hbc.size)
  have HP := Lib.hid hp
  have HN := Lib.hid hnew3
  have HB3 := Lib.hid hbc3
  clear hp hnew hbc hb hnew3 hbc3 HB1
  go_wp2_with fail
  have hbc4 := HB3.out.alloc HB3.out.size (.cells #[.int .u8 97, .int .u8 99, .int .u8 120, .int .u8 120] 33)
  have hp4 := HP.out.later ((Below.refl w3.heap.size w3).alloc (Nat.le_refl _) (.cells #[.int .u8 97, .int .u8 99, .int .u8 120, .int .u8 120] 33))
  refine (same_true _ v _ _ hp4 (pairs_new2 w3)).mono ?_
  rintro e w5 ⟨rfl, hb⟩
  have hbc5 := hbc4.trans (hb.mono hbc4.size)
  have hn5 := (hb.block w1.heap.size (by simp; have := lt_of_block HN.out; omega)).trans ((Below.heap_alloc _ _ _ (lt_of_block HN.out)).trans HN.out)
  obtain ⟨c0, c1, c2, c3⟩ := cls_cells hn5
  have HB5 := Lib.hid hbc5
  clear hbc5 hb hp4 hbc4 HB3 HP HN hn5
  go_wp2_with fail
  refine (class_Not w5 S).mono ?_
  rintro e w6 ⟨rfl, hb⟩
  have HB6 := Lib.hid (HB5.out.trans (hb.mono HB5.out.size))
  clear hb HB5
  go_wp2_with fail
  refine (class_Runs' w6 (clNot S) (HT.out.below hpos HB6.out)).mono ?_
  rintro e w7 ⟨v2, rfl, hp, hb⟩
  have HB7 := Lib.hid (HB6.out.trans (hb.mono HB6.out.size))
  obtain ⟨ao, b7, o7, cap7, rfl, -, -, -, -, -⟩ := hp
  rw [R2.out]
  clear hb
  go_wp2
  go_ret
  exact ⟨rfl, HB7.out⟩
end Go.Proofs.YtchjlgmnfepedaaDoor
