/-
  Package class: From.
-/
import Derived.Test.YtchjlgmnfepedaaDoorAwake
import Derived.Test.YtchjlgmnfepedaaDoorMore
namespace Go.Proofs.YtchjlgmnfepedaaDoor
open Go.RowKit Go.Lib

theorem range_nat (w : World) (a b : Nat) (ha : a < 256) (hb : b < 256) :
    Calls Tryd.prog 16 #[.int .u8 (a : Int), .int .u8 (b : Int)] w fun e w' => e = .returned (clv (clRange a b)) ∧ Below w.heap.size w w' := by
  have h := class_Range w (UInt8.ofNat a) (UInt8.ofNat b)
  rw [UInt8.toNat_ofNat', UInt8.toNat_ofNat', Nat.mod_eq_of_lt (by omega), Nat.mod_eq_of_lt (by omega)] at h
  exact h
theorem inRuns_take (o : List (Nat × Nat)) {k : Nat} (h : k < o.length) : inRuns (o.take (k + 1)) = clOr (inRuns (o.take k)) (clRange o[k].1 o[k].2) := by
  funext b
  rw [List.take_succ_eq_append_getElem h, inRuns_append, show [o[k]] = [(o[k].1, o[k].2)] from rfl, inRuns_one]
  rfl

set_option maxHeartbeats 1000000 in
theorem class_From (w : World) (v : Value) (o : List (Nat × Nat)) (hv : PairsAt w v o) (h256 : ∀ r ∈ o, r.1 < 256 ∧ r.2 < 256) :
    Calls Tryd.prog 13 #[v] w fun e w' => e = .returned (clv (inRuns o)) ∧ Below w.heap.size w w' := by
  have HV := Lib.hid hv
  have H2 := Lib.hid h256
  clear h256
  obtain ⟨ao, b, off, cap, rfl, hl, hm, hnil, hao, hc⟩ := hv
  clear hnil hao hc
  have hll : o.length ≤ 9223372036854775807 := by unfold maxLen at hm; omega
  go_enter Tryd.func13, Tryd.ntmps13
  go_wp2
  go_loopw [8] (fun i wr => ∃ k : Nat, k ≤ o.length ∧ i = .int .i64 k ∧ wr.heap[w.heap.size + 1]? = some (.cells (clc (inRuns (o.take k))) 46 (0, 0)) ∧ wr.heap[w.heap.size]? = some (.cells #[.int .u64 0, .int .u64 0, .int .u64 0, .int .u64 0] 24 (0, 0)) ∧ Below w.heap.size w wr) (fun i _ => o.length - (intOf i).toNat)
  case atStart =>
    refine ⟨0, by omega, rfl, ?_, heap_alloc2_old _ _ _, ((Below.refl _ _).alloc (Nat.le_refl _) _).alloc (by simp) _⟩
    rw [show inRuns (o.take 0) = clNone from rfl, clc_none]
    exact heap_alloc2_new _ _ _
  case round =>
    obtain ⟨k, hk, rfl, hh, hr, hb⟩ := hrel
    by_cases hlt : k < o.length
    · obtain ⟨ao', b', off', cap', he, _, _, _, hao, hc⟩ := HV.out.later hb
      simp only [Value.slice.injEq, true_and] at he
      obtain ⟨rfl, rfl⟩ := he
      obtain ⟨rfl, hbl⟩ := hao (by omega)
      obtain ⟨c1, c2⟩ := hc k hlt
      obtain ⟨ra, rb⟩ := H2.out o[k] (List.getElem_mem hlt)
      have HH := Lib.hid hh
      have HR := Lib.hid hr
      have HB := Lib.hid hb
      have HL := Lib.hid hlt
      clear hh hr hb hc hao
      have hltI : (k : Int) < o.length := by omega
      have hws : w.heap.size + 1 < wr.heap.size := lt_of_block HH.out
      have HG := Lib.hid (range_nat (wr.alloc (.cells #[.int .u8 (o[k].1 : Int), .int .u8 (o[k].2 : Int)] 33)) _ _ ra rb)
      go_wp2_with fail
      refine HG.out.mono ?_
      rintro e w2 ⟨rfl, hb2⟩
      have hb3 := (HB.out.alloc HB.out.size (.cells #[.int .u8 (o[k].1 : Int), .int .u8 (o[k].2 : Int)] 33)).trans (hb2.mono (HB.out.alloc HB.out.size _).size)
      have hh2 := (hb2.block _ (by simp; omega)).trans ((heap_alloc_old _ _ hws).trans HH.out)
      have hr2 := (hb2.block _ (by simp; omega)).trans ((heap_alloc_old _ _ (by omega)).trans HR.out)
      have HH2 := Lib.hid hh2
      have HR2 := Lib.hid hr2
      have HB2 := Lib.hid hb3
      clear hh2 hr2 hb2 hb3 HG
      go_wp2_with fail
      refine (set_or w2 _ 46 (inRuns (o.take k)) (clRange o[k].1 o[k].2) HH2.out).mono ?_
      rintro e w3 ⟨rfl, h1, h2⟩
      go_wp2
      go_roundw
      case rel =>
        refine ⟨k + 1, by omega, by go_num, ?_, ?_, HB2.out.trans (h2.below HB2.out.size (fun k hk => by omega))⟩
        · rw [inRuns_take _ HL.out]; exact h1
        · rw [h2.block _ (lt_of_block HR2.out) (by omega)]; exact HR2.out
      case measure => simp [intOf]; omega
    · obtain rfl : k = o.length := by omega
      rw [List.take_length] at hh
      obtain ⟨c0, c1, c2, c3⟩ := cls_cells hh
      obtain ⟨⟨r0, f0⟩, ⟨r1, f1⟩, ⟨r2, f2⟩, ⟨r3, f3⟩⟩ := four_cells hr
      have HR := Lib.hid hr
      clear hr hh
      have hlt' : ¬ (o.length : Int) < o.length := by omega
      go_wp2
      have hst := store4 (u0 := .int .u64 (word (inRuns o) 0)) (u1 := .int .u64 (word (inRuns o) 1)) (u2 := .int .u64 (word (inRuns o) 2)) (u3 := .int .u64 (word (inRuns o) 3)) HR.out
      refine bodyPost_ret (results_cell_row rfl _ _ w.heap.size _ _ _ _ rfl hst Tryd.und_class rfl Tryd.size_class) rfl ⟨rfl, ?_⟩
      exact (((((Keeps.ofBelow hb).setCell (by simp) _).setCell (by simp) _).setCell (by simp) _).setCell (by simp) _).below (Nat.le_refl _) (fun k hk => hk)
end Go.Proofs.YtchjlgmnfepedaaDoor
