/-
  Package seedlingref01: Not, Range, And, From: the document's answers.
-/
import Derived.Test.YtchjlgmnfepedaaDoorRefo
import Derived.Test.YtchjlgmnfepedaaDoorFrom
import Derived.Deep.AppendLies
namespace Go.Proofs.YtchjlgmnfepedaaDoor
open Go.RowKit Go.Lib

/-- a row of truths, one of them written. -/
theorem truths_set {p q : Nat → Bool} {b : Nat} (hb : b < 256) {v : Bool} (hq : q b = v) (ho : ∀ i, i < 256 → i ≠ b → q i = p i) : (truths p).toArray.setIfInBounds b (.bool v) = (truths q).toArray := by
  apply Array.ext
  · simp [truths_len]
  · intro i h1 h2
    have hi : i < 256 := by simpa [truths_len] using h2
    have e1 := truths_get q hi
    have e2 := truths_get p hi
    rw [List.getElem?_eq_getElem (by rw [truths_len]; exact hi), Option.some.injEq] at e1 e2
    by_cases h : b = i
    · subst h
      rw [Array.getElem_setIfInBounds_self]
      simp only [List.getElem_toArray]
      rw [e1, hq]
    · rw [Array.getElem_setIfInBounds_ne (by simpa [truths_len] using hi) h]
      simp only [List.getElem_toArray]
      rw [e1, e2, ho i hi (fun e => h e.symm)]
theorem clTo_step (p : Nat → Bool) (k : Nat) : ∀ i, i < 256 → i ≠ k → clTo p (k + 1) i = clTo p k i := fun i _ h => by
  unfold clTo
  have : (i < k + 1) ↔ i < k := by omega
  simp [this]
theorem clTo_at (p : Nat → Bool) (k : Nat) : clTo p (k + 1) k = p k := by simp [clTo]
theorem rhas_nat (w : World) (s : Nat → Bool) (b : Nat) (hb : b < 256) (x : Bool) (hx : s b = x) :
    Calls Tryd.prog 23 #[.agg #[.int .u64 (word s 0), .int .u64 (word s 1), .int .u64 (word s 2), .int .u64 (word s 3)], .int .u8 (b : Int)] w fun e w' => e = .returned (.bool x) ∧ Below w.heap.size w w' := by
  have h := ref_Has w s (UInt8.ofNat b)
  rw [UInt8.toNat_ofNat', Nat.mod_eq_of_lt (by omega), hx] at h
  exact h

set_option maxRecDepth 100000 in
set_option maxHeartbeats 1000000 in
theorem ref_Not (w : World) (s : Nat → Bool) :
    Calls Tryd.prog 8 #[clv s] w fun e w' => e = .returned (clv (clNot s)) ∧ Below w.heap.size w w' := by
  have hmk := make_truths
  unfold clv
  have hA0 := heap_alloc_new w (.cells (clc s) 24)
  have hA1 := (heap_alloc_old _ (.cells #[.int .u64 0, .int .u64 0, .int .u64 0, .int .u64 0] 24) (lt_of_block hA0)).trans hA0
  have hA := (heap_alloc_old _ (.cells (truths clNone).toArray 4) (lt_of_block hA1)).trans hA1
  have HA := Lib.hid hA
  clear hA0 hA1 hA
  unfold clc at *
  go_enter Tryd.func8, Tryd.ntmps8
  go_wp2
  go_loopw [4] (fun i wr => ∃ k : Nat, k ≤ 256 ∧ i = .int .i64 k ∧ wr.heap[w.heap.size + 1 + 1]? = some (.cells (truths (clTo (clNot s) k)).toArray 4 (0, 0)) ∧ wr.heap[w.heap.size + 1]? = some (.cells #[.int .u64 0, .int .u64 0, .int .u64 0, .int .u64 0] 24 (0, 0)) ∧ wr.heap[w.heap.size]? = some (.cells (clc s) 24 (0, 0)) ∧ Below w.heap.size w wr) (fun i _ => 257 - (intOf i).toNat)
  case atStart =>
    refine ⟨0, by omega, rfl, ?_, ?_, HA.out, (((Below.refl _ _).alloc (Nat.le_refl _) _).alloc (by simp) _).alloc (by simp; omega) _⟩
    · rw [clTo_zero]
      have := heap_alloc_new ((w.alloc (.cells #[.int .u64 (word s 0), .int .u64 (word s 1), .int .u64 (word s 2), .int .u64 (word s 3)] 24)).alloc (.cells #[.int .u64 0, .int .u64 0, .int .u64 0, .int .u64 0] 24)) (.cells (truths clNone).toArray 4)
      simp only [World.size_alloc] at this
      exact this
    · have := heap_alloc_new (w.alloc (.cells #[.int .u64 (word s 0), .int .u64 (word s 1), .int .u64 (word s 2), .int .u64 (word s 3)] 24)) (.cells #[.int .u64 0, .int .u64 0, .int .u64 0, .int .u64 0] 24)
      have h2 := (heap_alloc_old _ (.cells (truths clNone).toArray 4) (lt_of_block this)).trans this
      simp only [World.size_alloc] at h2
      exact h2
  case round =>
    obtain ⟨k, hk, rfl, hh, hr, hs, hb⟩ := hrel
    have HH := Lib.hid hh
    have HR := Lib.hid hr
    have HS := Lib.hid hs
    have HB := Lib.hid hb
    by_cases hlt : k < 256
    · have hkI : (k : Int) < 256 := by omega
      obtain ⟨c0, c1, c2, c3⟩ := cls_cells hs
      have hconv : IntKind.u8.wrap (k : Int) = k := by rw [IntKind.wrap_u8']; omega
      obtain ⟨bv, hbv⟩ : ∃ bv, bv = s k := ⟨_, rfl⟩
      have HBv := Lib.hid hbv
      have HL := Lib.hid hlt
      clear hh hr hs hb hbv
      go_wp2_with fail
      refine (rhas_nat _ s k HL.out bv HBv.out.symm).mono ?_
      rintro e w2 ⟨rfl, hb⟩
      have hh2 := (hb.block _ (lt_of_block HH.out)).trans HH.out
      obtain ⟨e1, e2⟩ := truths_cell hh2 HL.out
      have HH2 := Lib.hid hh2
      have HR2 := Lib.hid ((hb.block _ (lt_of_block HR.out)).trans HR.out)
      have HS2 := Lib.hid ((hb.block _ (lt_of_block HS.out)).trans HS.out)
      have HB2 := Lib.hid (HB.out.trans (hb.mono HB.out.size))
      clear hh2 hb
      go_wp2
      go_roundw
      case rel =>
        refine ⟨k + 1, by omega, by go_num, ?_, ?_, ?_, HB2.out.setCell (p := ⟨w.heap.size + 1 + 1, k, none⟩) (by simp; omega) _⟩
        · rw [block_setCell' HH2.out, truths_set HL.out (q := clTo (clNot s) (k + 1)) (by rw [clTo_at, HBv.out]; rfl) (clTo_step _ _)]
        · rw [Below.heap_setCell _ _ _ _ (by simp)]; exact HR2.out
        · rw [Below.heap_setCell _ _ _ _ (by simp; omega)]; exact HS2.out
      case measure => simp [intOf]; omega
    · obtain rfl : k = 256 := by omega
      have hfin := HH.out
      rw [truths_congr (clTo_eq _)] at hfin
      have HF := Lib.hid hfin
      have hrl := lt_of_block hr
      clear hh hr hs hb hfin
      go_wp2_with (go_at_call 24; refine (ref_Set _ (clNot s) _ (truths_cells HF.out)).mono ?_; rintro e w' ⟨rfl, hb⟩; obtain ⟨⟨r0, f0⟩, ⟨r1, f1⟩, ⟨r2, f2⟩, ⟨r3, f3⟩⟩ := four_cells ((hb.block _ hrl).trans HR.out); simp only [clv, clc])
      have hst := store4 (u0 := .int .u64 (word (clNot s) 0)) (u1 := .int .u64 (word (clNot s) 1)) (u2 := .int .u64 (word (clNot s) 2)) (u3 := .int .u64 (word (clNot s) 3)) ((hb.block _ hrl).trans HR.out)
      refine bodyPost_ret (results_cell_row rfl _ _ (w.heap.size + 1) _ _ _ _ rfl hst Tryd.und_class rfl Tryd.size_class) rfl ⟨rfl, ?_⟩
      exact (((((Keeps.ofBelow (HB.out.trans (hb.mono HB.out.size))).setCell (by simp) _).setCell (by simp) _).setCell (by simp) _).setCell (by simp) _).below (Nat.le_refl _) (fun k hk => hk)

set_option maxRecDepth 100000 in
set_option maxHeartbeats 1000000 in
theorem ref_Range (w : World) (a b : Nat) (ha : a < 256) (hb' : b < 256) :
    Calls Tryd.prog 28 #[.int .u8 (a : Int), .int .u8 (b : Int)] w fun e w' => e = .returned (clv (clRange a b)) ∧ Below w.heap.size w w' := by
  have hmk := make_truths
  go_enter Tryd.func28, Tryd.ntmps28
  go_wp2
  go_loopw [6] (fun i wr => ∃ k : Nat, a ≤ k ∧ (k ≤ b + 1 ∨ k = a) ∧ i = .int .i64 k ∧ wr.heap[w.heap.size + 1]? = some (.cells (truths (clRangeTo a k)).toArray 4 (0, 0)) ∧ wr.heap[w.heap.size]? = some (.cells #[.int .u64 0, .int .u64 0, .int .u64 0, .int .u64 0] 24 (0, 0)) ∧ Below w.heap.size w wr) (fun i _ => 257 - (intOf i).toNat)
  case atStart =>
    refine ⟨a, by omega, by omega, by go_num, ?_, heap_alloc2_old _ _ _, ((Below.refl _ _).alloc (Nat.le_refl _) _).alloc (by simp) _⟩
    rw [show clRangeTo a a = clNone from by funext i; unfold clRangeTo clNone; rw [Bool.eq_iff_iff]; simp]
    exact heap_alloc2_new _ _ _
  case round =>
    obtain ⟨k, hak, hk, rfl, hh, hr, hb⟩ := hrel
    have HH := Lib.hid hh
    have HR := Lib.hid hr
    have HB := Lib.hid hb
    by_cases hlt : k ≤ b
    · have hltI : (k : Int) ≤ b := by omega
      have hk256 : k < 256 := by omega
      obtain ⟨e1, e2⟩ := truths_cell hh hk256
      clear hh hr hb
      go_wp2
      go_roundw
      case rel =>
        refine ⟨k + 1, by omega, by omega, by go_num, ?_, ?_, HB.out.setCell (p := ⟨w.heap.size + 1, k, none⟩) (by simp) _⟩
        · rw [clRangeTo_put _ _ hak, block_setCell' HH.out, truths_put _ hk256]
        · rw [Below.heap_setCell _ _ _ _ (by simp)]; exact HR.out
      case measure => simp [intOf]; omega
    · have hltI : ¬ (k : Int) ≤ b := by omega
      have hfin := HH.out
      rw [truths_congr (q := clRange a b) fun i hi => by
        unfold clRangeTo clRange
        rw [Bool.eq_iff_iff]
        simp only [Bool.and_eq_true, decide_eq_true_eq]
        omega] at hfin
      have HF := Lib.hid hfin
      have hrl := lt_of_block hr
      clear hh hr hb hfin
      go_wp2_with (go_at_call 24; refine (ref_Set _ (clRange a b) _ (truths_cells HF.out)).mono ?_; rintro e w' ⟨rfl, hb⟩; obtain ⟨⟨r0, f0⟩, ⟨r1, f1⟩, ⟨r2, f2⟩, ⟨r3, f3⟩⟩ := four_cells ((hb.block _ hrl).trans HR.out); simp only [clv, clc])
      have hst := store4 (u0 := .int .u64 (word (clRange a b) 0)) (u1 := .int .u64 (word (clRange a b) 1)) (u2 := .int .u64 (word (clRange a b) 2)) (u3 := .int .u64 (word (clRange a b) 3)) ((hb.block _ hrl).trans HR.out)
      refine bodyPost_ret (results_cell_row rfl _ _ w.heap.size _ _ _ _ rfl hst Tryd.und_class rfl Tryd.size_class) rfl ⟨rfl, ?_⟩
      exact (((((Keeps.ofBelow (HB.out.trans (hb.mono HB.out.size))).setCell (by simp) _).setCell (by simp) _).setCell (by simp) _).setCell (by simp) _).below (Nat.le_refl _) (fun k hk => hk)

theorem clFoldA_all (s : Nat → Bool) (l : List (Nat → Bool)) (b : Nat) : clFoldA s l b = (s b && l.all fun c => c b) := by
  induction l generalizing s with
  | nil => simp [clFoldA]
  | cons c l ih =>
    have h := ih (clAnd s c)
    simp only [clFoldA, List.foldl_cons] at h ⊢
    rw [h]
    simp [clAnd, Bool.and_assoc]
/-- the bytes below k, and k if it is in all of l. -/
def clUpA (p : Nat → Bool) (k : Nat) (l : List (Nat → Bool)) : Nat → Bool := fun b => (decide (b < k) && p b) || (b == k && l.all fun c => c k)
theorem clUpA_at (p : Nat → Bool) (k : Nat) (l : List (Nat → Bool)) : clUpA p k l k = l.all fun c => c k := by simp [clUpA]
theorem clUpA_step (p : Nat → Bool) (k : Nat) (l m : List (Nat → Bool)) : ∀ i, i < 256 → i ≠ k → clUpA p k l i = clUpA p k m i := fun i _ h => by
  have : (i == k) = false := by simpa using h
  simp [clUpA, this]
theorem clUpA_to (p : Nat → Bool) (k : Nat) (l : List (Nat → Bool)) : ∀ i, i < 256 → i ≠ k → clUpA p k l i = clTo p k i := fun i _ h => by
  have : (i == k) = false := by simpa using h
  simp [clUpA, clTo, this]
theorem clUpA_all (p : Nat → Bool) (k : Nat) (l : List (Nat → Bool)) (h : p k = l.all fun c => c k) : clUpA p k l = clTo p (k + 1) := by
  funext i
  unfold clUpA clTo
  rw [← h]
  by_cases hi : i = k
  · subst hi; simp
  · have h1 : (i == k) = false := by simpa using hi
    have h2 : (i < k + 1) ↔ i < k := by omega
    simp [h1, h2]
theorem all_take (l : List (Nat → Bool)) (k : Nat) {j : Nat} (h : j < l.length) : ((l.take (j + 1)).all fun c => c k) = (((l.take j).all fun c => c k) && l[j] k) := by
  rw [List.take_succ_eq_append_getElem h, List.all_append]
  simp

set_option maxRecDepth 100000 in
set_option maxHeartbeats 2000000 in
theorem ref_And (w : World) (l : List (Nat → Bool)) (v : Value) (hv : ClsAt w v l) :
    Calls Tryd.prog 12 #[v] w fun e w' => e = .returned (clv (clFoldA (clNot clNone) l)) ∧ Below w.heap.size w w' := by
  have HV := Lib.hid hv
  obtain ⟨ao, b, off, cap, rfl, hl, hm, hnil, hao, hc⟩ := hv
  clear hnil hao hc
  have hmk := make_truths
  have hll : l.length ≤ 9223372036854775807 := by unfold maxLen at hm; omega
  have hfa : ∀ k, clFoldA (clNot clNone) l k = l.all fun c => c k := fun k => by rw [clFoldA_all]; simp [clNot, clNone]
  have HFa := Lib.hid hfa
  clear hfa
  generalize clFoldA (clNot clNone) l = F at HFa ⊢
  go_enter Tryd.func12, Tryd.ntmps12
  go_wp2
  go_loopw [4, 5] (fun i _ wr => ∃ k : Nat, k ≤ 256 ∧ i = .int .i64 k ∧ wr.heap[w.heap.size + 1]? = some (.cells (truths (clTo F k)).toArray 4 (0, 0)) ∧ wr.heap[w.heap.size]? = some (.cells #[.int .u64 0, .int .u64 0, .int .u64 0, .int .u64 0] 24 (0, 0)) ∧ Below w.heap.size w wr) (fun i _ _ => 257 - (intOf i).toNat)
  case atStart =>
    refine ⟨0, by omega, rfl, ?_, heap_alloc2_old _ _ _, ((Below.refl _ _).alloc (Nat.le_refl _) _).alloc (by simp) _⟩
    rw [clTo_zero]
    exact heap_alloc2_new _ _ _
  case round =>
    obtain ⟨k, hk, rfl, hh, hr, hb⟩ := hrel
    by_cases hlt : k < 256
    · obtain ⟨wo, rfl⟩ : ∃ wo : World, wo = wr := ⟨_, rfl⟩
      obtain ⟨g1, g2⟩ := truths_cell hh hlt
      have HH := Lib.hid hh
      have HR := Lib.hid hr
      have HB := Lib.hid hb
      clear hh hr hb
      have hkI : (k : Int) < 256 := by omega
      go_wp2
      go_loopw [5] (fun i wr => ∃ j : Nat, j ≤ l.length ∧ i = .int .i64 j ∧ wr.heap[w.heap.size + 1]? = some (.cells (truths (clUpA F k (l.take j))).toArray 4 (0, 0)) ∧ wr.heap[w.heap.size]? = some (.cells #[.int .u64 0, .int .u64 0, .int .u64 0, .int .u64 0] 24 (0, 0)) ∧ Below w.heap.size w wr) (fun i _ => l.length - (intOf i).toNat)
      case atStart =>
        refine ⟨0, by omega, rfl, ?_, ?_, HB.out.setCell (p := ⟨w.heap.size + 1, k, none⟩) (by simp) _⟩
        · rw [block_setCell' HH.out, truths_set hlt (q := clUpA F k (l.take 0)) (by rw [clUpA_at]; rfl) (clUpA_to _ _ _)]
        · rw [Below.heap_setCell _ _ _ _ (by simp)]; exact HR.out
      case round =>
        obtain ⟨j, hj, rfl, hh, hr, hb⟩ := hrel
        by_cases hjl : j < l.length
        · obtain ⟨ao', b', off', cap', he, _, _, _, hao, hc⟩ := HV.out.later hb
          simp only [Value.slice.injEq, true_and] at he
          obtain ⟨rfl, rfl⟩ := he
          obtain ⟨rfl, hbl⟩ := hao (by omega)
          have e0 := hc j hjl 0 (by omega)
          rw [Nat.add_zero] at e0
          have e1 := hc j hjl 1 (by omega)
          have e2 := hc j hjl 2 (by omega)
          have e3 := hc j hjl 3 (by omega)
          obtain ⟨hw, hf⟩ := truths_cell hh hlt
          rw [clUpA_at] at hw
          obtain ⟨c, hcj⟩ : ∃ c, c = (l[j]'hjl) k := ⟨_, rfl⟩
          obtain ⟨d, hd⟩ : ∃ d, d = (l.take j).all fun c => c k := ⟨_, rfl⟩
          rw [← hd] at hw
          have HCj := Lib.hid hcj
          have HD := Lib.hid hd
          have HH' := Lib.hid hh
          have HR' := Lib.hid hr
          have HB' := Lib.hid hb
          have HJ := Lib.hid hjl
          have hrl := lt_of_block hr
          have hrl1 := lt_of_block hh
          have hltI : (j : Int) < l.length := by omega
          have hconv : IntKind.u8.wrap (k : Int) = k := by rw [IntKind.wrap_u8']; omega
          have Hcall := fun w1 => rhas_nat w1 (l[j]'hjl) k hlt c hcj.symm
          have HCa := Lib.hid Hcall
          clear hh hr hb hc hao hcj hd Hcall
          cases d
          · go_wp2
            go_roundw
            case rel =>
              refine ⟨j + 1, by omega, by go_num, ?_, ?_, HB'.out.setCell (p := ⟨w.heap.size + 1, k, none⟩) (by simp) _⟩
              · rw [block_setCell' HH'.out, truths_set hlt (q := clUpA F k (l.take (j + 1))) (by rw [clUpA_at, all_take _ _ HJ.out, ← HD.out]; rfl) (clUpA_step _ _ _ _)]
              · rw [Below.heap_setCell _ _ _ _ (by simp)]; exact HR'.out
            case measure => simp [intOf]; omega
          · go_wp2_with (go_at_call 23; refine (HCa.out _).mono ?_; rintro e w' ⟨rfl, hb2⟩; obtain ⟨hw', hf'⟩ := truths_cell ((hb2.block _ hrl1).trans HH'.out) hlt; rw [clUpA_at] at hw')
            go_roundw
            case rel =>
              refine ⟨j + 1, by omega, by go_num, ?_, ?_, (HB'.out.trans (hb2.mono HB'.out.size)).setCell (p := ⟨w.heap.size + 1, k, none⟩) (by simp) _⟩
              · rw [block_setCell' ((hb2.block _ hrl1).trans HH'.out), truths_set hlt (q := clUpA F k (l.take (j + 1))) (by rw [clUpA_at, all_take _ _ HJ.out, ← HD.out, HCj.out]; rfl) (clUpA_step _ _ _ _)]
              · rw [Below.heap_setCell _ _ _ _ (by simp)]
                exact (hb2.block _ hrl).trans HR'.out
            case measure => simp [intOf]; omega
        · obtain rfl : j = l.length := by omega
          have HH' := Lib.hid hh
          have HR' := Lib.hid hr
          have HB' := Lib.hid hb
          clear hh hr hb
          go_wp2
          go_roundw
          case rel =>
            refine ⟨k + 1, by omega, by go_num, ?_, HR'.out, HB'.out⟩
            have := HH'.out
            rw [List.take_length, clUpA_all _ _ _ (HFa.out k)] at this
            exact this
          case measure => simp [intOf]; omega
    · obtain rfl : k = 256 := by omega
      have hfin := hh
      rw [truths_congr (clTo_eq _)] at hfin
      have HF := Lib.hid hfin
      have HR := Lib.hid hr
      have HB := Lib.hid hb
      have hrl := lt_of_block hr
      clear hh hr hb hfin
      go_wp2_with (go_at_call 24; refine (ref_Set _ F _ (truths_cells HF.out)).mono ?_; rintro e w' ⟨rfl, hb⟩; obtain ⟨⟨r0, f0⟩, ⟨r1, f1⟩, ⟨r2, f2⟩, ⟨r3, f3⟩⟩ := four_cells ((hb.block _ hrl).trans HR.out); simp only [clv, clc])
      have hst := store4 (u0 := .int .u64 (word F 0)) (u1 := .int .u64 (word F 1)) (u2 := .int .u64 (word F 2)) (u3 := .int .u64 (word F 3)) ((hb.block _ hrl).trans HR.out)
      refine bodyPost_ret (results_cell_row rfl _ _ w.heap.size _ _ _ _ rfl hst Tryd.und_class rfl Tryd.size_class) rfl ⟨rfl, ?_⟩
      exact (((((Keeps.ofBelow (HB.out.trans (hb.mono HB.out.size))).setCell (by simp) _).setCell (by simp) _).setCell (by simp) _).setCell (by simp) _).below (Nat.le_refl _) (fun k hk => hk)
end Go.Proofs.YtchjlgmnfepedaaDoor
