/-
  Chapter far: FarParts: the walk.
-/
import Derived.Test.YtfhgmnlhmfnckaaFarM
import Derived.Test.YtfhgmnlhmfnckaaAsk
namespace Go.Proofs.Ytfhgmnlhmfnckaa
open Go.RowKit Go.Lib

/-- those that are asked at a place, and are not there. -/
def asksN (W : List UInt8) (l : List Miss) : List Miss := l.filter fun q => decide (0 ≤ q.1) && !thereB W q.2 q.1
theorem asksN_pos (W : List UInt8) (l : List Miss) : ∀ q ∈ asksN W l, 0 ≤ q.1 := fun q hq => by
  have := (List.mem_filter.1 hq).2
  simp only [Bool.and_eq_true, decide_eq_true_eq] at this
  exact this.1
theorem asksN_append (W : List UInt8) (a b : List Miss) : asksN W (a ++ b) = asksN W a ++ asksN W b := by simp [asksN]
/-- what asking all leaves. -/
def sumL (W : List UInt8) (l : List Miss) : Part := sumP (asksN W l)
theorem sumL_nil (W : List UInt8) : sumL W [] = pFresh := rfl
theorem sumL_snoc (W : List UInt8) (l : List Miss) (q : Miss) : askA W (sumL W l) q.2 q.1 = sumL W (l ++ [q]) := by
  unfold sumL
  rw [asksN_append]
  by_cases h0 : q.1 < 0
  · have h1 : ¬ 0 ≤ q.1 := by omega
    rw [askA_neg h0]
    have : asksN W [q] = [] := by simp [asksN, h1]
    rw [this, List.append_nil]
  · rw [ask_missed W _ q (by omega)]
    have h1 : 0 ≤ q.1 := by omega
    cases ht : thereB W q.2 q.1
    · have : asksN W [q] = [q] := by simp [asksN, h1, ht]
      rw [this]; simp
    · have : asksN W [q] = [] := by simp [asksN, ht]
      rw [this]; simp
theorem sumL_take (W : List UInt8) (l : List Miss) {k : Nat} (h : k < l.length) : askA W (sumL W (l.take k)) l[k].2 l[k].1 = sumL W (l.take (k + 1)) := by
  rw [List.take_succ_eq_append_getElem h, sumL_snoc]
theorem take_drop_snoc (l : List Miss) {k f : Nat} (h : k < l.length) (hf : f ≤ k) : (l.take (k + 1)).drop f = (l.take k).drop f ++ [l[k]] := by
  rw [List.take_succ_eq_append_getElem h, List.drop_append_of_le_length (by rw [List.length_take]; omega)]
theorem sumL_mid (W : List UInt8) (l : List Miss) {k f : Nat} (h : k < l.length) (hf : f ≤ k) : askA W (sumL W ((l.take k).drop f)) l[k].2 l[k].1 = sumL W ((l.take (k + 1)).drop f) := by
  rw [take_drop_snoc l h hf, sumL_snoc]
theorem sumL_join (W : List UInt8) (a b : List Miss) : endP (sumL W a) (sumL W b) = sumL W (a ++ b) := by
  unfold sumL endP
  rw [asksN_append, sumP_append _ _ (asksN_pos W a) (asksN_pos W b)]
theorem sumL_ok (W : List UInt8) (l : List Miss) : sumL W l = pFresh ∨ 0 ≤ (sumL W l).1 := by
  unfold sumL
  rw [sumP_eq _ (asksN_pos W l)]
  cases h : asksN W l with
  | nil => exact .inl rfl
  | cons q r =>
    refine .inr ?_
    have h1 := maxM_mem (M := q :: r) (q := q) (by simp)
    have h2 := asksN_pos W l q (by rw [h]; simp)
    simp only
    omega

/-- three records lie apart, behind what was there. -/
structure Dis (Ha Hb Hc : Nat → Prop) (n : Nat) : Prop where
  ab : ∀ k, Ha k → ¬ Hb k
  ac : ∀ k, Ha k → ¬ Hc k
  bc : ∀ k, Hb k → ¬ Hc k
  la : ∀ k, Ha k → n ≤ k
  lb : ∀ k, Hb k → n ≤ k
  lc : ∀ k, Hc k → n ≤ k
/-- the three records. -/
structure Tri (Ha Hb Hc : Nat → Prop) (w0 w : World) (a b c : Nat) (W : List UInt8) (pa : List Part) (pb pc : Part) : Prop where
  fa : Far Ha w a pa W
  fb : Far Hb w b ([] ++ [pb]) W
  fc : Far Hc w c ([] ++ [pc]) W
  bel : Below w0.heap.size w0 w
theorem Tri.later {Ha Hb Hc : Nat → Prop} {w0 w w' : World} {a b c : Nat} {W : List UInt8} {pa : List Part} {pb pc : Part} (h : Tri Ha Hb Hc w0 w a b c W pa pb pc) (hb : Below w.heap.size w w') : Tri Ha Hb Hc w0 w' a b c W pa pb pc :=
  ⟨h.fa.later hb, h.fb.later hb, h.fc.later hb, h.bel.trans (hb.mono h.bel.size)⟩
theorem tri_setA {Ha Hb Hc : Nat → Prop} {w0 : World} {a b c : Nat} {W : List UInt8} (q : Miss) (D : Dis Ha Hb Hc w0.heap.size) (w : World) (init : List Part) (p pb pc : Part) (h : Tri Ha Hb Hc w0 w a b c W (init ++ [p]) pb pc) :
    Calls Try.prog 10 #[.pointer (some ⟨a, 0, none⟩), .agg #[.int .u64 (word q.2 0), .int .u64 (word q.2 1), .int .u64 (word q.2 2), .int .u64 (word q.2 3)], .int .i64 q.1] w fun e w' => e = .returned (.bool (thereB W q.2 q.1)) ∧ Tri Ha Hb Hc w0 w' a b c W (init ++ [askA W p q.2 q.1]) pb pc := by
  have hs := far_Set w q.2 q.1 h.fa
  unfold clv clc at hs
  refine hs.mono ?_
  rintro e w' ⟨rfl, hF, hK⟩
  exact ⟨rfl, hF, h.fb.keep hK (fun k hk h' => D.ab k h' hk), h.fc.keep hK (fun k hk h' => D.ac k h' hk), h.bel.trans (hK.below h.bel.size D.la)⟩
theorem tri_setB {Ha Hb Hc : Nat → Prop} {w0 : World} {a b c : Nat} {W : List UInt8} (q : Miss) (D : Dis Ha Hb Hc w0.heap.size) (w : World) (pa : List Part) (pb pc : Part) (h : Tri Ha Hb Hc w0 w a b c W pa pb pc) :
    Calls Try.prog 10 #[.pointer (some ⟨b, 0, none⟩), .agg #[.int .u64 (word q.2 0), .int .u64 (word q.2 1), .int .u64 (word q.2 2), .int .u64 (word q.2 3)], .int .i64 q.1] w fun e w' => e = .returned (.bool (thereB W q.2 q.1)) ∧ Tri Ha Hb Hc w0 w' a b c W pa (askA W pb q.2 q.1) pc := by
  have hs := far_Set w q.2 q.1 h.fb
  unfold clv clc at hs
  refine hs.mono ?_
  rintro e w' ⟨rfl, hF, hK⟩
  exact ⟨rfl, h.fa.keep hK D.ab, hF, h.fc.keep hK (fun k hk h' => D.bc k h' hk), h.bel.trans (hK.below h.bel.size D.lb)⟩
theorem tri_setC {Ha Hb Hc : Nat → Prop} {w0 : World} {a b c : Nat} {W : List UInt8} (q : Miss) (D : Dis Ha Hb Hc w0.heap.size) (w : World) (pa : List Part) (pb pc : Part) (h : Tri Ha Hb Hc w0 w a b c W pa pb pc) :
    Calls Try.prog 10 #[.pointer (some ⟨c, 0, none⟩), .agg #[.int .u64 (word q.2 0), .int .u64 (word q.2 1), .int .u64 (word q.2 2), .int .u64 (word q.2 3)], .int .i64 q.1] w fun e w' => e = .returned (.bool (thereB W q.2 q.1)) ∧ Tri Ha Hb Hc w0 w' a b c W pa pb (askA W pc q.2 q.1) := by
  have hs := far_Set w q.2 q.1 h.fc
  unfold clv clc at hs
  refine hs.mono ?_
  rintro e w' ⟨rfl, hF, hK⟩
  exact ⟨rfl, h.fa.keep hK D.ac, h.fb.keep hK D.bc, hF, h.bel.trans (hK.below h.bel.size D.lc)⟩

theorem far_HopedA {H : Nat → Prop} {a : Nat} {init : List Part} {p : Part} {W : List UInt8} (w : World) (h : Far H w a (init ++ [p]) W) :
    Calls Try.prog 13 #[.pointer (some ⟨a, 0, none⟩)] w fun e w' => e = .returned (.agg #[.int .u64 (word p.2 0), .int .u64 (word p.2 1), .int .u64 (word p.2 2), .int .u64 (word p.2 3)]) ∧ Below w.heap.size w w' := far_Hoped w h
/-- a call that only makes memory leaves what is known. -/
theorem s26 {Ha Hb Hc : Nat → Prop} {w0 w : World} {a b c x : Nat} {W : List UInt8} {pa : List Part} {pb pc : Part} {s : Nat → Bool} {f : Nat} {args : Array Value} {v : Value} (h : Tri Ha Hb Hc w0 w a b c W pa pb pc ∧ w.heap[x]? = some (.cells (clc s) 29 (0, 0)))
    (hc : Calls Try.prog f args w fun e w' => e = .returned v ∧ Below w.heap.size w w') : Calls Try.prog f args w fun e w' => e = .returned v ∧ (Tri Ha Hb Hc w0 w' a b c W pa pb pc ∧ w'.heap[x]? = some (.cells (clc s) 29 (0, 0))) :=
  hc.mono fun _ _ ⟨he, hb⟩ => ⟨he, h.1.later hb, (hb.block x (lt_of_block h.2)).trans h.2⟩

set_option maxRecDepth 100000 in
set_option maxHeartbeats 40000000 in
theorem farParts_main (w : World) (v u : Value) (W : List UInt8) (l : List Miss) (f t : Nat) (hv : BytesAt w v W) (hu : AsksAt w u l) (h1 : W.length + l.length ≤ 400) (hft : f ≤ t) (htl : t ≤ l.length) :
    Calls Try.prog 4 #[v, u, .int .i64 f, .int .i64 t] w fun e w' => e = .returned (.bool true) ∧ Below w.heap.size w w' := by
  have HV := Lib.hid hv
  have HU := Lib.hid hu
  obtain ⟨ao, b0, off, cap, rfl, hl2, hm2, _, hao, hcw⟩ := hv
  obtain ⟨ao2, cap2, rfl, hl3, hm3, hcu⟩ := hu.cells
  have Hcu := Lib.hid hcu
  have g1 : ¬ ((W.length : Int) + l.length) > 400 := by omega
  have g2 : ¬ (f : Int) < 0 := by omega
  have g3 : ¬ (t : Int) < f := by omega
  have g4 : ¬ (t : Int) > l.length := by omega
  have g5 : ¬ t < f := by omega
  have g6 : ¬ l.length < t := by omega
  clear hu hcu hao hcw
  go_enter Try.func4, Try.ntmps4
  go_wp2_with fail
  refine (awake_any w).mono ?_
  rintro e w1 ⟨rfl, hb1⟩
  have HB1 := Lib.hid hb1
  clear hb1
  go_wp2_with fail
  refine (far_New w1 _ W (HV.out.later HB1.out) (by omega)).mono ?_
  rintro e w2 ⟨a, rfl, hFa, hb2⟩
  have HB2 := Lib.hid (HB1.out.trans (hb2.mono HB1.out.size))
  have HN2 := Lib.hid hb2
  obtain ⟨Ha, hHa⟩ : ∃ Ha, Ha = (fun k => w1.heap.size ≤ k ∧ k < w2.heap.size) := ⟨_, rfl⟩
  rw [← hHa] at hFa
  have HFa := Lib.hid hFa
  have HHa : Hid (∀ k, Ha k → w1.heap.size ≤ k ∧ k < w2.heap.size) := Lib.hid (fun k hk => by rw [hHa] at hk; exact hk)
  clear hFa hHa hb2
  go_wp2_with fail
  refine (far_New w2 _ W (HV.out.later HB2.out) (by omega)).mono ?_
  rintro e w3 ⟨b, rfl, hFb, hb3⟩
  have HB3 := Lib.hid (HB2.out.trans (hb3.mono HB2.out.size))
  have HN3 := Lib.hid hb3
  obtain ⟨Hb, hHb⟩ : ∃ Hb, Hb = (fun k => w2.heap.size ≤ k ∧ k < w3.heap.size) := ⟨_, rfl⟩
  rw [← hHb] at hFb
  have HFb := Lib.hid hFb
  have HHb : Hid (∀ k, Hb k → w2.heap.size ≤ k ∧ k < w3.heap.size) := Lib.hid (fun k hk => by rw [hHb] at hk; exact hk)
  clear hFb hHb hb3
  go_wp2_with fail
  refine (far_New w3 _ W (HV.out.later HB3.out) (by omega)).mono ?_
  rintro e w4 ⟨c, rfl, hFc, hb4⟩
  have HB4 := Lib.hid (HB3.out.trans (hb4.mono HB3.out.size))
  have HN4 := Lib.hid hb4
  obtain ⟨Hc, hHc⟩ : ∃ Hc, Hc = (fun k => w3.heap.size ≤ k ∧ k < w4.heap.size) := ⟨_, rfl⟩
  rw [← hHc] at hFc
  have HFc := Lib.hid hFc
  have HHc : Hid (∀ k, Hc k → w3.heap.size ≤ k ∧ k < w4.heap.size) := Lib.hid (fun k hk => by rw [hHc] at hk; exact hk)
  clear hFc hHc hb4
  have HD : Hid (Dis Ha Hb Hc w.heap.size) := Lib.hid ⟨fun k h h' => by have := HHa.out k h; have := HHb.out k h'; omega, fun k h h' => by have := HHa.out k h; have := HHc.out k h'; have := HN3.out.size; omega, fun k h h' => by have := HHb.out k h; have := HHc.out k h'; omega,
    fun k h => by have := HHa.out k h; have := HB1.out.size; omega, fun k h => by have := HHb.out k h; have := HB2.out.size; omega, fun k h => by have := HHc.out k h; have := HB3.out.size; omega⟩
  have HT4 : Hid (Tri Ha Hb Hc w w4 a b c W ([] ++ [pFresh]) pFresh pFresh) := Lib.hid ⟨(HFa.out.later HN3.out).later HN4.out, HFb.out.later HN4.out, HFc.out, HB4.out⟩
  clear HFa HFb HFc HHa HHb HHc HN2 HN3 HN4
  go_wp2
  go_loopw [12] (fun i w9 => ∃ k : Nat, k ≤ l.length ∧ i = .int .i64 k ∧ w9 = w4) (fun i _ => l.length - (intOf i).toNat)
  case atStart => exact ⟨0, by omega, rfl, rfl⟩
  case round =>
    obtain ⟨k, hk, rfl, rfl⟩ := hrel
    by_cases hlt : k < l.length
    · obtain ⟨b2, off2, rfl, hbl2, d0, d1, d2, d3, d4⟩ := Hcu.out k hlt
      obtain ⟨q, hq⟩ : ∃ q, q = l[k] := ⟨_, rfl⟩
      rw [← hq] at d4
      have e4 := cell_later HB4.out d4
      clear hq d0 d1 d2 d3 d4
      have hlI : (k : Int) < l.length := by omega
      by_cases hr : 4611686018427387904 < q.1
      · have hr' : q.1 > 4611686018427387904 := hr
        go_wp2
        go_ret
        exact ⟨rfl, HB4.out⟩
      · have hr' : ¬ q.1 > 4611686018427387904 := hr
        go_wp2
        go_roundw
        case rel => exact ⟨k + 1, by omega, by go_num, trivial⟩
        case measure => simp [intOf] <;> omega
    · have hkl : ¬ (k : Int) < l.length := by omega
      clear hk
      go_wp2
      go_loopw [13] (fun i w9 => ∃ k : Nat, k ≤ f ∧ i = .int .i64 k ∧ Tri Ha Hb Hc w w9 a b c W ([] ++ [sumL W (l.take k)]) (sumL W (l.take k)) pFresh) (fun i _ => f - (intOf i).toNat)
      case atStart => exact ⟨0, by omega, rfl, HT4.out⟩
      case round =>
        obtain ⟨k, hk, rfl, hT⟩ := hrel
        have HT := Lib.hid hT
        clear hT HT4 hkl hlt
        by_cases hlt : k < f
        · have hkI : (k : Int) < f := by omega
          have hkl : k < l.length := by omega
          have hklI : (k : Int) < l.length := by omega
          obtain ⟨b2, off2, rfl, hbl2, d0, d1, d2, d3, d4⟩ := Hcu.out k hkl
          obtain ⟨q, hq⟩ : ∃ q, q = l[k] := ⟨_, rfl⟩
          have HQ := Lib.hid hq
          rw [← hq] at d0 d1 d2 d3 d4
          have hd := Lib.hid (fun w1 (hb : Below w.heap.size w w1) => And.intro (cell_later hb d0) (And.intro (cell_later hb d1) (And.intro (cell_later hb d2) (And.intro (cell_later hb d3) (cell_later hb d4)))))
          clear hq d0 d1 d2 d3 d4
          go_upto_region 14 with (fail)
          refine wp_region_held_drew (S := fun wq => Below w.heap.size w wq) (by kernel_rfl) (HT.out.bel.drew) (fun hS => ?_)
          refine wpAnyH_take (i := 0) (oi := ⟨_, _, _, _, _, _⟩) (v := ?v46) rfl (by kernel_rfl) (by kernel_rfl) (by kernel_rfl) (fun _ _ _ h => h) ?y46 hS ?_
          case y46 => first | (refine Or.inr ⟨by rfl, ?_⟩; with_reducible rfl) | (refine Or.inl ⟨by rfl, ?_⟩; intro wS hSw; obtain ⟨d0, d1, d2, d3, d4⟩ := hd.out wS hSw; go_simp; try with_reducible rfl)
          simp only [Act.put, List.setIfInBounds_toArray, List.set_cons_zero, List.set_cons_succ]
          refine wpAnyH_take (i := 1) (oi := ⟨_, _, _, _, _, _⟩) (v := ?v47) rfl (by kernel_rfl) (by kernel_rfl) (by kernel_rfl) (fun _ _ _ h => h) ?y47 hS ?_
          case y47 => first | (refine Or.inr ⟨by rfl, ?_⟩; with_reducible rfl) | (refine Or.inl ⟨by rfl, ?_⟩; intro wS hSw; obtain ⟨d0, d1, d2, d3, d4⟩ := hd.out wS hSw; go_simp; try with_reducible rfl)
          simp only [Act.put, List.setIfInBounds_toArray, List.set_cons_zero, List.set_cons_succ]
          refine wpAnyH_take (i := 2) (oi := ⟨_, _, _, _, _, _⟩) (v := ?v48) rfl (by kernel_rfl) (by kernel_rfl) (by kernel_rfl) (fun _ _ _ h => h) ?y48 hS ?_
          case y48 => first | (refine Or.inr ⟨by rfl, ?_⟩; with_reducible rfl) | (refine Or.inl ⟨by rfl, ?_⟩; intro wS hSw; obtain ⟨d0, d1, d2, d3, d4⟩ := hd.out wS hSw; go_simp; try with_reducible rfl)
          simp only [Act.put, List.setIfInBounds_toArray, List.set_cons_zero, List.set_cons_succ]
          refine wpAnyH_take (i := 3) (oi := ⟨_, _, _, _, _, _⟩) (v := ?v49) rfl (by kernel_rfl) (by kernel_rfl) (by kernel_rfl) (fun _ _ _ h => h) ?y49 hS ?_
          case y49 => first | (refine Or.inr ⟨by rfl, ?_⟩; with_reducible rfl) | (refine Or.inl ⟨by rfl, ?_⟩; intro wS hSw; obtain ⟨d0, d1, d2, d3, d4⟩ := hd.out wS hSw; go_simp; try with_reducible rfl)
          simp only [Act.put, List.setIfInBounds_toArray, List.set_cons_zero, List.set_cons_succ]
          refine wpAnyH_take (i := 4) (oi := ⟨_, _, _, _, _, _⟩) (v := ?v50) rfl (by kernel_rfl) (by kernel_rfl) (by kernel_rfl) (fun _ _ _ h => h) ?y50 hS ?_
          case y50 => first | (refine Or.inr ⟨by rfl, ?_⟩; with_reducible rfl) | (refine Or.inl ⟨by rfl, ?_⟩; intro wS hSw; obtain ⟨d0, d1, d2, d3, d4⟩ := hd.out wS hSw; go_simp; try with_reducible rfl)
          simp only [Act.put, List.setIfInBounds_toArray, List.set_cons_zero, List.set_cons_succ]
          refine wpAnyH_take (i := 5) (oi := ⟨_, _, _, _, _, _⟩) (v := ?v51) rfl (by kernel_rfl) (by kernel_rfl) (by kernel_rfl) (fun _ _ _ h => h) ?y51 hS ?_
          case y51 => first | (refine Or.inr ⟨by rfl, ?_⟩; with_reducible rfl) | (refine Or.inl ⟨by rfl, ?_⟩; intro wS hSw; obtain ⟨d0, d1, d2, d3, d4⟩ := hd.out wS hSw; go_simp; try with_reducible rfl)
          simp only [Act.put, List.setIfInBounds_toArray, List.set_cons_zero, List.set_cons_succ]
          refine wpAnyH_take (i := 6) (oi := ⟨_, _, _, _, _, _⟩) (v := ?v52) rfl (by kernel_rfl) (by kernel_rfl) (by kernel_rfl) (fun _ _ _ h => h) ?y52 hS ?_
          case y52 => first | (refine Or.inr ⟨by rfl, ?_⟩; with_reducible rfl) | (refine Or.inl ⟨by rfl, ?_⟩; intro wS hSw; obtain ⟨d0, d1, d2, d3, d4⟩ := hd.out wS hSw; go_simp; try with_reducible rfl)
          simp only [Act.put, List.setIfInBounds_toArray, List.set_cons_zero, List.set_cons_succ]
          refine wpAnyH_take (i := 7) (oi := ⟨_, _, _, _, _, _⟩) (v := ?v53) rfl (by kernel_rfl) (by kernel_rfl) (by kernel_rfl) (fun _ _ _ h => h) ?y53 hS ?_
          case y53 => first | (refine Or.inr ⟨by rfl, ?_⟩; with_reducible rfl) | (refine Or.inl ⟨by rfl, ?_⟩; intro wS hSw; obtain ⟨d0, d1, d2, d3, d4⟩ := hd.out wS hSw; go_simp; try with_reducible rfl)
          simp only [Act.put, List.setIfInBounds_toArray, List.set_cons_zero, List.set_cons_succ]
          refine wpAnyH_take (i := 8) (oi := ⟨_, _, _, _, _, _⟩) (v := ?v54) rfl (by kernel_rfl) (by kernel_rfl) (by kernel_rfl) (fun _ _ _ h => h) ?y54 hS ?_
          case y54 => first | (refine Or.inr ⟨by rfl, ?_⟩; with_reducible rfl) | (refine Or.inl ⟨by rfl, ?_⟩; intro wS hSw; obtain ⟨d0, d1, d2, d3, d4⟩ := hd.out wS hSw; go_simp; try with_reducible rfl)
          simp only [Act.put, List.setIfInBounds_toArray, List.set_cons_zero, List.set_cons_succ]
          refine wpAnyH_take (i := 9) (oi := ⟨_, _, _, _, _, _⟩) (v := ?v55) rfl (by kernel_rfl) (by kernel_rfl) (by kernel_rfl) (fun _ _ _ h => h) ?y55 hS ?_
          case y55 => first | (refine Or.inr ⟨by rfl, ?_⟩; with_reducible rfl) | (refine Or.inl ⟨by rfl, ?_⟩; intro wS hSw; obtain ⟨d0, d1, d2, d3, d4⟩ := hd.out wS hSw; go_simp; try with_reducible rfl)
          simp only [Act.put, List.setIfInBounds_toArray, List.set_cons_zero, List.set_cons_succ]
          refine wpAnyH_take (i := 10) (oi := ⟨_, _, _, _, _, _⟩) (v := ?v56) rfl (by kernel_rfl) (by kernel_rfl) (by kernel_rfl) (fun _ _ _ h => h) ?y56 hS ?_
          case y56 => first | (refine Or.inr ⟨by rfl, ?_⟩; with_reducible rfl) | (refine Or.inl ⟨by rfl, ?_⟩; intro wS hSw; obtain ⟨d0, d1, d2, d3, d4⟩ := hd.out wS hSw; go_simp; try with_reducible rfl)
          simp only [Act.put, List.setIfInBounds_toArray, List.set_cons_zero, List.set_cons_succ]
          refine wpAnyH_ready (rs := [11]) (by kernel_rfl) (by simp) ?_
          refine AllReadyH.cons (o := ⟨_, _, _, _, _, _⟩) rfl (fun K hK => ?_) AllReadyH.nil
          go_simp
          refine (tri_setA q HD.out _ _ _ _ _ (HT.out.later (Below.refl _ _).drew)).mono ?_
          rintro e wx ⟨rfl, hTT⟩; have hS := hTT.bel
          go_wp2_with fail
          refine hK.out _ _ hS (fun _ => ?_)
          clear hK K
          try simp only [Act.put, List.setIfInBounds_toArray, List.set_cons_zero, List.set_cons_succ]
          refine wpAnyH_done (by kernel_rfl) ?_ _
          clear hS
          rw [HQ.out, sumL_take W l hkl] at hTT
          have HT1 := Lib.hid hTT
          clear hTT

          go_upto_region 15 with (fail)
          refine wp_region_held_drew (S := fun wq => Below w.heap.size w wq) (by kernel_rfl) (HT1.out.bel.drew) (fun hS => ?_)
          refine wpAnyH_take (i := 0) (oi := ⟨_, _, _, _, _, _⟩) (v := ?v57) rfl (by kernel_rfl) (by kernel_rfl) (by kernel_rfl) (fun _ _ _ h => h) ?y57 hS ?_
          case y57 => first | (refine Or.inr ⟨by rfl, ?_⟩; with_reducible rfl) | (refine Or.inl ⟨by rfl, ?_⟩; intro wS hSw; obtain ⟨d0, d1, d2, d3, d4⟩ := hd.out wS hSw; go_simp; try with_reducible rfl)
          simp only [Act.put, List.setIfInBounds_toArray, List.set_cons_zero, List.set_cons_succ]
          refine wpAnyH_take (i := 1) (oi := ⟨_, _, _, _, _, _⟩) (v := ?v58) rfl (by kernel_rfl) (by kernel_rfl) (by kernel_rfl) (fun _ _ _ h => h) ?y58 hS ?_
          case y58 => first | (refine Or.inr ⟨by rfl, ?_⟩; with_reducible rfl) | (refine Or.inl ⟨by rfl, ?_⟩; intro wS hSw; obtain ⟨d0, d1, d2, d3, d4⟩ := hd.out wS hSw; go_simp; try with_reducible rfl)
          simp only [Act.put, List.setIfInBounds_toArray, List.set_cons_zero, List.set_cons_succ]
          refine wpAnyH_take (i := 2) (oi := ⟨_, _, _, _, _, _⟩) (v := ?v59) rfl (by kernel_rfl) (by kernel_rfl) (by kernel_rfl) (fun _ _ _ h => h) ?y59 hS ?_
          case y59 => first | (refine Or.inr ⟨by rfl, ?_⟩; with_reducible rfl) | (refine Or.inl ⟨by rfl, ?_⟩; intro wS hSw; obtain ⟨d0, d1, d2, d3, d4⟩ := hd.out wS hSw; go_simp; try with_reducible rfl)
          simp only [Act.put, List.setIfInBounds_toArray, List.set_cons_zero, List.set_cons_succ]
          refine wpAnyH_take (i := 3) (oi := ⟨_, _, _, _, _, _⟩) (v := ?v60) rfl (by kernel_rfl) (by kernel_rfl) (by kernel_rfl) (fun _ _ _ h => h) ?y60 hS ?_
          case y60 => first | (refine Or.inr ⟨by rfl, ?_⟩; with_reducible rfl) | (refine Or.inl ⟨by rfl, ?_⟩; intro wS hSw; obtain ⟨d0, d1, d2, d3, d4⟩ := hd.out wS hSw; go_simp; try with_reducible rfl)
          simp only [Act.put, List.setIfInBounds_toArray, List.set_cons_zero, List.set_cons_succ]
          refine wpAnyH_take (i := 4) (oi := ⟨_, _, _, _, _, _⟩) (v := ?v61) rfl (by kernel_rfl) (by kernel_rfl) (by kernel_rfl) (fun _ _ _ h => h) ?y61 hS ?_
          case y61 => first | (refine Or.inr ⟨by rfl, ?_⟩; with_reducible rfl) | (refine Or.inl ⟨by rfl, ?_⟩; intro wS hSw; obtain ⟨d0, d1, d2, d3, d4⟩ := hd.out wS hSw; go_simp; try with_reducible rfl)
          simp only [Act.put, List.setIfInBounds_toArray, List.set_cons_zero, List.set_cons_succ]
          refine wpAnyH_take (i := 5) (oi := ⟨_, _, _, _, _, _⟩) (v := ?v62) rfl (by kernel_rfl) (by kernel_rfl) (by kernel_rfl) (fun _ _ _ h => h) ?y62 hS ?_
          case y62 => first | (refine Or.inr ⟨by rfl, ?_⟩; with_reducible rfl) | (refine Or.inl ⟨by rfl, ?_⟩; intro wS hSw; obtain ⟨d0, d1, d2, d3, d4⟩ := hd.out wS hSw; go_simp; try with_reducible rfl)
          simp only [Act.put, List.setIfInBounds_toArray, List.set_cons_zero, List.set_cons_succ]
          refine wpAnyH_take (i := 6) (oi := ⟨_, _, _, _, _, _⟩) (v := ?v63) rfl (by kernel_rfl) (by kernel_rfl) (by kernel_rfl) (fun _ _ _ h => h) ?y63 hS ?_
          case y63 => first | (refine Or.inr ⟨by rfl, ?_⟩; with_reducible rfl) | (refine Or.inl ⟨by rfl, ?_⟩; intro wS hSw; obtain ⟨d0, d1, d2, d3, d4⟩ := hd.out wS hSw; go_simp; try with_reducible rfl)
          simp only [Act.put, List.setIfInBounds_toArray, List.set_cons_zero, List.set_cons_succ]
          refine wpAnyH_take (i := 7) (oi := ⟨_, _, _, _, _, _⟩) (v := ?v64) rfl (by kernel_rfl) (by kernel_rfl) (by kernel_rfl) (fun _ _ _ h => h) ?y64 hS ?_
          case y64 => first | (refine Or.inr ⟨by rfl, ?_⟩; with_reducible rfl) | (refine Or.inl ⟨by rfl, ?_⟩; intro wS hSw; obtain ⟨d0, d1, d2, d3, d4⟩ := hd.out wS hSw; go_simp; try with_reducible rfl)
          simp only [Act.put, List.setIfInBounds_toArray, List.set_cons_zero, List.set_cons_succ]
          refine wpAnyH_take (i := 8) (oi := ⟨_, _, _, _, _, _⟩) (v := ?v65) rfl (by kernel_rfl) (by kernel_rfl) (by kernel_rfl) (fun _ _ _ h => h) ?y65 hS ?_
          case y65 => first | (refine Or.inr ⟨by rfl, ?_⟩; with_reducible rfl) | (refine Or.inl ⟨by rfl, ?_⟩; intro wS hSw; obtain ⟨d0, d1, d2, d3, d4⟩ := hd.out wS hSw; go_simp; try with_reducible rfl)
          simp only [Act.put, List.setIfInBounds_toArray, List.set_cons_zero, List.set_cons_succ]
          refine wpAnyH_take (i := 9) (oi := ⟨_, _, _, _, _, _⟩) (v := ?v66) rfl (by kernel_rfl) (by kernel_rfl) (by kernel_rfl) (fun _ _ _ h => h) ?y66 hS ?_
          case y66 => first | (refine Or.inr ⟨by rfl, ?_⟩; with_reducible rfl) | (refine Or.inl ⟨by rfl, ?_⟩; intro wS hSw; obtain ⟨d0, d1, d2, d3, d4⟩ := hd.out wS hSw; go_simp; try with_reducible rfl)
          simp only [Act.put, List.setIfInBounds_toArray, List.set_cons_zero, List.set_cons_succ]
          refine wpAnyH_take (i := 10) (oi := ⟨_, _, _, _, _, _⟩) (v := ?v67) rfl (by kernel_rfl) (by kernel_rfl) (by kernel_rfl) (fun _ _ _ h => h) ?y67 hS ?_
          case y67 => first | (refine Or.inr ⟨by rfl, ?_⟩; with_reducible rfl) | (refine Or.inl ⟨by rfl, ?_⟩; intro wS hSw; obtain ⟨d0, d1, d2, d3, d4⟩ := hd.out wS hSw; go_simp; try with_reducible rfl)
          simp only [Act.put, List.setIfInBounds_toArray, List.set_cons_zero, List.set_cons_succ]
          refine wpAnyH_ready (rs := [11]) (by kernel_rfl) (by simp) ?_
          refine AllReadyH.cons (o := ⟨_, _, _, _, _, _⟩) rfl (fun K hK => ?_) AllReadyH.nil
          go_simp
          refine (tri_setB q HD.out _ _ _ _ (HT1.out.later (Below.refl _ _).drew)).mono ?_
          rintro e wx ⟨rfl, hTT⟩; have hS := hTT.bel
          go_wp2_with fail
          refine hK.out _ _ hS (fun _ => ?_)
          clear hK K
          try simp only [Act.put, List.setIfInBounds_toArray, List.set_cons_zero, List.set_cons_succ]
          refine wpAnyH_done (by kernel_rfl) ?_ _
          clear hS
          rw [HQ.out, sumL_take W l hkl] at hTT
          have HT2 := Lib.hid hTT
          clear hTT

          go_wp2
          go_roundw
          case rel => exact ⟨k + 1, by omega, by go_num, HT2.out⟩
          case measure => simp [intOf] <;> omega
        · obtain rfl : k = f := by omega
          have hkf : ¬ (k : Int) < k := by omega
          go_wp2_with fail
          refine (far_Begin _ HT.out.fa (by decide)).mono ?_
          rintro e w5 ⟨rfl, hF, hK⟩
          obtain ⟨H2, hH2⟩ : ∃ H2, H2 = AndNew Ha wr w5 := ⟨_, rfl⟩
          rw [← hH2] at hF
          have HD2 : Hid (Dis H2 Hb Hc w.heap.size) := Lib.hid ⟨fun x h h' => by rw [hH2] at h; exact h.elim (fun h => HD.out.ab x h h') (fun h => by have := HT.out.fb.1 x h'; omega), fun x h h' => by rw [hH2] at h; exact h.elim (fun h => HD.out.ac x h h') (fun h => by have := HT.out.fc.1 x h'; omega), HD.out.bc,
            fun x h => by rw [hH2] at h; exact h.elim (HD.out.la x) (fun h => by have := HT.out.bel.size; omega), HD.out.lb, HD.out.lc⟩
          have HT5 : Hid (Tri H2 Hb Hc w w5 a b c W ([] ++ [sumL W (l.take k)] ++ [pFresh]) (sumL W (l.take k)) pFresh) := Lib.hid ⟨hF, HT.out.fb.keep hK (fun x hx h => HD.out.ab x h hx), HT.out.fc.keep hK (fun x hx h => HD.out.ac x h hx), HT.out.bel.trans (hK.below HT.out.bel.size HD.out.la)⟩
          clear hF hK hH2
          go_wp2_with fail
          refine (far_Far _ HT5.out.fa).mono ?_
          rintro e w6 ⟨rfl, hb6⟩
          have HT6 := Lib.hid (HT5.out.later hb6)
          clear hb6
          go_wp2
          obtain ⟨f, rfl⟩ : ∃ f, f = k := ⟨_, rfl⟩
          have hdr0 : (l.take f).drop f = [] := List.drop_eq_nil_of_le (by rw [List.length_take]; omega)
          have HDr := Lib.hid hdr0
          clear hdr0
          go_loopw [14] (fun i w9 => ∃ k : Nat, f ≤ k ∧ k ≤ t ∧ i = .int .i64 k ∧ Tri H2 Hb Hc w w9 a b c W ([] ++ [sumL W (l.take f)] ++ [sumL W ((l.take k).drop f)]) (sumL W (l.take k)) (sumL W ((l.take k).drop f))) (fun i _ => t - (intOf i).toNat)
          case atStart => exact ⟨f, Nat.le_refl _, hft, rfl, by rw [HDr.out, sumL_nil]; exact HT6.out⟩
          case round =>
            obtain ⟨k, hfk, hk, rfl, hT⟩ := hrel
            have HT := Lib.hid hT
            clear hT HT5 HT6
            by_cases hlt : k < t
            · have hkI : (k : Int) < t := by omega
              have hkN : k < t := hlt
              have hkl : k < l.length := by omega
              have hklI : (k : Int) < l.length := by omega
              obtain ⟨b2, off2, rfl, hbl2, d0, d1, d2, d3, d4⟩ := Hcu.out k hkl
              obtain ⟨q, hq⟩ : ∃ q, q = l[k] := ⟨_, rfl⟩
              have HQ := Lib.hid hq
              rw [← hq] at d0 d1 d2 d3 d4
              have hd := Lib.hid (fun w1 (hb : Below w.heap.size w w1) => And.intro (cell_later hb d0) (And.intro (cell_later hb d1) (And.intro (cell_later hb d2) (And.intro (cell_later hb d3) (cell_later hb d4)))))
              clear hq d0 d1 d2 d3 d4
              go_upto_region 21 with (fail)
              refine wp_region_held_drew (S := fun wq => Below w.heap.size w wq) (by kernel_rfl) (HT.out.bel.drew) (fun hS => ?_)
              refine wpAnyH_take (i := 0) (oi := ⟨_, _, _, _, _, _⟩) (v := ?v68) rfl (by kernel_rfl) (by kernel_rfl) (by kernel_rfl) (fun _ _ _ h => h) ?y68 hS ?_
              case y68 => first | (refine Or.inr ⟨by rfl, ?_⟩; with_reducible rfl) | (refine Or.inl ⟨by rfl, ?_⟩; intro wS hSw; obtain ⟨d0, d1, d2, d3, d4⟩ := hd.out wS hSw; go_simp; try with_reducible rfl)
              simp only [Act.put, List.setIfInBounds_toArray, List.set_cons_zero, List.set_cons_succ]
              refine wpAnyH_take (i := 1) (oi := ⟨_, _, _, _, _, _⟩) (v := ?v69) rfl (by kernel_rfl) (by kernel_rfl) (by kernel_rfl) (fun _ _ _ h => h) ?y69 hS ?_
              case y69 => first | (refine Or.inr ⟨by rfl, ?_⟩; with_reducible rfl) | (refine Or.inl ⟨by rfl, ?_⟩; intro wS hSw; obtain ⟨d0, d1, d2, d3, d4⟩ := hd.out wS hSw; go_simp; try with_reducible rfl)
              simp only [Act.put, List.setIfInBounds_toArray, List.set_cons_zero, List.set_cons_succ]
              refine wpAnyH_take (i := 2) (oi := ⟨_, _, _, _, _, _⟩) (v := ?v70) rfl (by kernel_rfl) (by kernel_rfl) (by kernel_rfl) (fun _ _ _ h => h) ?y70 hS ?_
              case y70 => first | (refine Or.inr ⟨by rfl, ?_⟩; with_reducible rfl) | (refine Or.inl ⟨by rfl, ?_⟩; intro wS hSw; obtain ⟨d0, d1, d2, d3, d4⟩ := hd.out wS hSw; go_simp; try with_reducible rfl)
              simp only [Act.put, List.setIfInBounds_toArray, List.set_cons_zero, List.set_cons_succ]
              refine wpAnyH_take (i := 3) (oi := ⟨_, _, _, _, _, _⟩) (v := ?v71) rfl (by kernel_rfl) (by kernel_rfl) (by kernel_rfl) (fun _ _ _ h => h) ?y71 hS ?_
              case y71 => first | (refine Or.inr ⟨by rfl, ?_⟩; with_reducible rfl) | (refine Or.inl ⟨by rfl, ?_⟩; intro wS hSw; obtain ⟨d0, d1, d2, d3, d4⟩ := hd.out wS hSw; go_simp; try with_reducible rfl)
              simp only [Act.put, List.setIfInBounds_toArray, List.set_cons_zero, List.set_cons_succ]
              refine wpAnyH_take (i := 4) (oi := ⟨_, _, _, _, _, _⟩) (v := ?v72) rfl (by kernel_rfl) (by kernel_rfl) (by kernel_rfl) (fun _ _ _ h => h) ?y72 hS ?_
              case y72 => first | (refine Or.inr ⟨by rfl, ?_⟩; with_reducible rfl) | (refine Or.inl ⟨by rfl, ?_⟩; intro wS hSw; obtain ⟨d0, d1, d2, d3, d4⟩ := hd.out wS hSw; go_simp; try with_reducible rfl)
              simp only [Act.put, List.setIfInBounds_toArray, List.set_cons_zero, List.set_cons_succ]
              refine wpAnyH_take (i := 5) (oi := ⟨_, _, _, _, _, _⟩) (v := ?v73) rfl (by kernel_rfl) (by kernel_rfl) (by kernel_rfl) (fun _ _ _ h => h) ?y73 hS ?_
              case y73 => first | (refine Or.inr ⟨by rfl, ?_⟩; with_reducible rfl) | (refine Or.inl ⟨by rfl, ?_⟩; intro wS hSw; obtain ⟨d0, d1, d2, d3, d4⟩ := hd.out wS hSw; go_simp; try with_reducible rfl)
              simp only [Act.put, List.setIfInBounds_toArray, List.set_cons_zero, List.set_cons_succ]
              refine wpAnyH_take (i := 6) (oi := ⟨_, _, _, _, _, _⟩) (v := ?v74) rfl (by kernel_rfl) (by kernel_rfl) (by kernel_rfl) (fun _ _ _ h => h) ?y74 hS ?_
              case y74 => first | (refine Or.inr ⟨by rfl, ?_⟩; with_reducible rfl) | (refine Or.inl ⟨by rfl, ?_⟩; intro wS hSw; obtain ⟨d0, d1, d2, d3, d4⟩ := hd.out wS hSw; go_simp; try with_reducible rfl)
              simp only [Act.put, List.setIfInBounds_toArray, List.set_cons_zero, List.set_cons_succ]
              refine wpAnyH_take (i := 7) (oi := ⟨_, _, _, _, _, _⟩) (v := ?v75) rfl (by kernel_rfl) (by kernel_rfl) (by kernel_rfl) (fun _ _ _ h => h) ?y75 hS ?_
              case y75 => first | (refine Or.inr ⟨by rfl, ?_⟩; with_reducible rfl) | (refine Or.inl ⟨by rfl, ?_⟩; intro wS hSw; obtain ⟨d0, d1, d2, d3, d4⟩ := hd.out wS hSw; go_simp; try with_reducible rfl)
              simp only [Act.put, List.setIfInBounds_toArray, List.set_cons_zero, List.set_cons_succ]
              refine wpAnyH_take (i := 8) (oi := ⟨_, _, _, _, _, _⟩) (v := ?v76) rfl (by kernel_rfl) (by kernel_rfl) (by kernel_rfl) (fun _ _ _ h => h) ?y76 hS ?_
              case y76 => first | (refine Or.inr ⟨by rfl, ?_⟩; with_reducible rfl) | (refine Or.inl ⟨by rfl, ?_⟩; intro wS hSw; obtain ⟨d0, d1, d2, d3, d4⟩ := hd.out wS hSw; go_simp; try with_reducible rfl)
              simp only [Act.put, List.setIfInBounds_toArray, List.set_cons_zero, List.set_cons_succ]
              refine wpAnyH_take (i := 9) (oi := ⟨_, _, _, _, _, _⟩) (v := ?v77) rfl (by kernel_rfl) (by kernel_rfl) (by kernel_rfl) (fun _ _ _ h => h) ?y77 hS ?_
              case y77 => first | (refine Or.inr ⟨by rfl, ?_⟩; with_reducible rfl) | (refine Or.inl ⟨by rfl, ?_⟩; intro wS hSw; obtain ⟨d0, d1, d2, d3, d4⟩ := hd.out wS hSw; go_simp; try with_reducible rfl)
              simp only [Act.put, List.setIfInBounds_toArray, List.set_cons_zero, List.set_cons_succ]
              refine wpAnyH_take (i := 10) (oi := ⟨_, _, _, _, _, _⟩) (v := ?v78) rfl (by kernel_rfl) (by kernel_rfl) (by kernel_rfl) (fun _ _ _ h => h) ?y78 hS ?_
              case y78 => first | (refine Or.inr ⟨by rfl, ?_⟩; with_reducible rfl) | (refine Or.inl ⟨by rfl, ?_⟩; intro wS hSw; obtain ⟨d0, d1, d2, d3, d4⟩ := hd.out wS hSw; go_simp; try with_reducible rfl)
              simp only [Act.put, List.setIfInBounds_toArray, List.set_cons_zero, List.set_cons_succ]
              refine wpAnyH_ready (rs := [11]) (by kernel_rfl) (by simp) ?_
              refine AllReadyH.cons (o := ⟨_, _, _, _, _, _⟩) rfl (fun K hK => ?_) AllReadyH.nil
              go_simp
              refine (tri_setA q HD2.out _ _ _ _ _ (HT.out.later (Below.refl _ _).drew)).mono ?_
              rintro e wx ⟨rfl, hTT⟩; have hS := hTT.bel
              go_wp2_with fail
              refine hK.out _ _ hS (fun _ => ?_)
              clear hK K
              try simp only [Act.put, List.setIfInBounds_toArray, List.set_cons_zero, List.set_cons_succ]
              refine wpAnyH_done (by kernel_rfl) ?_ _
              clear hS
              rw [HQ.out, sumL_mid W l hkl hfk] at hTT
              have HT1 := Lib.hid hTT
              clear hTT

              go_upto_region 22 with (fail)
              refine wp_region_held_drew (S := fun wq => Below w.heap.size w wq) (by kernel_rfl) (HT1.out.bel.drew) (fun hS => ?_)
              refine wpAnyH_take (i := 0) (oi := ⟨_, _, _, _, _, _⟩) (v := ?v79) rfl (by kernel_rfl) (by kernel_rfl) (by kernel_rfl) (fun _ _ _ h => h) ?y79 hS ?_
              case y79 => first | (refine Or.inr ⟨by rfl, ?_⟩; with_reducible rfl) | (refine Or.inl ⟨by rfl, ?_⟩; intro wS hSw; obtain ⟨d0, d1, d2, d3, d4⟩ := hd.out wS hSw; go_simp; try with_reducible rfl)
              simp only [Act.put, List.setIfInBounds_toArray, List.set_cons_zero, List.set_cons_succ]
              refine wpAnyH_take (i := 1) (oi := ⟨_, _, _, _, _, _⟩) (v := ?v80) rfl (by kernel_rfl) (by kernel_rfl) (by kernel_rfl) (fun _ _ _ h => h) ?y80 hS ?_
              case y80 => first | (refine Or.inr ⟨by rfl, ?_⟩; with_reducible rfl) | (refine Or.inl ⟨by rfl, ?_⟩; intro wS hSw; obtain ⟨d0, d1, d2, d3, d4⟩ := hd.out wS hSw; go_simp; try with_reducible rfl)
              simp only [Act.put, List.setIfInBounds_toArray, List.set_cons_zero, List.set_cons_succ]
              refine wpAnyH_take (i := 2) (oi := ⟨_, _, _, _, _, _⟩) (v := ?v81) rfl (by kernel_rfl) (by kernel_rfl) (by kernel_rfl) (fun _ _ _ h => h) ?y81 hS ?_
              case y81 => first | (refine Or.inr ⟨by rfl, ?_⟩; with_reducible rfl) | (refine Or.inl ⟨by rfl, ?_⟩; intro wS hSw; obtain ⟨d0, d1, d2, d3, d4⟩ := hd.out wS hSw; go_simp; try with_reducible rfl)
              simp only [Act.put, List.setIfInBounds_toArray, List.set_cons_zero, List.set_cons_succ]
              refine wpAnyH_take (i := 3) (oi := ⟨_, _, _, _, _, _⟩) (v := ?v82) rfl (by kernel_rfl) (by kernel_rfl) (by kernel_rfl) (fun _ _ _ h => h) ?y82 hS ?_
              case y82 => first | (refine Or.inr ⟨by rfl, ?_⟩; with_reducible rfl) | (refine Or.inl ⟨by rfl, ?_⟩; intro wS hSw; obtain ⟨d0, d1, d2, d3, d4⟩ := hd.out wS hSw; go_simp; try with_reducible rfl)
              simp only [Act.put, List.setIfInBounds_toArray, List.set_cons_zero, List.set_cons_succ]
              refine wpAnyH_take (i := 4) (oi := ⟨_, _, _, _, _, _⟩) (v := ?v83) rfl (by kernel_rfl) (by kernel_rfl) (by kernel_rfl) (fun _ _ _ h => h) ?y83 hS ?_
              case y83 => first | (refine Or.inr ⟨by rfl, ?_⟩; with_reducible rfl) | (refine Or.inl ⟨by rfl, ?_⟩; intro wS hSw; obtain ⟨d0, d1, d2, d3, d4⟩ := hd.out wS hSw; go_simp; try with_reducible rfl)
              simp only [Act.put, List.setIfInBounds_toArray, List.set_cons_zero, List.set_cons_succ]
              refine wpAnyH_take (i := 5) (oi := ⟨_, _, _, _, _, _⟩) (v := ?v84) rfl (by kernel_rfl) (by kernel_rfl) (by kernel_rfl) (fun _ _ _ h => h) ?y84 hS ?_
              case y84 => first | (refine Or.inr ⟨by rfl, ?_⟩; with_reducible rfl) | (refine Or.inl ⟨by rfl, ?_⟩; intro wS hSw; obtain ⟨d0, d1, d2, d3, d4⟩ := hd.out wS hSw; go_simp; try with_reducible rfl)
              simp only [Act.put, List.setIfInBounds_toArray, List.set_cons_zero, List.set_cons_succ]
              refine wpAnyH_take (i := 6) (oi := ⟨_, _, _, _, _, _⟩) (v := ?v85) rfl (by kernel_rfl) (by kernel_rfl) (by kernel_rfl) (fun _ _ _ h => h) ?y85 hS ?_
              case y85 => first | (refine Or.inr ⟨by rfl, ?_⟩; with_reducible rfl) | (refine Or.inl ⟨by rfl, ?_⟩; intro wS hSw; obtain ⟨d0, d1, d2, d3, d4⟩ := hd.out wS hSw; go_simp; try with_reducible rfl)
              simp only [Act.put, List.setIfInBounds_toArray, List.set_cons_zero, List.set_cons_succ]
              refine wpAnyH_take (i := 7) (oi := ⟨_, _, _, _, _, _⟩) (v := ?v86) rfl (by kernel_rfl) (by kernel_rfl) (by kernel_rfl) (fun _ _ _ h => h) ?y86 hS ?_
              case y86 => first | (refine Or.inr ⟨by rfl, ?_⟩; with_reducible rfl) | (refine Or.inl ⟨by rfl, ?_⟩; intro wS hSw; obtain ⟨d0, d1, d2, d3, d4⟩ := hd.out wS hSw; go_simp; try with_reducible rfl)
              simp only [Act.put, List.setIfInBounds_toArray, List.set_cons_zero, List.set_cons_succ]
              refine wpAnyH_take (i := 8) (oi := ⟨_, _, _, _, _, _⟩) (v := ?v87) rfl (by kernel_rfl) (by kernel_rfl) (by kernel_rfl) (fun _ _ _ h => h) ?y87 hS ?_
              case y87 => first | (refine Or.inr ⟨by rfl, ?_⟩; with_reducible rfl) | (refine Or.inl ⟨by rfl, ?_⟩; intro wS hSw; obtain ⟨d0, d1, d2, d3, d4⟩ := hd.out wS hSw; go_simp; try with_reducible rfl)
              simp only [Act.put, List.setIfInBounds_toArray, List.set_cons_zero, List.set_cons_succ]
              refine wpAnyH_take (i := 9) (oi := ⟨_, _, _, _, _, _⟩) (v := ?v88) rfl (by kernel_rfl) (by kernel_rfl) (by kernel_rfl) (fun _ _ _ h => h) ?y88 hS ?_
              case y88 => first | (refine Or.inr ⟨by rfl, ?_⟩; with_reducible rfl) | (refine Or.inl ⟨by rfl, ?_⟩; intro wS hSw; obtain ⟨d0, d1, d2, d3, d4⟩ := hd.out wS hSw; go_simp; try with_reducible rfl)
              simp only [Act.put, List.setIfInBounds_toArray, List.set_cons_zero, List.set_cons_succ]
              refine wpAnyH_take (i := 10) (oi := ⟨_, _, _, _, _, _⟩) (v := ?v89) rfl (by kernel_rfl) (by kernel_rfl) (by kernel_rfl) (fun _ _ _ h => h) ?y89 hS ?_
              case y89 => first | (refine Or.inr ⟨by rfl, ?_⟩; with_reducible rfl) | (refine Or.inl ⟨by rfl, ?_⟩; intro wS hSw; obtain ⟨d0, d1, d2, d3, d4⟩ := hd.out wS hSw; go_simp; try with_reducible rfl)
              simp only [Act.put, List.setIfInBounds_toArray, List.set_cons_zero, List.set_cons_succ]
              refine wpAnyH_ready (rs := [11]) (by kernel_rfl) (by simp) ?_
              refine AllReadyH.cons (o := ⟨_, _, _, _, _, _⟩) rfl (fun K hK => ?_) AllReadyH.nil
              go_simp
              refine (tri_setB q HD2.out _ _ _ _ (HT1.out.later (Below.refl _ _).drew)).mono ?_
              rintro e wx ⟨rfl, hTT⟩; have hS := hTT.bel
              go_wp2_with fail
              refine hK.out _ _ hS (fun _ => ?_)
              clear hK K
              try simp only [Act.put, List.setIfInBounds_toArray, List.set_cons_zero, List.set_cons_succ]
              refine wpAnyH_done (by kernel_rfl) ?_ _
              clear hS
              rw [HQ.out, sumL_take W l hkl] at hTT
              have HT2 := Lib.hid hTT
              clear hTT

              go_upto_region 23 with (fail)
              refine wp_region_held_drew (S := fun wq => Below w.heap.size w wq) (by kernel_rfl) (HT2.out.bel.drew) (fun hS => ?_)
              refine wpAnyH_take (i := 0) (oi := ⟨_, _, _, _, _, _⟩) (v := ?v90) rfl (by kernel_rfl) (by kernel_rfl) (by kernel_rfl) (fun _ _ _ h => h) ?y90 hS ?_
              case y90 => first | (refine Or.inr ⟨by rfl, ?_⟩; with_reducible rfl) | (refine Or.inl ⟨by rfl, ?_⟩; intro wS hSw; obtain ⟨d0, d1, d2, d3, d4⟩ := hd.out wS hSw; go_simp; try with_reducible rfl)
              simp only [Act.put, List.setIfInBounds_toArray, List.set_cons_zero, List.set_cons_succ]
              refine wpAnyH_take (i := 1) (oi := ⟨_, _, _, _, _, _⟩) (v := ?v91) rfl (by kernel_rfl) (by kernel_rfl) (by kernel_rfl) (fun _ _ _ h => h) ?y91 hS ?_
              case y91 => first | (refine Or.inr ⟨by rfl, ?_⟩; with_reducible rfl) | (refine Or.inl ⟨by rfl, ?_⟩; intro wS hSw; obtain ⟨d0, d1, d2, d3, d4⟩ := hd.out wS hSw; go_simp; try with_reducible rfl)
              simp only [Act.put, List.setIfInBounds_toArray, List.set_cons_zero, List.set_cons_succ]
              refine wpAnyH_take (i := 2) (oi := ⟨_, _, _, _, _, _⟩) (v := ?v92) rfl (by kernel_rfl) (by kernel_rfl) (by kernel_rfl) (fun _ _ _ h => h) ?y92 hS ?_
              case y92 => first | (refine Or.inr ⟨by rfl, ?_⟩; with_reducible rfl) | (refine Or.inl ⟨by rfl, ?_⟩; intro wS hSw; obtain ⟨d0, d1, d2, d3, d4⟩ := hd.out wS hSw; go_simp; try with_reducible rfl)
              simp only [Act.put, List.setIfInBounds_toArray, List.set_cons_zero, List.set_cons_succ]
              refine wpAnyH_take (i := 3) (oi := ⟨_, _, _, _, _, _⟩) (v := ?v93) rfl (by kernel_rfl) (by kernel_rfl) (by kernel_rfl) (fun _ _ _ h => h) ?y93 hS ?_
              case y93 => first | (refine Or.inr ⟨by rfl, ?_⟩; with_reducible rfl) | (refine Or.inl ⟨by rfl, ?_⟩; intro wS hSw; obtain ⟨d0, d1, d2, d3, d4⟩ := hd.out wS hSw; go_simp; try with_reducible rfl)
              simp only [Act.put, List.setIfInBounds_toArray, List.set_cons_zero, List.set_cons_succ]
              refine wpAnyH_take (i := 4) (oi := ⟨_, _, _, _, _, _⟩) (v := ?v94) rfl (by kernel_rfl) (by kernel_rfl) (by kernel_rfl) (fun _ _ _ h => h) ?y94 hS ?_
              case y94 => first | (refine Or.inr ⟨by rfl, ?_⟩; with_reducible rfl) | (refine Or.inl ⟨by rfl, ?_⟩; intro wS hSw; obtain ⟨d0, d1, d2, d3, d4⟩ := hd.out wS hSw; go_simp; try with_reducible rfl)
              simp only [Act.put, List.setIfInBounds_toArray, List.set_cons_zero, List.set_cons_succ]
              refine wpAnyH_take (i := 5) (oi := ⟨_, _, _, _, _, _⟩) (v := ?v95) rfl (by kernel_rfl) (by kernel_rfl) (by kernel_rfl) (fun _ _ _ h => h) ?y95 hS ?_
              case y95 => first | (refine Or.inr ⟨by rfl, ?_⟩; with_reducible rfl) | (refine Or.inl ⟨by rfl, ?_⟩; intro wS hSw; obtain ⟨d0, d1, d2, d3, d4⟩ := hd.out wS hSw; go_simp; try with_reducible rfl)
              simp only [Act.put, List.setIfInBounds_toArray, List.set_cons_zero, List.set_cons_succ]
              refine wpAnyH_take (i := 6) (oi := ⟨_, _, _, _, _, _⟩) (v := ?v96) rfl (by kernel_rfl) (by kernel_rfl) (by kernel_rfl) (fun _ _ _ h => h) ?y96 hS ?_
              case y96 => first | (refine Or.inr ⟨by rfl, ?_⟩; with_reducible rfl) | (refine Or.inl ⟨by rfl, ?_⟩; intro wS hSw; obtain ⟨d0, d1, d2, d3, d4⟩ := hd.out wS hSw; go_simp; try with_reducible rfl)
              simp only [Act.put, List.setIfInBounds_toArray, List.set_cons_zero, List.set_cons_succ]
              refine wpAnyH_take (i := 7) (oi := ⟨_, _, _, _, _, _⟩) (v := ?v97) rfl (by kernel_rfl) (by kernel_rfl) (by kernel_rfl) (fun _ _ _ h => h) ?y97 hS ?_
              case y97 => first | (refine Or.inr ⟨by rfl, ?_⟩; with_reducible rfl) | (refine Or.inl ⟨by rfl, ?_⟩; intro wS hSw; obtain ⟨d0, d1, d2, d3, d4⟩ := hd.out wS hSw; go_simp; try with_reducible rfl)
              simp only [Act.put, List.setIfInBounds_toArray, List.set_cons_zero, List.set_cons_succ]
              refine wpAnyH_take (i := 8) (oi := ⟨_, _, _, _, _, _⟩) (v := ?v98) rfl (by kernel_rfl) (by kernel_rfl) (by kernel_rfl) (fun _ _ _ h => h) ?y98 hS ?_
              case y98 => first | (refine Or.inr ⟨by rfl, ?_⟩; with_reducible rfl) | (refine Or.inl ⟨by rfl, ?_⟩; intro wS hSw; obtain ⟨d0, d1, d2, d3, d4⟩ := hd.out wS hSw; go_simp; try with_reducible rfl)
              simp only [Act.put, List.setIfInBounds_toArray, List.set_cons_zero, List.set_cons_succ]
              refine wpAnyH_take (i := 9) (oi := ⟨_, _, _, _, _, _⟩) (v := ?v99) rfl (by kernel_rfl) (by kernel_rfl) (by kernel_rfl) (fun _ _ _ h => h) ?y99 hS ?_
              case y99 => first | (refine Or.inr ⟨by rfl, ?_⟩; with_reducible rfl) | (refine Or.inl ⟨by rfl, ?_⟩; intro wS hSw; obtain ⟨d0, d1, d2, d3, d4⟩ := hd.out wS hSw; go_simp; try with_reducible rfl)
              simp only [Act.put, List.setIfInBounds_toArray, List.set_cons_zero, List.set_cons_succ]
              refine wpAnyH_take (i := 10) (oi := ⟨_, _, _, _, _, _⟩) (v := ?v100) rfl (by kernel_rfl) (by kernel_rfl) (by kernel_rfl) (fun _ _ _ h => h) ?y100 hS ?_
              case y100 => first | (refine Or.inr ⟨by rfl, ?_⟩; with_reducible rfl) | (refine Or.inl ⟨by rfl, ?_⟩; intro wS hSw; obtain ⟨d0, d1, d2, d3, d4⟩ := hd.out wS hSw; go_simp; try with_reducible rfl)
              simp only [Act.put, List.setIfInBounds_toArray, List.set_cons_zero, List.set_cons_succ]
              refine wpAnyH_ready (rs := [11]) (by kernel_rfl) (by simp) ?_
              refine AllReadyH.cons (o := ⟨_, _, _, _, _, _⟩) rfl (fun K hK => ?_) AllReadyH.nil
              go_simp
              refine (tri_setC q HD2.out _ _ _ _ (HT2.out.later (Below.refl _ _).drew)).mono ?_
              rintro e wx ⟨rfl, hTT⟩; have hS := hTT.bel
              go_wp2_with fail
              refine hK.out _ _ hS (fun _ => ?_)
              clear hK K
              try simp only [Act.put, List.setIfInBounds_toArray, List.set_cons_zero, List.set_cons_succ]
              refine wpAnyH_done (by kernel_rfl) ?_ _
              clear hS
              rw [HQ.out, sumL_mid W l hkl hfk] at hTT
              have HT3 := Lib.hid hTT
              clear hTT

              go_wp2
              go_roundw
              case rel => exact ⟨k + 1, by omega, by omega, by go_num, HT3.out⟩
              case measure => simp [intOf] <;> omega
            · obtain rfl : k = t := by omega
              have hkt : ¬ (k : Int) < k := by omega
              have hj : l.take f ++ (l.take k).drop f = l.take k := by
                have h := List.take_append_drop f (l.take k)
                rw [List.take_take, Nat.min_eq_left hfk] at h
                exact h
              have hjn : endP (sumL W (l.take f)) (sumL W ((l.take k).drop f)) = sumL W (l.take k) := by rw [sumL_join, hj]
              obtain ⟨pm, hpm⟩ : ∃ pm, pm = sumL W ((l.take k).drop f) := ⟨_, rfl⟩
              have hok : pm = pFresh ∨ 0 ≤ pm.1 := by rw [hpm]; exact sumL_ok _ _
              rw [← hpm] at HT hjn
              have HJ := Lib.hid hjn
              have HOk := Lib.hid hok
              have hqc := eqc_10000
              clear hj hjn hok hpm
              go_wp2_with fail
              refine (far_HopedA _ HT.out.fa).mono ?_
              rintro e w7 ⟨rfl, hb7⟩
              have HT7 := Lib.hid (HT.out.later hb7)
              clear hb7
              go_wp2_with fail
              obtain ⟨x, hx⟩ : ∃ x, x = w7.heap.size := ⟨_, rfl⟩
              have hbox : (w7.alloc (.cells (clc pm.2) 29 (0, 0))).heap[x]? = some (.cells (clc pm.2) 29 (0, 0)) := by rw [hx]; exact heap_alloc_new _ _
              have HBx := Lib.hid hbox
              have hxH : ¬ H2 x := fun h => by have := HT7.out.fa.1 x h; omega
              have HXh := Lib.hid hxH
              rw [← hx]
              clear hbox hxH hx
              refine (far_End _ (HT7.out.later ((Below.refl _ _).alloc (Nat.le_refl _) _)).fa (by decide) HOk.out).mono ?_
              rintro e w8 ⟨rfl, hF8, hK8⟩
              rw [HJ.out] at hF8
              have hS26 : Tri H2 Hb Hc w w8 a b c W ([] ++ [sumL W (l.take k)]) (sumL W (l.take k)) pm ∧ w8.heap[x]? = some (.cells (clc pm.2) 29 (0, 0)) := by
                have h8 := HT7.out.later ((Below.refl _ _).alloc (Nat.le_refl _) (.cells (clc pm.2) 29 (0, 0)))
                exact ⟨⟨hF8, h8.fb.keep hK8 (fun k hk h => HD2.out.ab k h hk), h8.fc.keep hK8 (fun k hk h => HD2.out.ac k h hk), h8.bel.trans (hK8.below h8.bel.size HD2.out.la)⟩, hK8.obj HBx.out HXh.out⟩
              have HS26 := Lib.hid hS26
              clear hS26 hF8 hK8
              obtain ⟨pt, hpt⟩ : ∃ pt, pt = sumL W (l.take k) := ⟨_, rfl⟩
              have HPt := Lib.hid hpt
              rw [← hpt] at HS26
              clear hpt
              have CF := Lib.hid (fun w1 (h : Tri H2 Hb Hc w w1 a b c W ([] ++ [pt]) pt pm ∧ w1.heap[x]? = some (.cells (clc pm.2) 29 (0, 0))) => And.intro (s26 h (far_Far w1 h.1.fc)) (And.intro (s26 h (far_HopedA w1 h.1.fc)) (And.intro (s26 h (far_Far w1 h.1.fa)) (And.intro (s26 h (far_Far w1 h.1.fb)) (And.intro (s26 h (far_HopedA w1 h.1.fa)) (s26 h (far_HopedA w1 h.1.fb)))))))
              go_upto_region 26 with (fail)
              refine wp_region_held_drew (S := fun wq => Tri H2 Hb Hc w wq a b c W ([] ++ [pt]) pt pm ∧ wq.heap[x]? = some (.cells (clc pm.2) 29 (0, 0))) (by kernel_rfl) (And.intro (HS26.out.1.later (Below.refl _ _).drew) HS26.out.2) (fun hS => ?_)
              refine wpAnyH_take (i := 0) (oi := ⟨_, _, _, _, _, _⟩) (v := ?v1) rfl (by kernel_rfl) (by kernel_rfl) (by kernel_rfl) (fun _ _ _ h => h) ?y1 hS ?_
              case y1 => first | (refine Or.inr ⟨by rfl, ?_⟩; with_reducible rfl) | (refine Or.inl ⟨by rfl, ?_⟩; intro wS hSw; obtain ⟨⟨x0, _⟩, ⟨x1, _⟩, ⟨x2, _⟩, ⟨x3, _⟩⟩ := four_cells hSw.2; go_simp; try with_reducible rfl)
              simp only [Act.put, List.setIfInBounds_toArray, List.set_cons_zero, List.set_cons_succ]
              refine wpAnyH_take (i := 1) (oi := ⟨_, _, _, _, _, _⟩) (v := ?v2) rfl (by kernel_rfl) (by kernel_rfl) (by kernel_rfl) (fun _ _ _ h => h) ?y2 hS ?_
              case y2 => first | (refine Or.inr ⟨by rfl, ?_⟩; with_reducible rfl) | (refine Or.inl ⟨by rfl, ?_⟩; intro wS hSw; obtain ⟨⟨x0, _⟩, ⟨x1, _⟩, ⟨x2, _⟩, ⟨x3, _⟩⟩ := four_cells hSw.2; go_simp; try with_reducible rfl)
              simp only [Act.put, List.setIfInBounds_toArray, List.set_cons_zero, List.set_cons_succ]
              refine wpAnyH_take (i := 2) (oi := ⟨_, _, _, _, _, _⟩) (v := ?v3) rfl (by kernel_rfl) (by kernel_rfl) (by kernel_rfl) (fun _ _ _ h => h) ?y3 hS ?_
              case y3 => first | (refine Or.inr ⟨by rfl, ?_⟩; with_reducible rfl) | (refine Or.inl ⟨by rfl, ?_⟩; intro wS hSw; obtain ⟨⟨x0, _⟩, ⟨x1, _⟩, ⟨x2, _⟩, ⟨x3, _⟩⟩ := four_cells hSw.2; go_simp; try with_reducible rfl)
              simp only [Act.put, List.setIfInBounds_toArray, List.set_cons_zero, List.set_cons_succ]
              refine wpAnyH_take (i := 3) (oi := ⟨_, _, _, _, _, _⟩) (v := ?v4) rfl (by kernel_rfl) (by kernel_rfl) (by kernel_rfl) (fun _ _ _ h => h) ?y4 hS ?_
              case y4 => first | (refine Or.inr ⟨by rfl, ?_⟩; with_reducible rfl) | (refine Or.inl ⟨by rfl, ?_⟩; intro wS hSw; obtain ⟨⟨x0, _⟩, ⟨x1, _⟩, ⟨x2, _⟩, ⟨x3, _⟩⟩ := four_cells hSw.2; go_simp; try with_reducible rfl)
              simp only [Act.put, List.setIfInBounds_toArray, List.set_cons_zero, List.set_cons_succ]
              refine wpAnyH_take (i := 4) (oi := ⟨_, _, _, _, _, _⟩) (v := ?v5) rfl (by kernel_rfl) (by kernel_rfl) (by kernel_rfl) (fun _ _ _ h => h) ?y5 hS ?_
              case y5 => first | (refine Or.inr ⟨by rfl, ?_⟩; with_reducible rfl) | (refine Or.inl ⟨by rfl, ?_⟩; intro wS hSw; obtain ⟨⟨x0, _⟩, ⟨x1, _⟩, ⟨x2, _⟩, ⟨x3, _⟩⟩ := four_cells hSw.2; go_simp; try with_reducible rfl)
              simp only [Act.put, List.setIfInBounds_toArray, List.set_cons_zero, List.set_cons_succ]
              refine wpAnyH_ready (rs := [5]) (by kernel_rfl) (by simp) ?_
              refine AllReadyH.cons (o := ⟨_, _, _, _, _, _⟩) rfl (fun K hK => ?_) AllReadyH.nil
              go_simp
              refine ((CF.out _ hS).1).mono ?_
              rintro e wx ⟨rfl, hS⟩
              go_wp2_with fail
              refine hK.out _ _ hS (fun _ => ?_)
              clear hK K
              try simp only [Act.put, List.setIfInBounds_toArray, List.set_cons_zero, List.set_cons_succ]
              refine wpAnyH_take (i := 6) (oi := ⟨_, _, _, _, _, _⟩) (v := ?v6) rfl (by kernel_rfl) (by kernel_rfl) (by kernel_rfl) (fun _ _ _ h => h) ?y6 hS ?_
              case y6 => first | (refine Or.inr ⟨by rfl, ?_⟩; with_reducible rfl) | (refine Or.inl ⟨by rfl, ?_⟩; intro wS hSw; obtain ⟨⟨x0, _⟩, ⟨x1, _⟩, ⟨x2, _⟩, ⟨x3, _⟩⟩ := four_cells hSw.2; go_simp; try with_reducible rfl)
              simp only [Act.put, List.setIfInBounds_toArray, List.set_cons_zero, List.set_cons_succ]
              refine wpAnyH_take (i := 7) (oi := ⟨_, _, _, _, _, _⟩) (v := ?v7) rfl (by kernel_rfl) (by kernel_rfl) (by kernel_rfl) (fun _ _ _ h => h) ?y7 hS ?_
              case y7 => first | (refine Or.inr ⟨by rfl, ?_⟩; with_reducible rfl) | (refine Or.inl ⟨by rfl, ?_⟩; intro wS hSw; obtain ⟨⟨x0, _⟩, ⟨x1, _⟩, ⟨x2, _⟩, ⟨x3, _⟩⟩ := four_cells hSw.2; go_simp; try with_reducible rfl)
              simp only [Act.put, List.setIfInBounds_toArray, List.set_cons_zero, List.set_cons_succ]
              refine wpAnyH_take (i := 8) (oi := ⟨_, _, _, _, _, _⟩) (v := ?v8) rfl (by kernel_rfl) (by kernel_rfl) (by kernel_rfl) (fun _ _ _ h => h) ?y8 hS ?_
              case y8 => first | (refine Or.inr ⟨by rfl, ?_⟩; with_reducible rfl) | (refine Or.inl ⟨by rfl, ?_⟩; intro wS hSw; obtain ⟨⟨x0, _⟩, ⟨x1, _⟩, ⟨x2, _⟩, ⟨x3, _⟩⟩ := four_cells hSw.2; go_simp; try with_reducible rfl)
              simp only [Act.put, List.setIfInBounds_toArray, List.set_cons_zero, List.set_cons_succ]
              refine wpAnyH_take (i := 9) (oi := ⟨_, _, _, _, _, _⟩) (v := ?v9) rfl (by kernel_rfl) (by kernel_rfl) (by kernel_rfl) (fun _ _ _ h => h) ?y9 hS ?_
              case y9 => first | (refine Or.inr ⟨by rfl, ?_⟩; with_reducible rfl) | (refine Or.inl ⟨by rfl, ?_⟩; intro wS hSw; obtain ⟨⟨x0, _⟩, ⟨x1, _⟩, ⟨x2, _⟩, ⟨x3, _⟩⟩ := four_cells hSw.2; go_simp; try with_reducible rfl)
              simp only [Act.put, List.setIfInBounds_toArray, List.set_cons_zero, List.set_cons_succ]
              refine wpAnyH_take (i := 10) (oi := ⟨_, _, _, _, _, _⟩) (v := ?v10) rfl (by kernel_rfl) (by kernel_rfl) (by kernel_rfl) (fun _ _ _ h => h) ?y10 hS ?_
              case y10 => first | (refine Or.inr ⟨by rfl, ?_⟩; with_reducible rfl) | (refine Or.inl ⟨by rfl, ?_⟩; intro wS hSw; obtain ⟨⟨x0, _⟩, ⟨x1, _⟩, ⟨x2, _⟩, ⟨x3, _⟩⟩ := four_cells hSw.2; go_simp; try with_reducible rfl)
              simp only [Act.put, List.setIfInBounds_toArray, List.set_cons_zero, List.set_cons_succ]
              refine wpAnyH_ready (rs := [11]) (by kernel_rfl) (by simp) ?_
              refine AllReadyH.cons (o := ⟨_, _, _, _, _, _⟩) rfl (fun K hK => ?_) AllReadyH.nil
              go_simp
              refine ((CF.out _ hS).2.1).mono ?_
              rintro e wx ⟨rfl, hS⟩
              go_wp2_with fail
              refine hK.out _ _ hS (fun _ => ?_)
              clear hK K
              try simp only [Act.put, List.setIfInBounds_toArray, List.set_cons_zero, List.set_cons_succ]
              refine wpAnyH_take (i := 12) (oi := ⟨_, _, _, _, _, _⟩) (v := ?v11) rfl (by kernel_rfl) (by kernel_rfl) (by kernel_rfl) (fun _ _ _ h => h) ?y11 hS ?_
              case y11 => first | (refine Or.inr ⟨by rfl, ?_⟩; with_reducible rfl) | (refine Or.inl ⟨by rfl, ?_⟩; intro wS hSw; obtain ⟨⟨x0, _⟩, ⟨x1, _⟩, ⟨x2, _⟩, ⟨x3, _⟩⟩ := four_cells hSw.2; go_simp; try with_reducible rfl)
              simp only [Act.put, List.setIfInBounds_toArray, List.set_cons_zero, List.set_cons_succ]
              refine wpAnyH_take (i := 13) (oi := ⟨_, _, _, _, _, _⟩) (v := ?v12) rfl (by kernel_rfl) (by kernel_rfl) (by kernel_rfl) (fun _ _ _ h => h) ?y12 hS ?_
              case y12 => first | (refine Or.inr ⟨by rfl, ?_⟩; with_reducible rfl) | (refine Or.inl ⟨by rfl, ?_⟩; intro wS hSw; obtain ⟨⟨x0, _⟩, ⟨x1, _⟩, ⟨x2, _⟩, ⟨x3, _⟩⟩ := four_cells hSw.2; go_simp; try with_reducible rfl)
              simp only [Act.put, List.setIfInBounds_toArray, List.set_cons_zero, List.set_cons_succ]
              refine wpAnyH_take (i := 14) (oi := ⟨_, _, _, _, _, _⟩) (v := ?v13) rfl (by kernel_rfl) (by kernel_rfl) (by kernel_rfl) (fun _ _ _ h => h) ?y13 hS ?_
              case y13 => first | (refine Or.inr ⟨by rfl, ?_⟩; with_reducible rfl) | (refine Or.inl ⟨by rfl, ?_⟩; intro wS hSw; obtain ⟨⟨x0, _⟩, ⟨x1, _⟩, ⟨x2, _⟩, ⟨x3, _⟩⟩ := four_cells hSw.2; go_simp; try with_reducible rfl)
              simp only [Act.put, List.setIfInBounds_toArray, List.set_cons_zero, List.set_cons_succ]
              refine wpAnyH_take (i := 15) (oi := ⟨_, _, _, _, _, _⟩) (v := ?v14) rfl (by kernel_rfl) (by kernel_rfl) (by kernel_rfl) (fun _ _ _ h => h) ?y14 hS ?_
              case y14 => first | (refine Or.inr ⟨by rfl, ?_⟩; with_reducible rfl) | (refine Or.inl ⟨by rfl, ?_⟩; intro wS hSw; obtain ⟨⟨x0, _⟩, ⟨x1, _⟩, ⟨x2, _⟩, ⟨x3, _⟩⟩ := four_cells hSw.2; go_simp; try with_reducible rfl)
              simp only [Act.put, List.setIfInBounds_toArray, List.set_cons_zero, List.set_cons_succ]
              refine wpAnyH_take (i := 17) (oi := ⟨_, _, _, _, _, _⟩) (v := ?v15) rfl (by kernel_rfl) (by kernel_rfl) (by kernel_rfl) (fun _ _ _ h => h) ?y15 hS ?_
              case y15 => first | (refine Or.inr ⟨by rfl, ?_⟩; with_reducible rfl) | (refine Or.inl ⟨by rfl, ?_⟩; intro wS hSw; obtain ⟨⟨x0, _⟩, ⟨x1, _⟩, ⟨x2, _⟩, ⟨x3, _⟩⟩ := four_cells hSw.2; go_simp; try with_reducible rfl)
              simp only [Act.put, List.setIfInBounds_toArray, List.set_cons_zero, List.set_cons_succ]
              refine wpAnyH_ready (rs := [16]) (by kernel_rfl) (by simp) ?_
              refine AllReadyH.cons (o := ⟨_, _, _, _, _, _⟩) rfl (fun K hK => ?_) AllReadyH.nil
              go_simp
              refine ((CF.out _ hS).2.2.1).mono ?_
              rintro e wx ⟨rfl, hS⟩
              go_wp2_with fail
              refine hK.out _ _ hS (fun _ => ?_)
              clear hK K
              try simp only [Act.put, List.setIfInBounds_toArray, List.set_cons_zero, List.set_cons_succ]
              refine wpAnyH_ready (rs := [18]) (by kernel_rfl) (by simp) ?_
              refine AllReadyH.cons (o := ⟨_, _, _, _, _, _⟩) rfl (fun K hK => ?_) AllReadyH.nil
              go_simp
              refine ((CF.out _ hS).2.2.2.1).mono ?_
              rintro e wx ⟨rfl, hS⟩
              go_wp2_with fail
              refine hK.out _ _ hS (fun _ => ?_)
              clear hK K
              try simp only [Act.put, List.setIfInBounds_toArray, List.set_cons_zero, List.set_cons_succ]
              refine wpAnyH_take (i := 19) (oi := ⟨_, _, _, _, _, _⟩) (v := ?v16) rfl (by kernel_rfl) (by kernel_rfl) (by kernel_rfl) (fun _ _ _ h => h) ?y16 hS ?_
              case y16 => first | (refine Or.inr ⟨by rfl, ?_⟩; with_reducible rfl) | (refine Or.inl ⟨by rfl, ?_⟩; intro wS hSw; obtain ⟨⟨x0, _⟩, ⟨x1, _⟩, ⟨x2, _⟩, ⟨x3, _⟩⟩ := four_cells hSw.2; go_simp; try with_reducible rfl)
              simp only [Act.put, List.setIfInBounds_toArray, List.set_cons_zero, List.set_cons_succ]
              refine wpAnyH_take (i := 20) (oi := ⟨_, _, _, _, _, _⟩) (v := ?v17) rfl (by kernel_rfl) (by kernel_rfl) (by kernel_rfl) (fun _ _ _ h => h) ?y17 hS ?_
              case y17 => first | (refine Or.inr ⟨by rfl, ?_⟩; with_reducible rfl) | (refine Or.inl ⟨by rfl, ?_⟩; intro wS hSw; obtain ⟨⟨x0, _⟩, ⟨x1, _⟩, ⟨x2, _⟩, ⟨x3, _⟩⟩ := four_cells hSw.2; go_simp; try with_reducible rfl)
              simp only [Act.put, List.setIfInBounds_toArray, List.set_cons_zero, List.set_cons_succ]
              refine wpAnyH_take (i := 21) (oi := ⟨_, _, _, _, _, _⟩) (v := ?v18) rfl (by kernel_rfl) (by kernel_rfl) (by kernel_rfl) (fun _ _ _ h => h) ?y18 hS ?_
              case y18 => first | (refine Or.inr ⟨by rfl, ?_⟩; with_reducible rfl) | (refine Or.inl ⟨by rfl, ?_⟩; intro wS hSw; obtain ⟨⟨x0, _⟩, ⟨x1, _⟩, ⟨x2, _⟩, ⟨x3, _⟩⟩ := four_cells hSw.2; go_simp; try with_reducible rfl)
              simp only [Act.put, List.setIfInBounds_toArray, List.set_cons_zero, List.set_cons_succ]
              refine wpAnyH_take (i := 22) (oi := ⟨_, _, _, _, _, _⟩) (v := ?v19) rfl (by kernel_rfl) (by kernel_rfl) (by kernel_rfl) (fun _ _ _ h => h) ?y19 hS ?_
              case y19 => first | (refine Or.inr ⟨by rfl, ?_⟩; with_reducible rfl) | (refine Or.inl ⟨by rfl, ?_⟩; intro wS hSw; obtain ⟨⟨x0, _⟩, ⟨x1, _⟩, ⟨x2, _⟩, ⟨x3, _⟩⟩ := four_cells hSw.2; go_simp; try with_reducible rfl)
              simp only [Act.put, List.setIfInBounds_toArray, List.set_cons_zero, List.set_cons_succ]
              refine wpAnyH_take (i := 24) (oi := ⟨_, _, _, _, _, _⟩) (v := ?v20) rfl (by kernel_rfl) (by kernel_rfl) (by kernel_rfl) (fun _ _ _ h => h) ?y20 hS ?_
              case y20 => first | (refine Or.inr ⟨by rfl, ?_⟩; with_reducible rfl) | (refine Or.inl ⟨by rfl, ?_⟩; intro wS hSw; obtain ⟨⟨x0, _⟩, ⟨x1, _⟩, ⟨x2, _⟩, ⟨x3, _⟩⟩ := four_cells hSw.2; go_simp; try with_reducible rfl)
              simp only [Act.put, List.setIfInBounds_toArray, List.set_cons_zero, List.set_cons_succ]
              refine wpAnyH_ready (rs := [23]) (by kernel_rfl) (by simp) ?_
              refine AllReadyH.cons (o := ⟨_, _, _, _, _, _⟩) rfl (fun K hK => ?_) AllReadyH.nil
              go_simp
              refine ((CF.out _ hS).2.2.2.2.1).mono ?_
              rintro e wx ⟨rfl, hS⟩
              go_wp2_with fail
              refine hK.out _ _ hS (fun _ => ?_)
              clear hK K
              try simp only [Act.put, List.setIfInBounds_toArray, List.set_cons_zero, List.set_cons_succ]
              refine wpAnyH_ready (rs := [25]) (by kernel_rfl) (by simp) ?_
              refine AllReadyH.cons (o := ⟨_, _, _, _, _, _⟩) rfl (fun K hK => ?_) AllReadyH.nil
              go_simp
              refine ((CF.out _ hS).2.2.2.2.2).mono ?_
              rintro e wx ⟨rfl, hS⟩
              go_wp2_with fail
              refine hK.out _ _ hS (fun _ => ?_)
              clear hK K
              try simp only [Act.put, List.setIfInBounds_toArray, List.set_cons_zero, List.set_cons_succ]
              refine wpAnyH_take (i := 26) (oi := ⟨_, _, _, _, _, _⟩) (v := ?v21) rfl (by kernel_rfl) (by kernel_rfl) (by kernel_rfl) (fun _ _ _ h => h) ?y21 hS ?_
              case y21 => first | (refine Or.inr ⟨by rfl, ?_⟩; with_reducible rfl) | (refine Or.inl ⟨by rfl, ?_⟩; intro wS hSw; obtain ⟨⟨x0, _⟩, ⟨x1, _⟩, ⟨x2, _⟩, ⟨x3, _⟩⟩ := four_cells hSw.2; go_simp; try with_reducible rfl)
              simp only [Act.put, List.setIfInBounds_toArray, List.set_cons_zero, List.set_cons_succ]
              refine wpAnyH_take (i := 27) (oi := ⟨_, _, _, _, _, _⟩) (v := ?v22) rfl (by kernel_rfl) (by kernel_rfl) (by kernel_rfl) (fun _ _ _ h => h) ?y22 hS ?_
              case y22 => first | (refine Or.inr ⟨by rfl, ?_⟩; with_reducible rfl) | (refine Or.inl ⟨by rfl, ?_⟩; intro wS hSw; obtain ⟨⟨x0, _⟩, ⟨x1, _⟩, ⟨x2, _⟩, ⟨x3, _⟩⟩ := four_cells hSw.2; go_simp; try with_reducible rfl)
              simp only [Act.put, List.setIfInBounds_toArray, List.set_cons_zero, List.set_cons_succ]
              refine wpAnyH_done (by kernel_rfl) ?_ _
              go_wp2
              have HT9 := Lib.hid hS.1
              clear hS CF HS26 hqc
              obtain ⟨t, rfl⟩ : ∃ t, t = k := ⟨_, rfl⟩
              go_loopw [18] (fun i w9 => ∃ k : Nat, t ≤ k ∧ k ≤ l.length ∧ i = .int .i64 k ∧ Tri H2 Hb Hc w w9 a b c W ([] ++ [sumL W (l.take k)]) (sumL W (l.take k)) pm) (fun i _ => l.length - (intOf i).toNat)
              case atStart => exact ⟨t, Nat.le_refl _, htl, rfl, by rw [← HPt.out]; exact HT9.out⟩
              case round =>
                obtain ⟨k, htk, hk, rfl, hT⟩ := hrel
                have HT := Lib.hid hT
                clear hT HT9 HT7
                by_cases hlt : k < l.length
                · have hkI : (k : Int) < l.length := by omega
                  have hkl : k < l.length := hlt
                  have hklI : (k : Int) < l.length := by omega
                  obtain ⟨b2, off2, rfl, hbl2, d0, d1, d2, d3, d4⟩ := Hcu.out k hkl
                  obtain ⟨q, hq⟩ : ∃ q, q = l[k] := ⟨_, rfl⟩
                  have HQ := Lib.hid hq
                  rw [← hq] at d0 d1 d2 d3 d4
                  have hd := Lib.hid (fun w1 (hb : Below w.heap.size w w1) => And.intro (cell_later hb d0) (And.intro (cell_later hb d1) (And.intro (cell_later hb d2) (And.intro (cell_later hb d3) (cell_later hb d4)))))
                  clear hq d0 d1 d2 d3 d4
                  go_upto_region 31 with (fail)
                  refine wp_region_held_drew (S := fun wq => Below w.heap.size w wq) (by kernel_rfl) (HT.out.bel.drew) (fun hS => ?_)
                  refine wpAnyH_take (i := 0) (oi := ⟨_, _, _, _, _, _⟩) (v := ?v23) rfl (by kernel_rfl) (by kernel_rfl) (by kernel_rfl) (fun _ _ _ h => h) ?y23 hS ?_
                  case y23 => first | (refine Or.inr ⟨by rfl, ?_⟩; with_reducible rfl) | (refine Or.inl ⟨by rfl, ?_⟩; intro wS hSw; obtain ⟨d0, d1, d2, d3, d4⟩ := hd.out wS hSw; go_simp; try with_reducible rfl)
                  simp only [Act.put, List.setIfInBounds_toArray, List.set_cons_zero, List.set_cons_succ]
                  refine wpAnyH_take (i := 1) (oi := ⟨_, _, _, _, _, _⟩) (v := ?v24) rfl (by kernel_rfl) (by kernel_rfl) (by kernel_rfl) (fun _ _ _ h => h) ?y24 hS ?_
                  case y24 => first | (refine Or.inr ⟨by rfl, ?_⟩; with_reducible rfl) | (refine Or.inl ⟨by rfl, ?_⟩; intro wS hSw; obtain ⟨d0, d1, d2, d3, d4⟩ := hd.out wS hSw; go_simp; try with_reducible rfl)
                  simp only [Act.put, List.setIfInBounds_toArray, List.set_cons_zero, List.set_cons_succ]
                  refine wpAnyH_take (i := 2) (oi := ⟨_, _, _, _, _, _⟩) (v := ?v25) rfl (by kernel_rfl) (by kernel_rfl) (by kernel_rfl) (fun _ _ _ h => h) ?y25 hS ?_
                  case y25 => first | (refine Or.inr ⟨by rfl, ?_⟩; with_reducible rfl) | (refine Or.inl ⟨by rfl, ?_⟩; intro wS hSw; obtain ⟨d0, d1, d2, d3, d4⟩ := hd.out wS hSw; go_simp; try with_reducible rfl)
                  simp only [Act.put, List.setIfInBounds_toArray, List.set_cons_zero, List.set_cons_succ]
                  refine wpAnyH_take (i := 3) (oi := ⟨_, _, _, _, _, _⟩) (v := ?v26) rfl (by kernel_rfl) (by kernel_rfl) (by kernel_rfl) (fun _ _ _ h => h) ?y26 hS ?_
                  case y26 => first | (refine Or.inr ⟨by rfl, ?_⟩; with_reducible rfl) | (refine Or.inl ⟨by rfl, ?_⟩; intro wS hSw; obtain ⟨d0, d1, d2, d3, d4⟩ := hd.out wS hSw; go_simp; try with_reducible rfl)
                  simp only [Act.put, List.setIfInBounds_toArray, List.set_cons_zero, List.set_cons_succ]
                  refine wpAnyH_take (i := 4) (oi := ⟨_, _, _, _, _, _⟩) (v := ?v27) rfl (by kernel_rfl) (by kernel_rfl) (by kernel_rfl) (fun _ _ _ h => h) ?y27 hS ?_
                  case y27 => first | (refine Or.inr ⟨by rfl, ?_⟩; with_reducible rfl) | (refine Or.inl ⟨by rfl, ?_⟩; intro wS hSw; obtain ⟨d0, d1, d2, d3, d4⟩ := hd.out wS hSw; go_simp; try with_reducible rfl)
                  simp only [Act.put, List.setIfInBounds_toArray, List.set_cons_zero, List.set_cons_succ]
                  refine wpAnyH_take (i := 5) (oi := ⟨_, _, _, _, _, _⟩) (v := ?v28) rfl (by kernel_rfl) (by kernel_rfl) (by kernel_rfl) (fun _ _ _ h => h) ?y28 hS ?_
                  case y28 => first | (refine Or.inr ⟨by rfl, ?_⟩; with_reducible rfl) | (refine Or.inl ⟨by rfl, ?_⟩; intro wS hSw; obtain ⟨d0, d1, d2, d3, d4⟩ := hd.out wS hSw; go_simp; try with_reducible rfl)
                  simp only [Act.put, List.setIfInBounds_toArray, List.set_cons_zero, List.set_cons_succ]
                  refine wpAnyH_take (i := 6) (oi := ⟨_, _, _, _, _, _⟩) (v := ?v29) rfl (by kernel_rfl) (by kernel_rfl) (by kernel_rfl) (fun _ _ _ h => h) ?y29 hS ?_
                  case y29 => first | (refine Or.inr ⟨by rfl, ?_⟩; with_reducible rfl) | (refine Or.inl ⟨by rfl, ?_⟩; intro wS hSw; obtain ⟨d0, d1, d2, d3, d4⟩ := hd.out wS hSw; go_simp; try with_reducible rfl)
                  simp only [Act.put, List.setIfInBounds_toArray, List.set_cons_zero, List.set_cons_succ]
                  refine wpAnyH_take (i := 7) (oi := ⟨_, _, _, _, _, _⟩) (v := ?v30) rfl (by kernel_rfl) (by kernel_rfl) (by kernel_rfl) (fun _ _ _ h => h) ?y30 hS ?_
                  case y30 => first | (refine Or.inr ⟨by rfl, ?_⟩; with_reducible rfl) | (refine Or.inl ⟨by rfl, ?_⟩; intro wS hSw; obtain ⟨d0, d1, d2, d3, d4⟩ := hd.out wS hSw; go_simp; try with_reducible rfl)
                  simp only [Act.put, List.setIfInBounds_toArray, List.set_cons_zero, List.set_cons_succ]
                  refine wpAnyH_take (i := 8) (oi := ⟨_, _, _, _, _, _⟩) (v := ?v31) rfl (by kernel_rfl) (by kernel_rfl) (by kernel_rfl) (fun _ _ _ h => h) ?y31 hS ?_
                  case y31 => first | (refine Or.inr ⟨by rfl, ?_⟩; with_reducible rfl) | (refine Or.inl ⟨by rfl, ?_⟩; intro wS hSw; obtain ⟨d0, d1, d2, d3, d4⟩ := hd.out wS hSw; go_simp; try with_reducible rfl)
                  simp only [Act.put, List.setIfInBounds_toArray, List.set_cons_zero, List.set_cons_succ]
                  refine wpAnyH_take (i := 9) (oi := ⟨_, _, _, _, _, _⟩) (v := ?v32) rfl (by kernel_rfl) (by kernel_rfl) (by kernel_rfl) (fun _ _ _ h => h) ?y32 hS ?_
                  case y32 => first | (refine Or.inr ⟨by rfl, ?_⟩; with_reducible rfl) | (refine Or.inl ⟨by rfl, ?_⟩; intro wS hSw; obtain ⟨d0, d1, d2, d3, d4⟩ := hd.out wS hSw; go_simp; try with_reducible rfl)
                  simp only [Act.put, List.setIfInBounds_toArray, List.set_cons_zero, List.set_cons_succ]
                  refine wpAnyH_take (i := 10) (oi := ⟨_, _, _, _, _, _⟩) (v := ?v33) rfl (by kernel_rfl) (by kernel_rfl) (by kernel_rfl) (fun _ _ _ h => h) ?y33 hS ?_
                  case y33 => first | (refine Or.inr ⟨by rfl, ?_⟩; with_reducible rfl) | (refine Or.inl ⟨by rfl, ?_⟩; intro wS hSw; obtain ⟨d0, d1, d2, d3, d4⟩ := hd.out wS hSw; go_simp; try with_reducible rfl)
                  simp only [Act.put, List.setIfInBounds_toArray, List.set_cons_zero, List.set_cons_succ]
                  refine wpAnyH_take (i := 12) (oi := ⟨_, _, _, _, _, _⟩) (v := ?v34) rfl (by kernel_rfl) (by kernel_rfl) (by kernel_rfl) (fun _ _ _ h => h) ?y34 hS ?_
                  case y34 => first | (refine Or.inr ⟨by rfl, ?_⟩; with_reducible rfl) | (refine Or.inl ⟨by rfl, ?_⟩; intro wS hSw; obtain ⟨d0, d1, d2, d3, d4⟩ := hd.out wS hSw; go_simp; try with_reducible rfl)
                  simp only [Act.put, List.setIfInBounds_toArray, List.set_cons_zero, List.set_cons_succ]
                  refine wpAnyH_take (i := 13) (oi := ⟨_, _, _, _, _, _⟩) (v := ?v35) rfl (by kernel_rfl) (by kernel_rfl) (by kernel_rfl) (fun _ _ _ h => h) ?y35 hS ?_
                  case y35 => first | (refine Or.inr ⟨by rfl, ?_⟩; with_reducible rfl) | (refine Or.inl ⟨by rfl, ?_⟩; intro wS hSw; obtain ⟨d0, d1, d2, d3, d4⟩ := hd.out wS hSw; go_simp; try with_reducible rfl)
                  simp only [Act.put, List.setIfInBounds_toArray, List.set_cons_zero, List.set_cons_succ]
                  refine wpAnyH_take (i := 14) (oi := ⟨_, _, _, _, _, _⟩) (v := ?v36) rfl (by kernel_rfl) (by kernel_rfl) (by kernel_rfl) (fun _ _ _ h => h) ?y36 hS ?_
                  case y36 => first | (refine Or.inr ⟨by rfl, ?_⟩; with_reducible rfl) | (refine Or.inl ⟨by rfl, ?_⟩; intro wS hSw; obtain ⟨d0, d1, d2, d3, d4⟩ := hd.out wS hSw; go_simp; try with_reducible rfl)
                  simp only [Act.put, List.setIfInBounds_toArray, List.set_cons_zero, List.set_cons_succ]
                  refine wpAnyH_take (i := 15) (oi := ⟨_, _, _, _, _, _⟩) (v := ?v37) rfl (by kernel_rfl) (by kernel_rfl) (by kernel_rfl) (fun _ _ _ h => h) ?y37 hS ?_
                  case y37 => first | (refine Or.inr ⟨by rfl, ?_⟩; with_reducible rfl) | (refine Or.inl ⟨by rfl, ?_⟩; intro wS hSw; obtain ⟨d0, d1, d2, d3, d4⟩ := hd.out wS hSw; go_simp; try with_reducible rfl)
                  simp only [Act.put, List.setIfInBounds_toArray, List.set_cons_zero, List.set_cons_succ]
                  refine wpAnyH_take (i := 16) (oi := ⟨_, _, _, _, _, _⟩) (v := ?v38) rfl (by kernel_rfl) (by kernel_rfl) (by kernel_rfl) (fun _ _ _ h => h) ?y38 hS ?_
                  case y38 => first | (refine Or.inr ⟨by rfl, ?_⟩; with_reducible rfl) | (refine Or.inl ⟨by rfl, ?_⟩; intro wS hSw; obtain ⟨d0, d1, d2, d3, d4⟩ := hd.out wS hSw; go_simp; try with_reducible rfl)
                  simp only [Act.put, List.setIfInBounds_toArray, List.set_cons_zero, List.set_cons_succ]
                  refine wpAnyH_take (i := 17) (oi := ⟨_, _, _, _, _, _⟩) (v := ?v39) rfl (by kernel_rfl) (by kernel_rfl) (by kernel_rfl) (fun _ _ _ h => h) ?y39 hS ?_
                  case y39 => first | (refine Or.inr ⟨by rfl, ?_⟩; with_reducible rfl) | (refine Or.inl ⟨by rfl, ?_⟩; intro wS hSw; obtain ⟨d0, d1, d2, d3, d4⟩ := hd.out wS hSw; go_simp; try with_reducible rfl)
                  simp only [Act.put, List.setIfInBounds_toArray, List.set_cons_zero, List.set_cons_succ]
                  refine wpAnyH_take (i := 18) (oi := ⟨_, _, _, _, _, _⟩) (v := ?v40) rfl (by kernel_rfl) (by kernel_rfl) (by kernel_rfl) (fun _ _ _ h => h) ?y40 hS ?_
                  case y40 => first | (refine Or.inr ⟨by rfl, ?_⟩; with_reducible rfl) | (refine Or.inl ⟨by rfl, ?_⟩; intro wS hSw; obtain ⟨d0, d1, d2, d3, d4⟩ := hd.out wS hSw; go_simp; try with_reducible rfl)
                  simp only [Act.put, List.setIfInBounds_toArray, List.set_cons_zero, List.set_cons_succ]
                  refine wpAnyH_take (i := 19) (oi := ⟨_, _, _, _, _, _⟩) (v := ?v41) rfl (by kernel_rfl) (by kernel_rfl) (by kernel_rfl) (fun _ _ _ h => h) ?y41 hS ?_
                  case y41 => first | (refine Or.inr ⟨by rfl, ?_⟩; with_reducible rfl) | (refine Or.inl ⟨by rfl, ?_⟩; intro wS hSw; obtain ⟨d0, d1, d2, d3, d4⟩ := hd.out wS hSw; go_simp; try with_reducible rfl)
                  simp only [Act.put, List.setIfInBounds_toArray, List.set_cons_zero, List.set_cons_succ]
                  refine wpAnyH_take (i := 20) (oi := ⟨_, _, _, _, _, _⟩) (v := ?v42) rfl (by kernel_rfl) (by kernel_rfl) (by kernel_rfl) (fun _ _ _ h => h) ?y42 hS ?_
                  case y42 => first | (refine Or.inr ⟨by rfl, ?_⟩; with_reducible rfl) | (refine Or.inl ⟨by rfl, ?_⟩; intro wS hSw; obtain ⟨d0, d1, d2, d3, d4⟩ := hd.out wS hSw; go_simp; try with_reducible rfl)
                  simp only [Act.put, List.setIfInBounds_toArray, List.set_cons_zero, List.set_cons_succ]
                  refine wpAnyH_take (i := 21) (oi := ⟨_, _, _, _, _, _⟩) (v := ?v43) rfl (by kernel_rfl) (by kernel_rfl) (by kernel_rfl) (fun _ _ _ h => h) ?y43 hS ?_
                  case y43 => first | (refine Or.inr ⟨by rfl, ?_⟩; with_reducible rfl) | (refine Or.inl ⟨by rfl, ?_⟩; intro wS hSw; obtain ⟨d0, d1, d2, d3, d4⟩ := hd.out wS hSw; go_simp; try with_reducible rfl)
                  simp only [Act.put, List.setIfInBounds_toArray, List.set_cons_zero, List.set_cons_succ]
                  refine wpAnyH_take (i := 22) (oi := ⟨_, _, _, _, _, _⟩) (v := ?v44) rfl (by kernel_rfl) (by kernel_rfl) (by kernel_rfl) (fun _ _ _ h => h) ?y44 hS ?_
                  case y44 => first | (refine Or.inr ⟨by rfl, ?_⟩; with_reducible rfl) | (refine Or.inl ⟨by rfl, ?_⟩; intro wS hSw; obtain ⟨d0, d1, d2, d3, d4⟩ := hd.out wS hSw; go_simp; try with_reducible rfl)
                  simp only [Act.put, List.setIfInBounds_toArray, List.set_cons_zero, List.set_cons_succ]
                  refine wpAnyH_ready (rs := [11]) (by kernel_rfl) (by simp) ?_
                  refine AllReadyH.cons (o := ⟨_, _, _, _, _, _⟩) rfl (fun K hK => ?_) AllReadyH.nil
                  go_simp
                  refine (tri_setA q HD2.out _ _ _ _ _ (HT.out.later (Below.refl _ _).drew)).mono ?_
                  rintro e wx ⟨rfl, hTT⟩; have hS := hTT.bel
                  go_wp2_with fail
                  refine hK.out _ _ hS (fun _ => ?_)
                  clear hK K
                  try simp only [Act.put, List.setIfInBounds_toArray, List.set_cons_zero, List.set_cons_succ]
                  refine wpAnyH_ready (rs := [23]) (by kernel_rfl) (by simp) ?_
                  refine AllReadyH.cons (o := ⟨_, _, _, _, _, _⟩) rfl (fun K hK => ?_) AllReadyH.nil
                  go_simp
                  refine (tri_setB q HD2.out _ _ _ _ hTT).mono ?_
                  rintro e wx ⟨rfl, hTT⟩; have hS := hTT.bel
                  go_wp2_with fail
                  refine hK.out _ _ hS (fun _ => ?_)
                  clear hK K
                  try simp only [Act.put, List.setIfInBounds_toArray, List.set_cons_zero, List.set_cons_succ]
                  refine wpAnyH_take (i := 24) (oi := ⟨_, _, _, _, _, _⟩) (v := ?v45) rfl (by kernel_rfl) (by kernel_rfl) (by kernel_rfl) (fun _ _ _ h => h) ?y45 hS ?_
                  case y45 => first | (refine Or.inr ⟨by rfl, ?_⟩; with_reducible rfl) | (refine Or.inl ⟨by rfl, ?_⟩; intro wS hSw; obtain ⟨d0, d1, d2, d3, d4⟩ := hd.out wS hSw; go_simp; try with_reducible rfl)
                  simp only [Act.put, List.setIfInBounds_toArray, List.set_cons_zero, List.set_cons_succ]
                  refine wpAnyH_done (by kernel_rfl) ?_ _
                  clear hS
                  rw [HQ.out, sumL_take W l hkl] at hTT
                  have HTn := Lib.hid hTT
                  clear hTT
                  go_wp2
                  go_roundw
                  case rel => exact ⟨k + 1, by omega, by omega, by go_num, HTn.out⟩
                  case measure => simp [intOf] <;> omega
                · have hkl2 : ¬ (k : Int) < l.length := by omega
                  have hqc := eqc_10000
                  obtain ⟨pz, hpz⟩ : ∃ pz, pz = sumL W (l.take k) := ⟨_, rfl⟩
                  rw [← hpz] at HT
                  clear hpz
                  go_wp2_with fail
                  refine (far_Far _ HT.out.fa).mono ?_
                  rintro e w10 ⟨rfl, hb⟩
                  have HT10 := Lib.hid (HT.out.later hb)
                  clear hb
                  go_wp2_with fail
                  refine (far_Far _ HT10.out.fb).mono ?_
                  rintro e w11 ⟨rfl, hb⟩
                  have HT11 := Lib.hid (HT10.out.later hb)
                  clear hb
                  go_wp2_with fail
                  refine (far_HopedA _ HT11.out.fa).mono ?_
                  rintro e w12 ⟨rfl, hb⟩
                  have HT12 := Lib.hid (HT11.out.later hb)
                  clear hb
                  go_wp2_with fail
                  refine (far_HopedA _ HT12.out.fb).mono ?_
                  rintro e w13 ⟨rfl, hb⟩
                  have HT13 := Lib.hid (HT12.out.later hb)
                  clear hb
                  go_wp2
                  go_ret
                  exact ⟨rfl, HT13.out.bel⟩
end Go.Proofs.Ytfhgmnlhmfnckaa
