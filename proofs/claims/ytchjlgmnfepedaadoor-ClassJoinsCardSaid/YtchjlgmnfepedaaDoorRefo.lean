/-
  Package seedlingref01: the document's answers for classes.
-/
import Derived.Test.YtchjlgmnfepedaaDoorClass
import Derived.Deep.OwnRows
namespace Go.Proofs.YtchjlgmnfepedaaDoor
open Go.RowKit Go.Lib

theorem has_word2 (s : Nat → Bool) (b : Nat) : ((word s (b / 64) : Int) / 2 ^ (b % 64) % 2 == 1) = s b := by
  rw [← has_word s b]
  have h2 : ((2 : Int) ^ (b % 64)) = ((2 ^ (b % 64) : Nat) : Int) := by simp
  have hlt := word_lt s (b / 64)
  have hle : word s (b / 64) / 2 ^ (b % 64) ≤ word s (b / 64) := Nat.div_le_self _ _
  have h1 := bits_and_u64_nat (word s (b / 64) / 2 ^ (b % 64)) 1 (by omega) (by omega)
  rw [h2, show ((word s (b / 64) : Int) / ((2 ^ (b % 64) : Nat) : Int)) = ((word s (b / 64) / 2 ^ (b % 64) : Nat) : Int) from by simp]
  rw [show bits .and .u64 ((word s (b / 64) / 2 ^ (b % 64) : Nat) : Int) 1 = _ from h1, Nat.and_one_is_mod]
  rfl

set_option maxHeartbeats 400000 in
theorem ref_Has (w : World) (s : Nat → Bool) (b : UInt8) :
    Calls Tryd.prog 23 #[clv s, .int .u8 b.toNat] w fun e w' => e = .returned (.bool (s b.toNat)) ∧ Below w.heap.size w w' := by
  have hb : b.toNat < 256 := b.toNat_lt
  have hc := (block_cell' (heap_alloc_new w (.cells (clc s) 24 (0, 0))) (b.toNat / 64)).1
  rw [clc_get _ (by omega)] at hc
  have hlt := word_lt s (b.toNat / 64)
  unfold clv
  go_enter Tryd.func23, Tryd.ntmps23
  go_wp2
  go_ret
  exact ⟨ret_bool' (has_word2 s b.toNat), (Below.refl _ _).alloc (Nat.le_refl _) _⟩

/-- the bytes below k. -/
def clTo (p : Nat → Bool) (k : Nat) : Nat → Bool := fun b => decide (b < k) && p b
theorem clTo_zero (p : Nat → Bool) : clTo p 0 = clNone := by funext b; simp [clTo, clNone]
theorem clTo_all (p : Nat → Bool) : clc (clTo p 256) = clc p := clc_congr fun b hb => by simp [clTo, hb]
theorem clTo_no (p : Nat → Bool) {k : Nat} (h : p k = false) : clTo p (k + 1) = clTo p k := by
  funext b
  unfold clTo
  by_cases hb : b = k
  · subst hb; simp [h]
  · have : (b < k + 1) ↔ b < k := by omega
    simp [this]
theorem clTo_yes (p : Nat → Bool) {k : Nat} (h : p k = true) : clTo p (k + 1) = clPut (clTo p k) k := by
  funext b
  unfold clTo clPut
  by_cases hb : b = k
  · subst hb; simp [h]
  · have : (b < k + 1) ↔ b < k := by omega
    simp [this, hb]
theorem set_word (p : Nat → Bool) (k : Nat) : IntKind.u64.wrap ((word (clTo p k) (k / 64) : Int) + IntKind.u64.wrap (1 * 2 ^ (k % 64))) = ((word (clTo p k) (k / 64) ||| 2 ^ (k % 64) : Nat) : Int) := by
  have hi : k % 64 < 64 := Nat.mod_lt _ (by omega)
  rw [shl_one _ hi]
  have hlt : word (clTo p k) (k / 64) < 2 ^ (k % 64) := by
    apply Nat.lt_pow_two_of_testBit
    intro j hj
    by_cases h : j < 64
    · rw [word_bit _ _ _ h]; unfold clTo
      have : ¬ 64 * (k / 64) + j < k := by omega
      simp [this]
    · exact Nat.testBit_lt_two_pow (Nat.lt_of_lt_of_le (word_lt _ _) (Nat.pow_le_pow_right (n := 2) (i := 64) (by omega) (by omega)))
  have hor := Nat.two_pow_add_eq_or_of_lt hlt 1
  rw [Nat.mul_one] at hor
  have h64 : word (clTo p k) (k / 64) ||| 2 ^ (k % 64) < 2 ^ 64 := Nat.or_lt_two_pow (word_lt _ _) (Nat.pow_lt_pow_right (by omega) hi)
  rw [show (2 : Nat) ^ 64 = 18446744073709551616 from by decide] at h64
  rw [IntKind.wrap_u64]
  rw [Nat.or_comm, ← hor] at h64 ⊢
  generalize 2 ^ (k % 64) = x at *
  omega

/-- a row of 256 truths. -/
def truths (p : Nat → Bool) : List Value := (List.range 256).map fun b => .bool (p b)
theorem truths_len (p : Nat → Bool) : (truths p).length = 256 := by unfold truths; rw [List.length_map, List.length_range]
theorem truths_get (p : Nat → Bool) {k : Nat} (hk : k < 256) : (truths p)[k]? = some (.bool (p k)) := by
  unfold truths
  rw [List.getElem?_map, List.getElem?_range hk]
  rfl
theorem truths_at {w : World} {v : Value} {p : Nat → Bool} (h : CellsAt w v (truths p)) :
    ∃ b off cap, v = .slice (some ⟨b, off, none⟩) 256 cap ∧ 256 ≤ cap ∧ cap ≤ maxLen ∧ ∀ k, k < 256 → w.cell? ⟨b, off + k, none⟩ = some (.bool (p k)) := by
  obtain ⟨ao, b, off, cap, rfl, hl, hm, hnil, hao, _, hc⟩ := h
  have hlen := truths_len p
  obtain rfl := hao (by omega)
  refine ⟨b, off, cap, by rw [hlen], by omega, hm, fun k hk => ?_⟩
  have hk' : k < (truths p).length := by omega
  rw [hc k hk']
  have := truths_get p hk
  rw [List.getElem?_eq_getElem hk'] at this
  exact this
attribute [irreducible] truths

set_option maxRecDepth 100000 in
set_option maxHeartbeats 1000000 in
theorem ref_Set (w : World) (p : Nat → Bool) (v : Value) (hv : CellsAt w v (truths p)) :
    Calls Tryd.prog 24 #[v] w fun e w' => e = .returned (clv p) ∧ Below w.heap.size w w' := by
  obtain ⟨b, off, cap, rfl, hl, hm, hc⟩ := truths_at hv
  have HC := Lib.hid hc
  obtain ⟨n, hn⟩ : ∃ n : Nat, n = 256 := ⟨_, rfl⟩
  rw [← hn] at hl ⊢
  have Hn := Lib.hid hn
  clear hn
  clear hc hv
  go_enter Tryd.func24, Tryd.ntmps24
  go_wp2
  go_loopw [4] (fun i wr => ∃ k : Nat, k ≤ 256 ∧ i = .int .i64 k ∧ wr.heap[w.heap.size + 1]? = some (.cells (clc (clTo p k)) 24 (0, 0)) ∧ wr.heap[w.heap.size]? = some (.cells #[.int .u64 0, .int .u64 0, .int .u64 0, .int .u64 0] 24 (0, 0)) ∧ Below w.heap.size w wr) (fun i _ => n - (intOf i).toNat)
  case atStart =>
    refine ⟨0, by omega, rfl, ?_, heap_alloc2_old _ _ _, ((Below.refl _ _).alloc (Nat.le_refl _) _).alloc (by simp) _⟩
    rw [clTo_zero, clc_none]
    exact heap_alloc2_new _ _ _
  case round =>
    obtain ⟨k, hk, rfl, hh, hr, hb⟩ := hrel
    have HH := Lib.hid hh
    have HR := Lib.hid hr
    have HB := Lib.hid hb
    by_cases hlt : k < 256
    · have hltn : k < n := by have := Hn.out; omega
      have hcc := (hb.cell (p := ⟨_, off + k, none⟩) (World.block_lt_of_cell? _ _ (HC.out k hlt))).trans (HC.out k hlt)
      obtain ⟨hw, hf⟩ := block_cell' hh (k / 64)
      rw [clc_get _ (by omega)] at hw
      have hltw := word_lt (clTo p k) (k / 64)
      clear hh hr hb
      cases hp : p k
      · rw [hp] at hcc
        have HP := Lib.hid hp
        clear hp
        go_wp2
        go_roundw
        case rel =>
          refine ⟨k + 1, by omega, by go_num, ?_, HR.out, HB.out⟩
          rw [clTo_no _ HP.out]; exact HH.out
        case measure => have := Hn.out; simp [intOf]; omega
      · rw [hp] at hcc
        have HP := Lib.hid hp
        clear hp
        have h0 : (0 : Int) ≤ (k : Int) / 64 := by omega
        have h4 : (k : Int) / 64 < 4 := by omega
        have ht : ((k : Int) / 64).toNat = k / 64 := by omega
        go_wp2
        have hq : IntKind.i64.wrap ((k : Int) / 64) = (k : Int) / 64 := IntWalk.i64_in _ (by omega)
        have htm : (k : Int).tmod 64 = (k : Int) % 64 := Int.tmod_eq_emod_of_nonneg (by omega)
        have hr1 : (0 : Int) ≤ (k : Int) % 64 := by omega
        have hr2 : (k : Int) % 64 ≤ 64 := by omega
        go_still_tail 11, (by kernel_rfl)
        go_wp2
        go_roundw
        case rel =>
          refine ⟨k + 1, by omega, by go_num, ?_, ?_, HB.out.trans (((Keeps.refl (fun k => w.heap.size ≤ k) _).setCell (by simp) _).drew.below (by have := HB.out.size; omega) (fun k hk => hk))⟩
          · show (World.setCell _ _ _).heap[_]? = _
            rw [block_setCell' HH.out, clTo_yes _ HP.out, ← put_cells _ hlt, ← set_word]
            rw [Int.one_mul]
          · show (World.setCell _ _ _).heap[_]? = _
            rw [Below.heap_setCell _ _ _ _ (by simp)]
            exact HR.out
        case measure => have := Hn.out; simp [intOf]; omega
    · obtain rfl : k = 256 := by omega
      have hh := HH.out
      rw [clTo_all] at hh
      obtain ⟨c0, c1, c2, c3⟩ := cls_cells hh
      obtain ⟨⟨r0, f0⟩, ⟨r1, f1⟩, ⟨r2, f2⟩, ⟨r3, f3⟩⟩ := four_cells HR.out
      clear hr hh
      go_wp2
      have hst := store4 (u0 := .int .u64 (word p 0)) (u1 := .int .u64 (word p 1)) (u2 := .int .u64 (word p 2)) (u3 := .int .u64 (word p 3)) HR.out
      refine bodyPost_ret (results_cell_row rfl _ _ w.heap.size _ _ _ _ rfl hst Tryd.und_class rfl Tryd.size_class) rfl ⟨rfl, ?_⟩
      exact (((((Keeps.ofBelow HB.out).setCell (by simp) _).setCell (by simp) _).setCell (by simp) _).setCell (by simp) _).below (Nat.le_refl _) (fun k hk => hk)

/-- a block of 256 truths is written. -/
theorem truths_put (p : Nat → Bool) {b : Nat} (hb : b < 256) : (truths p).toArray.setIfInBounds b (.bool true) = (truths (clPut p b)).toArray := by
  apply Array.ext
  · simp [truths_len]
  · intro i h1 h2
    have hi : i < 256 := by simpa [truths_len] using h2
    have e1 := truths_get (clPut p b) hi
    have e2 := truths_get p hi
    rw [List.getElem?_eq_getElem (by rw [truths_len]; exact hi), Option.some.injEq] at e1 e2
    by_cases h : b = i
    · subst h
      rw [Array.getElem_setIfInBounds_self]
      simp only [List.getElem_toArray]
      rw [e1]; simp [clPut]
    · rw [Array.getElem_setIfInBounds_ne (by simpa [truths_len] using hi) h]
      simp only [List.getElem_toArray]
      rw [e1, e2]
      have : (i == b) = false := by simp; omega
      simp [clPut, this]
theorem truths_cell {w : World} {g : Nat} {t : TypeId} {p : Nat → Bool} (h : w.heap[g]? = some (.cells (truths p).toArray t (0, 0))) {b : Nat} (hb : b < 256) :
    w.cell? ⟨g, b, none⟩ = some (.bool (p b)) ∧ w.frozen? ⟨g, b, none⟩ = false := by
  obtain ⟨hw, hf⟩ := block_cell' h b
  simp only [List.getElem?_toArray] at hw
  rw [truths_get p hb] at hw
  exact ⟨hw, hf⟩
theorem truths_or (p : Nat → Bool) {b : Nat} (hb : b < 256) (v : Bool) : (truths p).toArray.setIfInBounds b (.bool (p b || v)) = (truths (if p b || v then clPut p b else p)).toArray := by
  cases hv : p b || v
  · simp only [Bool.false_eq_true, if_false]
    apply Array.ext
    · simp
    · intro i h1 h2
      by_cases h : b = i
      · subst h
        rw [Array.getElem_setIfInBounds_self]
        have e2 := truths_get p hb
        rw [List.getElem?_eq_getElem (by rw [truths_len]; exact hb), Option.some.injEq] at e2
        simp only [List.getElem_toArray]
        rw [e2]
        simp only [Bool.or_eq_false_iff] at hv
        rw [hv.1]
      · rw [Array.getElem_setIfInBounds_ne h2 h]
  · simp only [if_true]
    exact truths_put p hb
theorem truths_cells {w : World} {g : Nat} {t : TypeId} {p : Nat → Bool} (h : w.heap[g]? = some (.cells (truths p).toArray t (0, 0))) : CellsAt w (.slice (some ⟨g, 0, none⟩) 256 256) (truths p) := by
  have hlen := truths_len p
  refine ⟨_, g, 0, 256, by rw [hlen], by omega, by unfold maxLen; omega, (fun h => by cases h), fun _ => rfl, ?_, fun k hk => ?_⟩
  · intro u hu
    obtain ⟨i, hi, rfl⟩ := List.getElem_of_mem hu
    have e := truths_get p (k := i) (by omega)
    rw [List.getElem?_eq_getElem hi, Option.some.injEq] at e
    rw [e]; rfl
  · rw [Nat.zero_add, (block_cell' h k).1]
    simp [hk]

theorem made_truths : madeCells #[.bool false] 256 = (truths clNone).toArray := by
  apply Array.ext'
  rw [toList_madeCells_one]
  apply List.ext_getElem?
  intro i
  by_cases hi : i < 256
  · rw [List.getElem?_replicate, if_pos hi]
    exact (truths_get clNone hi).symm
  · rw [List.getElem?_eq_none (by rw [List.length_replicate]; omega), List.getElem?_eq_none (by rw [truths_len]; omega)]
theorem make_truths (u : World) : (Instr.makeSlice 39 (.int .i64 256) (.int .i64 256)).run Tryd.prog u = .ok (.slice (some ⟨u.heap.size, 0, none⟩) 256 256) (u.alloc (.cells (truths clNone).toArray 4)) := by
  have h := run_make_row' (P := Tryd.prog) 39 4 (.bool false) 1 (by kernel_rfl) (by kernel_rfl) rfl .i64 .i64 256 (by omega) (by omega) u
  rw [made_truths] at h
  exact h

theorem clFold_any (s : Nat → Bool) (l : List (Nat → Bool)) (b : Nat) : clFold s l b = (s b || l.any fun c => c b) := by
  unfold clFold
  induction l generalizing s with
  | nil => simp
  | cons c r ih => rw [List.foldl_cons, ih]; simp [clOr, Bool.or_assoc]

theorem truths_congr {p q : Nat → Bool} (h : ∀ b, b < 256 → p b = q b) : truths p = truths q := by
  apply List.ext_getElem?
  intro i
  by_cases hi : i < 256
  · rw [truths_get p hi, truths_get q hi, h i hi]
  · rw [List.getElem?_eq_none (by rw [truths_len]; omega), List.getElem?_eq_none (by rw [truths_len]; omega)]
theorem clTo_eq (p : Nat → Bool) : ∀ b, b < 256 → clTo p 256 b = p b := fun b hb => by simp [clTo, hb]
/-- the bytes below k as told, k as the classes tell. -/
def clUp (p : Nat → Bool) (k : Nat) (l : List (Nat → Bool)) : Nat → Bool := fun b => clTo p k b || (b == k && l.any fun c => c k)
theorem clUp_nil (p : Nat → Bool) (k : Nat) : clUp p k [] = clTo p k := by funext b; simp [clUp]
theorem clUp_take (p : Nat → Bool) (k : Nat) (l : List (Nat → Bool)) {j : Nat} (h : j < l.length) : clUp p k (l.take (j + 1)) = if clUp p k (l.take j) k || l[j] k then clPut (clUp p k (l.take j)) k else clUp p k (l.take j) := by
  have hk : clUp p k (l.take j) k = (l.take j).any fun c => c k := by simp [clUp, clTo]
  rw [hk]
  funext b
  rw [apply_ite (fun f : Nat → Bool => f b)]
  unfold clPut clUp
  rw [List.take_succ_eq_append_getElem h, List.any_append]
  by_cases hb : b = k
  · subst hb
    cases (l.take j).any (fun c => c b) <;> cases hc : l[j] b <;> simp [hc]
  · have : (b == k) = false := by simp [hb]
    simp [this]
theorem clUp_all (l : List (Nat → Bool)) (k : Nat) : clUp (clFold clNone l) k l = clTo (clFold clNone l) (k + 1) := by
  funext b
  unfold clUp clTo
  by_cases hb : b = k
  · subst hb; simp [clFold_any, clNone]
  · have h1 : (b == k) = false := by simp [hb]
    have h2 : (b < k + 1) ↔ b < k := by omega
    simp [h1, h2]

set_option maxRecDepth 100000 in
set_option maxHeartbeats 1000000 in
theorem ref_Or (w : World) (l : List (Nat → Bool)) (v : Value) (hv : ClsAt w v l) :
    Calls Tryd.prog 10 #[v] w fun e w' => e = .returned (clv (clFold clNone l)) ∧ Below w.heap.size w w' := by
  have HV := Lib.hid hv
  obtain ⟨ao, b, off, cap, rfl, hl, hm, hnil, hao, hc⟩ := hv
  clear hnil hao hc
  have hmk := make_truths
  have hll : l.length ≤ 9223372036854775807 := by unfold maxLen at hm; omega
  obtain ⟨n, hn⟩ : ∃ n : Nat, n = 256 := ⟨_, rfl⟩
  have Hn := Lib.hid hn
  clear hn
  go_enter Tryd.func10, Tryd.ntmps10
  go_wp2
  go_loopw [4, 5] (fun i _ wr => ∃ k : Nat, k ≤ 256 ∧ i = .int .i64 k ∧ wr.heap[w.heap.size + 1]? = some (.cells (truths (clTo (clFold clNone l) k)).toArray 4 (0, 0)) ∧ wr.heap[w.heap.size]? = some (.cells #[.int .u64 0, .int .u64 0, .int .u64 0, .int .u64 0] 24 (0, 0)) ∧ Below w.heap.size w wr) (fun i _ _ => n - (intOf i).toNat)
  case atStart =>
    refine ⟨0, by omega, rfl, ?_, heap_alloc2_old _ _ _, ((Below.refl _ _).alloc (Nat.le_refl _) _).alloc (by simp) _⟩
    rw [clTo_zero]
    exact heap_alloc2_new _ _ _
  case round =>
    obtain ⟨k, hk, rfl, hh, hr, hb⟩ := hrel
    by_cases hlt : k < 256
    · obtain ⟨wo, rfl⟩ : ∃ wo : World, wo = wr := ⟨_, rfl⟩
      have HH := Lib.hid hh
      have HR := Lib.hid hr
      have HB := Lib.hid hb
      clear hh hr hb
      have hkI : (k : Int) < 256 := by omega
      go_wp2
      go_loopw [5] (fun i wr => ∃ j : Nat, j ≤ l.length ∧ i = .int .i64 j ∧ wr.heap[w.heap.size + 1]? = some (.cells (truths (clUp (clFold clNone l) k (l.take j))).toArray 4 (0, 0)) ∧ wr.heap[w.heap.size]? = some (.cells #[.int .u64 0, .int .u64 0, .int .u64 0, .int .u64 0] 24 (0, 0)) ∧ Below w.heap.size w wr) (fun i _ => l.length - (intOf i).toNat)
      case atStart =>
        refine ⟨0, by omega, rfl, ?_, HR.out, HB.out⟩
        rw [List.take_zero, clUp_nil]
        exact HH.out
      case round =>
        obtain ⟨j, hj, rfl, hh, hr, hb⟩ := hrel
        by_cases hjl : j < l.length
        · obtain ⟨ao', b', off', cap', he, _, _, _, hao, hc⟩ := HV.out.later hb
          simp only [Value.slice.injEq, true_and] at he
          obtain ⟨rfl, rfl⟩ := he
          obtain ⟨rfl, hbl⟩ := hao (by omega)
          have e0 := hc j hjl 0 (by omega)
          rw [Nat.add_zero] at e0
          have e1 := hc j hjl 1 (by omega)
          have e2 := hc j hjl 2 (by omega)
          have e3 := hc j hjl 3 (by omega)
          obtain ⟨hw, hf⟩ := block_cell' hh k
          have htg := truths_get (clUp (clFold clNone l) k (l.take j)) hlt
          simp only [List.getElem?_toArray] at hw
          rw [htg] at hw
          have HH' := Lib.hid hh
          have HR' := Lib.hid hr
          have HB' := Lib.hid hb
          have hrl := lt_of_block hr
          have hrl1 := lt_of_block hh
          clear hh hr hb hc hao htg
          have hltI : (j : Int) < l.length := by omega
          have hconv : IntKind.u8.wrap (k : Int) = k := by rw [IntKind.wrap_u8']; omega
          have HS := Lib.hid (clUp_take (clFold clNone l) k l hjl)
          cases hp : clUp (clFold clNone l) k (l.take j) k
          · rw [hp] at hw
            have HP := Lib.hid hp
            clear hp
            obtain ⟨c, hcj⟩ : ∃ c, c = l[j] k := ⟨_, rfl⟩
            have HCj := Lib.hid hcj
            have Hcall : Hid (∀ w1, Calls Tryd.prog 23 #[.agg #[.int .u64 (word l[j] 0), .int .u64 (word l[j] 1), .int .u64 (word l[j] 2), .int .u64 (word l[j] 3)], .int .u8 k] w1 fun e w' => e = .returned (.bool c) ∧ Below w1.heap.size w1 w') := Lib.hid (fun w1 => by
              have h := ref_Has w1 l[j] (UInt8.ofNat k)
              rw [UInt8.toNat_ofNat', Nat.mod_eq_of_lt hlt, ← hcj] at h
              exact h)
            clear hcj
            go_wp2_with (go_at_call 23; refine (Hcall.out _).mono ?_; rintro e w' ⟨rfl, hb2⟩; obtain ⟨hw', hf'⟩ := truths_cell ((hb2.block _ hrl1).trans HH'.out) hlt; rw [HP.out] at hw')
            go_roundw
            case rel =>
              refine ⟨j + 1, by omega, by go_num, ?_, ?_, (HB'.out.trans (hb2.mono HB'.out.size)).trans (((Keeps.refl (fun k => w.heap.size ≤ k) _).setCell (by simp) _).below (by have := HB'.out.size; have := hb2.size; omega) (fun k hk => hk))⟩
              · rw [block_setCell' ((hb2.block _ hrl1).trans HH'.out), HS.out, HCj.out]
                have := truths_or (clUp (clFold clNone l) k (l.take j)) hlt (l[j] k)
                rw [HP.out, Bool.false_or] at this ⊢
                rw [this]
              · rw [Below.heap_setCell _ _ _ _ (by simp)]
                exact (hb2.block _ hrl).trans HR'.out
            case measure => simp [intOf]; omega
          · rw [hp] at hw
            have HP := Lib.hid hp
            clear hp
            go_wp2
            go_roundw
            case rel =>
              refine ⟨j + 1, by omega, by go_num, ?_, ?_, HB'.out.trans (((Keeps.refl (fun k => w.heap.size ≤ k) _).setCell (by simp) _).below (by have := HB'.out.size; omega) (fun k hk => hk))⟩
              · rw [block_setCell' HH'.out, HS.out]
                have := truths_or (clUp (clFold clNone l) k (l.take j)) hlt (l[j] k)
                rw [HP.out, Bool.true_or] at this ⊢
                rw [this]
              · rw [Below.heap_setCell _ _ _ _ (by simp)]
                exact HR'.out
            case measure => simp [intOf]; omega
        · obtain rfl : j = l.length := by omega
          have HH' := Lib.hid hh
          have HR' := Lib.hid hr
          have HB' := Lib.hid hb
          clear hh hr hb
          go_wp2
          go_roundw
          case rel =>
            refine ⟨k + 1, by omega, by go_num, ?_, HR'.out, HB'.out⟩
            have := HH'.out
            rw [List.take_length, clUp_all] at this
            exact this
          case measure => have := Hn.out; simp [intOf]; omega
    · obtain rfl : k = 256 := by omega
      have HR := Lib.hid hr
      have HH : Hid (wr.heap[w.heap.size + 1]? = some (.cells (truths (clFold clNone l)).toArray 4 (0, 0))) := Lib.hid (hh.trans (by rw [truths_congr (clTo_eq _)]))
      have HB := Lib.hid hb
      have hrl := lt_of_block hr
      clear hr hh hb
      go_wp2_with (go_at_call 24; refine (ref_Set _ (clFold clNone l) _ (truths_cells HH.out)).mono ?_; rintro e w' ⟨rfl, hb⟩; obtain ⟨⟨r0, f0⟩, ⟨r1, f1⟩, ⟨r2, f2⟩, ⟨r3, f3⟩⟩ := four_cells ((hb.block _ hrl).trans HR.out); simp only [clv, clc])
      have hst := store4 (u0 := .int .u64 (word (clFold clNone l) 0)) (u1 := .int .u64 (word (clFold clNone l) 1)) (u2 := .int .u64 (word (clFold clNone l) 2)) (u3 := .int .u64 (word (clFold clNone l) 3)) ((hb.block _ hrl).trans HR.out)
      refine bodyPost_ret (results_cell_row rfl _ _ w.heap.size _ _ _ _ rfl hst Tryd.und_class rfl Tryd.size_class) rfl ⟨rfl, ?_⟩
      exact (((((Keeps.ofBelow (HB.out.trans (hb.mono HB.out.size))).setCell (by simp) _).setCell (by simp) _).setCell (by simp) _).setCell (by simp) _).below (Nat.le_refl _) (fun k hk => hk)
end Go.Proofs.YtchjlgmnfepedaaDoor
