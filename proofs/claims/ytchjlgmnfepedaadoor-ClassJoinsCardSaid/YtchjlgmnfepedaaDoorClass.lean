/-
  Package class: what its functions do to classes.
-/
import Derived.Test.YtchjlgmnfepedaaDoorCls
import Derived.Deep.RegionHeld
import Derived.StillTailTactics
import Derived.Deep.RegionWith
namespace Go.Proofs.YtchjlgmnfepedaaDoor
open Go.RowKit Go.Lib

theorem heap_alloc_new2 (w : World) (o o' o'' : Obj) : (((w.alloc o).alloc o').alloc o'').heap[w.heap.size + 2]? = some o'' := by
  have h := heap_alloc2_new (w.alloc o) o' o''
  have hs : (w.alloc o).heap.size = w.heap.size + 1 := by simp
  rw [hs] at h; exact h
theorem heap_alloc_mid (w : World) (o o' o'' : Obj) : (((w.alloc o).alloc o').alloc o'').heap[w.heap.size + 1]? = some o' := by
  rw [Below.heap_alloc _ _ _ (by simp)]; exact heap_alloc2_new w o o'
theorem cls_cells {w : World} {x : Nat} {s : Nat → Bool} {t : TypeId} (h : w.heap[x]? = some (.cells (clc s) t (0, 0))) :
    w.cell? ⟨x, 0, none⟩ = some (.int .u64 (word s 0)) ∧ w.cell? ⟨x, 1, none⟩ = some (.int .u64 (word s 1)) ∧ w.cell? ⟨x, 2, none⟩ = some (.int .u64 (word s 2)) ∧ w.cell? ⟨x, 3, none⟩ = some (.int .u64 (word s 3)) :=
  ⟨(block_cell' h 0).1, (block_cell' h 1).1, (block_cell' h 2).1, (block_cell' h 3).1⟩
theorem store4 {w : World} {x : Nat} {a b c d u0 u1 u2 u3 : Value} {t : TypeId} {fr : Nat × Nat} (h : w.heap[x]? = some (.cells #[a, b, c, d] t fr)) :
    ((((w.setCell ⟨x, 0, none⟩ u0).setCell ⟨x, 1, none⟩ u1).setCell ⟨x, 2, none⟩ u2).setCell ⟨x, 3, none⟩ u3).heap[x]? = some (.cells #[u0, u1, u2, u3] t fr) :=
  block_setCell' (block_setCell' (block_setCell' (block_setCell' h)))
theorem Tryd.und_class : Tryd.prog.underlying 24 = some (.array 4 22) := by kernel_rfl
theorem Tryd.size_class : (Tryd.prog.info? 24).map (·.size) = some 4 := by kernel_rfl
theorem four_cells {w : World} {x : Nat} {a b c d : Value} {t : TypeId} (h : w.heap[x]? = some (.cells #[a, b, c, d] t (0, 0))) :
    (w.cell? ⟨x, 0, none⟩ = some a ∧ w.frozen? ⟨x, 0, none⟩ = false) ∧ (w.cell? ⟨x, 1, none⟩ = some b ∧ w.frozen? ⟨x, 1, none⟩ = false) ∧ (w.cell? ⟨x, 2, none⟩ = some c ∧ w.frozen? ⟨x, 2, none⟩ = false) ∧ w.cell? ⟨x, 3, none⟩ = some d ∧ w.frozen? ⟨x, 3, none⟩ = false :=
  ⟨block_cell' h 0, block_cell' h 1, block_cell' h 2, block_cell' h 3⟩
theorem ret_bool' {a b : Bool} (h : a = b) : Ending.returned (.bool a) = .returned (.bool b) := by rw [h]
theorem has_word (s : Nat → Bool) (b : Nat) : (bits BinOp.and IntKind.u64 ((word s (b / 64) : Int) / 2 ^ (b % 64)) 1 == 1) = s b := by
  have h2 : ((2 : Int) ^ (b % 64)) = ((2 ^ (b % 64) : Nat) : Int) := by simp
  have hlt := word_lt s (b / 64)
  have hle : word s (b / 64) / 2 ^ (b % 64) ≤ word s (b / 64) := Nat.div_le_self _ _
  have h1 := bits_and_u64_nat (word s (b / 64) / 2 ^ (b % 64)) 1 (by omega) (by omega)
  rw [h2, show ((word s (b / 64) : Int) / ((2 ^ (b % 64) : Nat) : Int)) = ((word s (b / 64) / 2 ^ (b % 64) : Nat) : Int) from by simp]
  rw [show (1 : Int) = ((1 : Nat) : Int) from rfl, h1]
  have hb := word_bit s (b / 64) (b % 64) (Nat.mod_lt _ (by omega))
  rw [show 64 * (b / 64) + b % 64 = b from by omega] at hb
  rw [← hb]
  rw [← Nat.shiftRight_eq_div_pow]
  have := has_bit (word s (b / 64)) (b % 64)
  cases hx : (word s (b / 64)).testBit (b % 64) with
  | true => rw [this.2 hx]; rfl
  | false =>
    have : ¬ (word s (b / 64) >>> (b % 64)) &&& 1 = 1 := fun h => by rw [this.1 h] at hx; cases hx
    simp only [beq_eq_false_iff_ne, ne_eq]
    omega

set_option maxHeartbeats 400000 in
theorem set_has (w : World) (x : Nat) (t : TypeId) (s : Nat → Bool) (b : UInt8) (h : w.heap[x]? = some (.cells (clc s) t (0, 0))) :
    Calls Tryd.prog 32 #[.pointer (some ⟨x, 0, none⟩), .int .u8 b.toNat] w fun e w' => e = .returned (.bool (s b.toNat)) ∧ w = w' := by
  have hb : b.toNat < 256 := b.toNat_lt
  have hc := (block_cell' h (b.toNat / 64)).1
  rw [clc_get _ (by omega)] at hc
  have hlt := word_lt s (b.toNat / 64)
  clear h
  go_enter Tryd.func32, Tryd.ntmps32

  go_wp2
  go_ret
  exact ⟨ret_bool' (has_word s b.toNat), rfl⟩

/-- the word that put writes. -/
theorem put_word (s : Nat → Bool) (b : Nat) : bits BinOp.or IntKind.u64 (word s (b / 64) : Int) (IntKind.u64.wrap (1 * 2 ^ (b % 64))) = ((word s (b / 64) ||| 2 ^ (b % 64) : Nat) : Int) := by
  rw [shl_one _ (Nat.mod_lt _ (by omega))]
  exact bits_or_u64_nat _ _ (word_lt _ _) (Nat.pow_lt_pow_right (by omega) (Nat.mod_lt _ (by omega : 64 > 0)))
/-- a byte is put. -/
def clPut (s : Nat → Bool) (b : Nat) : Nat → Bool := fun i => s i || i == b
theorem put_cells (s : Nat → Bool) {b : Nat} (hb : b < 256) : (clc s).setIfInBounds (b / 64) (.int .u64 ((word s (b / 64) ||| 2 ^ (b % 64) : Nat) : Int)) = clc (clPut s b) := by
  refine clc_set (by omega) (Nat.or_lt_two_pow (n := 64) (word_lt _ _) (Nat.pow_lt_pow_right (by omega) (Nat.mod_lt _ (by omega)))) (fun i hi => ?_) (fun j hj hne => ?_)
  · rw [Nat.testBit_or, word_bit _ _ _ hi, Nat.testBit_two_pow]
    unfold clPut
    congr 1
    by_cases h : b % 64 = i
    · subst h
      simp; omega
    · simp [h]; omega
  · unfold clPut
    have : (j == b) = false := by simp; rintro rfl; exact hne rfl
    rw [this]; simp

set_option maxHeartbeats 400000 in
theorem set_put (w : World) (x : Nat) (t : TypeId) (s : Nat → Bool) (b : UInt8) (h : w.heap[x]? = some (.cells (clc s) t (0, 0))) :
    Calls Tryd.prog 30 #[.pointer (some ⟨x, 0, none⟩), .int .u8 b.toNat] w fun e w' => e = .returned (.tuple #[]) ∧ w'.heap[x]? = some (.cells (clc (clPut s b.toNat)) t (0, 0)) ∧ Keeps (fun k => k = x) w w' := by
  have hb : b.toNat < 256 := b.toNat_lt
  obtain ⟨hc, hf⟩ := block_cell' h (b.toNat / 64)
  rw [clc_get _ (by omega)] at hc
  have hlt := word_lt s (b.toNat / 64)
  have H := Lib.hid h
  clear h
  go_enter Tryd.func30, Tryd.ntmps30
  go_still_tail 12, (by kernel_rfl)
  have h0 : (0 : Int) ≤ (b.toNat : Int) / 64 := by omega
  have h4 : (b.toNat : Int) / 64 < 4 := by omega
  have ht : ((b.toNat : Int) / 64).toNat = b.toNat / 64 := by omega
  have hand : bits BinOp.and IntKind.u8 (b.toNat : Int) 63 = (b.toNat : Int) % 64 := by
    have := u8_and_nat b.toNat 63 hb (by omega)
    rw [show ((63 : Nat) : Int) = 63 from rfl] at this
    rw [this, show (63 : Nat) = 2 ^ 6 - 1 from rfl, Nat.and_two_pow_sub_one_eq_mod]
    rfl
  repeat still_step
  try refine wpStill_nil ?_
  go_wp2
  go_end0
  refine ⟨rfl, ?_, ((Keeps.refl (fun k => k = x) w).setCell (p := ⟨x, _, none⟩) rfl _).drew⟩
  show (World.setCell _ _ _).heap[x]? = _
  have hw := put_word s b.toNat
  rw [Int.one_mul] at hw
  rw [block_setCell' H.out, hw, put_cells s hb]

set_option maxHeartbeats 400000 in
theorem class_Has (w : World) (s : Nat → Bool) (b : UInt8) :
    Calls Tryd.prog 18 #[clv s, .int .u8 b.toNat] w fun e w' => e = .returned (.bool (s b.toNat)) ∧ Below w.heap.size w w' := by
  unfold clv clc
  go_enter Tryd.func18, Tryd.ntmps18
  go_wp2_with (go_at_call 32; refine (set_has _ _ 46 s b (heap_alloc2_new _ _ _)).mono ?_; rintro e w' ⟨rfl, rfl⟩)
  go_ret
  exact ⟨rfl, ((Below.refl _ _).alloc (Nat.le_refl _) _).alloc (by simp) _⟩

/-- after k words are turned round. -/
def clNotTo (s : Nat → Bool) (k : Nat) : Nat → Bool := fun b => if b < 64 * k then !s b else s b
theorem clNotTo_zero (s : Nat → Bool) : clNotTo s 0 = s := by funext b; simp [clNotTo]
theorem clNotTo_four (s : Nat → Bool) : clc (clNotTo s 4) = clc (clNot s) := clc_congr fun b hb => by unfold clNotTo clNot; rw [if_pos (by omega)]
theorem xor_ones : (if IntKind.u64.signed = true then (-1 : Int) else IntKind.u64.max) = 18446744073709551615 := by decide
theorem not_cells (s : Nat → Bool) {k : Nat} (hk : k < 4) : (clc (clNotTo s k)).setIfInBounds k (.int .u64 (bits .xor .u64 18446744073709551615 (word s k))) = clc (clNotTo s (k + 1)) := by
  have hx := bits_xor_u64_nat 18446744073709551615 (word s k) (by omega) (word_lt _ _)
  rw [show ((18446744073709551615 : Nat) : Int) = 18446744073709551615 from rfl] at hx
  rw [hx]
  refine clc_set hk (Nat.xor_lt_two_pow (n := 64) (by omega) (word_lt _ _)) (fun i hi => ?_) (fun j hj hne => ?_)
  · rw [Nat.testBit_xor, word_bit _ _ _ hi, show 18446744073709551615 = 2 ^ 64 - 1 from rfl, Nat.testBit_two_pow_sub_one]
    unfold clNotTo
    rw [if_pos (by omega)]
    simp [hi]
  · unfold clNotTo
    by_cases h : j < 64 * k
    · rw [if_pos h, if_pos (by omega)]
    · rw [if_neg h, if_neg (by omega)]

set_option maxHeartbeats 400000 in
theorem set_not (w : World) (x : Nat) (t : TypeId) (s : Nat → Bool) (h : w.heap[x]? = some (.cells (clc s) t (0, 0))) :
    Calls Tryd.prog 22 #[.pointer (some ⟨x, 0, none⟩)] w fun e w' => e = .returned (.tuple #[]) ∧ w'.heap[x]? = some (.cells (clc (clNot s)) t (0, 0)) ∧ Keeps (fun k => k = x) w w' := by
  have H := Lib.hid h
  clear h
  go_enter Tryd.func22, Tryd.ntmps22
  go_wp2
  go_loopw [3] (fun i wr => ∃ k : Nat, k ≤ 4 ∧ i = .int .i64 k ∧ wr.heap[x]? = some (.cells (clc (clNotTo s k)) t (0, 0)) ∧ Keeps (fun k => k = x) w wr) (fun i _ => 4 - (intOf i).toNat)
  case atStart => exact ⟨0, by omega, rfl, by rw [clNotTo_zero]; exact H.out, Keeps.refl _ _⟩
  case round =>
    obtain ⟨k, hk4, rfl, hh, hkeep⟩ := hrel
    by_cases hlt : k < 4
    · obtain ⟨hc, hf⟩ := block_cell' hh k
      rw [clc_get _ hlt] at hc
      have hwk : word (clNotTo s k) k = word s k := word_congr fun i hi => by unfold clNotTo; rw [if_neg (by omega)]
      rw [hwk] at hc
      have hlt' := word_lt s k
      have HH := Lib.hid hh
      have HK := Lib.hid hkeep
      clear hh hkeep hwk
      go_wp2
      go_still_tail 10, (by kernel_rfl)
      go_wp2
      go_roundw
      case rel =>
        refine ⟨k + 1, by omega, by go_num, ?_, (HK.out.setCell (p := ⟨x, _, none⟩) rfl _).drew⟩
        show (World.setCell _ _ _).heap[x]? = _
        rw [block_setCell' HH.out]
        have := not_cells s hlt
        rw [← xor_ones] at this
        exact congrArg (fun c => some (Obj.cells c t)) this
      case measure => simp [intOf]; omega
    · go_wp2
      go_end0
      obtain rfl : k = 4 := by omega
      rw [clNotTo_four] at hh
      exact ⟨rfl, hh, hkeep⟩
set_option maxHeartbeats 400000 in
theorem class_Not (w : World) (s : Nat → Bool) :
    Calls Tryd.prog 7 #[clv s] w fun e w' => e = .returned (clv (clNot s)) ∧ Below w.heap.size w w' := by
  unfold clv clc
  go_enter Tryd.func7, Tryd.ntmps7
  go_wp2_with (go_at_call 22; refine (set_not _ _ 46 s (heap_alloc_new2 _ _ _ _)).mono ?_; rintro e w' ⟨rfl, h1, h2⟩; obtain ⟨c0, c1, c2, c3⟩ := cls_cells h1; obtain ⟨⟨r0, f0⟩, ⟨r1, f1⟩, ⟨r2, f2⟩, ⟨r3, f3⟩⟩ := four_cells (h2.obj (heap_alloc_mid _ _ _ _) (by omega)))
  have hst := store4 (u0 := .int .u64 (word (clNot s) 0)) (u1 := .int .u64 (word (clNot s) 1)) (u2 := .int .u64 (word (clNot s) 2)) (u3 := .int .u64 (word (clNot s) 3)) (h2.obj (heap_alloc_mid _ _ _ _) (by omega))
  refine bodyPost_ret (results_cell_row rfl _ _ (w.heap.size + 1) _ _ _ _ rfl hst Tryd.und_class rfl Tryd.size_class) rfl ⟨rfl, ?_⟩
  exact (((((((Keeps.refl (fun k => w.heap.size ≤ k) w).alloc _).alloc _).alloc _).trans (h2.mono (fun k _ hk => by omega))).setCell (by simp) _).setCell (by simp) _ |>.setCell (by simp) _ |>.setCell (by simp) _).below (Nat.le_refl _) (fun k hk => hk)

/-- after k words are joined. -/
def clOrTo (s o : Nat → Bool) (k : Nat) : Nat → Bool := fun b => if b < 64 * k then s b || o b else s b
theorem clOrTo_zero (s o : Nat → Bool) : clOrTo s o 0 = s := by funext b; simp [clOrTo]
theorem clOrTo_four (s o : Nat → Bool) : clc (clOrTo s o 4) = clc (clOr s o) := clc_congr fun b hb => by unfold clOrTo clOr; rw [if_pos (by omega)]
theorem or_cells (s o : Nat → Bool) {k : Nat} (hk : k < 4) : (clc (clOrTo s o k)).setIfInBounds k (.int .u64 (bits .or .u64 (word s k) (word o k))) = clc (clOrTo s o (k + 1)) := by
  rw [bits_or_u64_nat _ _ (word_lt _ _) (word_lt _ _)]
  refine clc_set hk (Nat.or_lt_two_pow (n := 64) (word_lt _ _) (word_lt _ _)) (fun i hi => ?_) (fun j hj hne => ?_)
  · rw [Nat.testBit_or, word_bit _ _ _ hi, word_bit _ _ _ hi]
    unfold clOrTo
    rw [if_pos (by omega)]
  · unfold clOrTo
    by_cases h : j < 64 * k
    · rw [if_pos h, if_pos (by omega)]
    · rw [if_neg h, if_neg (by omega)]

set_option maxHeartbeats 400000 in
theorem set_or (w : World) (x : Nat) (t : TypeId) (s o : Nat → Bool) (h : w.heap[x]? = some (.cells (clc s) t (0, 0))) :
    Calls Tryd.prog 26 #[.pointer (some ⟨x, 0, none⟩), clv o] w fun e w' => e = .returned (.tuple #[]) ∧ w'.heap[x]? = some (.cells (clc (clOr s o)) t (0, 0)) ∧ Keeps (fun k => k = x) w w' := by
  have hxl := lt_of_block h
  have H := Lib.hid h
  clear h
  unfold clv
  go_enter Tryd.func26, Tryd.ntmps26
  go_wp2
  go_loopw [5] (fun i wr => ∃ k : Nat, k ≤ 4 ∧ i = .int .i64 k ∧ wr.heap[x]? = some (.cells (clc (clOrTo s o k)) t (0, 0)) ∧ wr.heap[w.heap.size]? = some (.cells (clc o) 46 (0, 0)) ∧ Keeps (fun k => k = x) w wr) (fun i _ => 4 - (intOf i).toNat)
  case atStart => exact ⟨0, by omega, rfl, by rw [clOrTo_zero, Below.heap_alloc _ _ _ hxl]; exact H.out, heap_alloc_new _ _, (Keeps.refl _ _).alloc _⟩
  case round =>
    obtain ⟨k, hk4, rfl, hh, ho, hkeep⟩ := hrel
    by_cases hlt : k < 4
    · obtain ⟨hc, hf⟩ := block_cell' hh k
      rw [clc_get _ hlt] at hc
      have hwk : word (clOrTo s o k) k = word s k := word_congr fun i hi => by unfold clOrTo; rw [if_neg (by omega)]
      rw [hwk] at hc
      have hco := (block_cell' ho k).1
      rw [clc_get _ hlt] at hco
      have HH := Lib.hid hh
      have HO := Lib.hid ho
      have HK := Lib.hid hkeep
      clear hh hkeep hwk ho
      go_wp2
      go_still_tail 11, (by kernel_rfl)
      go_wp2
      go_roundw
      case rel =>
        refine ⟨k + 1, by omega, by go_num, ?_, ?_, (HK.out.setCell (p := ⟨x, _, none⟩) rfl _).drew⟩
        · show (World.setCell _ _ _).heap[x]? = _
          rw [block_setCell' HH.out]
          exact congrArg (fun c => some (Obj.cells c t)) (or_cells s o hlt)
        · show (World.setCell _ _ _).heap[_]? = _
          rw [Below.heap_setCell _ _ _ _ (by simp; omega)]
          exact HO.out
      case measure => simp [intOf]; omega
    · go_wp2
      go_end0
      obtain rfl : k = 4 := by omega
      rw [clOrTo_four] at hh
      exact ⟨rfl, hh, hkeep⟩

/-- the first of some classes, joined to one. -/
def clFold (s : Nat → Bool) (l : List (Nat → Bool)) : Nat → Bool := l.foldl clOr s

theorem clFold_take (s : Nat → Bool) (l : List (Nat → Bool)) {k : Nat} (h : k < l.length) : clFold s (l.take (k + 1)) = clOr (clFold s (l.take k)) l[k] := by
  unfold clFold
  rw [List.take_succ_eq_append_getElem h, List.foldl_append]
  rfl

/-- a slice of classes. -/
def ClsAt (w : World) (v : Value) (l : List (Nat → Bool)) : Prop :=
  ∃ ao b off cap, v = .slice ao l.length cap ∧ l.length ≤ cap ∧ cap ≤ maxLen ∧ (ao = none → l.length = 0 ∧ cap = 0) ∧ (0 < l.length → ao = some ⟨b, off, none⟩ ∧ b < w.heap.size) ∧
    ∀ k (h : k < l.length) j, j < 4 → w.cell? ⟨b, off + k * 4 + j, none⟩ = some (.int .u64 (word l[k] j))
theorem ClsAt.later {w w' : World} {v : Value} {t : List (Nat → Bool)} (h : ClsAt w v t) (hb : Below w.heap.size w w') : ClsAt w' v t := by
  obtain ⟨ao, b, off, cap, rfl, hl, hm, hnil, hao, hc⟩ := h
  exact ⟨ao, b, off, cap, rfl, hl, hm, hnil, fun h => ⟨(hao h).1, Nat.lt_of_lt_of_le (hao h).2 hb.size⟩, fun k hk j hj => cell_later hb (hc k hk j hj)⟩

set_option maxHeartbeats 400000 in
theorem class_fold_or (w : World) (s : Nat → Bool) (l : List (Nat → Bool)) (v : Value) (hv : ClsAt w v l) :
    Calls Tryd.prog 25 #[clv s, .func (.func 26) #[] #[], v] w fun e w' => e = .returned (clv (clFold s l)) ∧ Below w.heap.size w w' := by
  have HV := Lib.hid hv
  obtain ⟨ao, b, off, cap, rfl, hl, hm, hnil, hao, hc⟩ := hv
  clear hnil hao hc
  unfold clv
  go_enter Tryd.func25, Tryd.ntmps25
  go_wp2
  have hll : l.length ≤ 9223372036854775807 := by unfold maxLen at hm; omega
  go_loopw [11] (fun i wr => ∃ k : Nat, k ≤ l.length ∧ i = .int .i64 k ∧ wr.heap[w.heap.size]? = some (.cells (clc (clFold s (l.take k))) 46 (0, 0)) ∧ wr.heap[w.heap.size + 1]? = some (.cells #[.int .u64 0, .int .u64 0, .int .u64 0, .int .u64 0] 24 (0, 0)) ∧ Below w.heap.size w wr) (fun i _ => l.length - (intOf i).toNat)
  case atStart => exact ⟨0, by omega, rfl, heap_alloc2_old _ _ _, heap_alloc2_new _ _ _, ((Below.refl _ _).alloc (Nat.le_refl _) _).alloc (by simp) _⟩
  case round =>
    obtain ⟨k, hk, rfl, hh, hr, hb⟩ := hrel
    by_cases hlt : k < l.length
    · obtain ⟨ao', b', off', cap', he, _, _, _, hao, hc⟩ := HV.out
      simp only [Value.slice.injEq, true_and] at he
      obtain ⟨rfl, rfl⟩ := he
      obtain ⟨rfl, hbl⟩ := hao (by omega)
      have hcc := fun j hj => (hb.cell (p := ⟨b', off' + k * 4 + j, none⟩) hbl).trans (hc k hlt j hj)
      have e0 := hcc 0 (by omega)
      rw [Nat.add_zero] at e0
      have e1 := hcc 1 (by omega)
      have e2 := hcc 2 (by omega)
      have e3 := hcc 3 (by omega)
      have HH := Lib.hid hh
      have HR := Lib.hid hr
      have HB := Lib.hid hb
      have HL := Lib.hid hlt
      clear hh hr hb hcc hc hao
      have hltI : (k : Int) < l.length := by omega
      have hws : w.heap.size < wr.heap.size := lt_of_block HH.out
      have hws1 : w.heap.size + 1 < wr.heap.size := lt_of_block HR.out
      go_wp2_with (go_at_call 26; refine (set_or _ _ 46 (clFold s (l.take k)) l[k] (by rw [Below.heap_alloc _ _ _ hws]; exact HH.out)).mono ?_; rintro e w' ⟨rfl, h1, h2⟩)
      go_roundw
      case rel =>
        refine ⟨k + 1, by omega, by go_num, ?_, ?_, ?_⟩
        · rw [clFold_take _ _ hlt]; exact h1
        · rw [h2.block _ (by simp; omega) (by omega), Below.heap_alloc _ _ _ hws1]; exact HR.out
        · exact (HB.out.alloc (by omega) _).trans (h2.below (by simp; omega) (fun k hk => by omega))
      case measure => simp [intOf]; omega
    · obtain rfl : k = l.length := by omega
      rw [List.take_length] at hh
      obtain ⟨c0, c1, c2, c3⟩ := cls_cells hh
      obtain ⟨⟨r0, f0⟩, ⟨r1, f1⟩, ⟨r2, f2⟩, ⟨r3, f3⟩⟩ := four_cells hr
      have HR := Lib.hid hr
      clear hr hh
      have hlt' : ¬ (l.length : Int) < l.length := by omega
      go_wp2
      have hst := store4 (u0 := .int .u64 (word (clFold s l) 0)) (u1 := .int .u64 (word (clFold s l) 1)) (u2 := .int .u64 (word (clFold s l) 2)) (u3 := .int .u64 (word (clFold s l) 3)) HR.out
      refine bodyPost_ret (results_cell_row rfl _ _ (w.heap.size + 1) _ _ _ _ rfl hst Tryd.und_class rfl Tryd.size_class) rfl ⟨rfl, ?_⟩
      exact (((((Keeps.ofBelow hb).setCell (by simp) _).setCell (by simp) _).setCell (by simp) _).setCell (by simp) _).below (Nat.le_refl _) (fun k hk => hk)

set_option maxHeartbeats 400000 in
theorem class_Or (w : World) (l : List (Nat → Bool)) (v : Value) (hv : ClsAt w v l) :
    Calls Tryd.prog 9 #[v] w fun e w' => e = .returned (clv (clFold clNone l)) ∧ Below w.heap.size w w' := by
  have HV := Lib.hid hv
  clear hv
  go_enter Tryd.func9, Tryd.ntmps9
  have hfo := fun w1 (hb : Below w.heap.size w w1) => class_fold_or w1 clNone l v (HV.out.later hb)
  unfold clv at hfo
  rw [clc_none] at hfo
  have Hfo := Lib.hid hfo
  clear hfo HV
  go_wp2_with (go_at_call 25; refine (Hfo.out _ ((Below.refl _ _).alloc (Nat.le_refl _) _)).mono ?_; rintro e w' ⟨rfl, hb⟩; obtain ⟨⟨r0, f0⟩, ⟨r1, f1⟩, ⟨r2, f2⟩, ⟨r3, f3⟩⟩ := four_cells (hb.block _ (by simp) |>.trans (heap_alloc_new _ _)); simp only [clc])
  have hst := store4 (u0 := .int .u64 (word (clFold clNone l) 0)) (u1 := .int .u64 (word (clFold clNone l) 1)) (u2 := .int .u64 (word (clFold clNone l) 2)) (u3 := .int .u64 (word (clFold clNone l) 3)) (hb.block _ (by simp) |>.trans (heap_alloc_new _ _))
  refine bodyPost_ret (results_cell_row rfl _ _ w.heap.size _ _ _ _ rfl hst Tryd.und_class rfl Tryd.size_class) rfl ⟨rfl, ?_⟩
  exact (((((((Keeps.refl (fun k => w.heap.size ≤ k) w).alloc _).trans (Keeps.ofBelow (hb.mono (by simp)))).setCell (by simp) _).setCell (by simp) _).setCell (by simp) _).setCell (by simp) _).below (Nat.le_refl _) (fun k hk => hk)

theorem clOf_take (l : List UInt8) {k : Nat} (h : k < l.length) : clOf (l.take (k + 1)) = clPut (clOf (l.take k)) l[k].toNat := by
  funext b
  unfold clOf clPut
  rw [List.take_succ_eq_append_getElem h, List.any_append]
  simp

set_option maxHeartbeats 400000 in
theorem class_Of (w : World) (l : List UInt8) (v : Value) (hv : BytesAt w v l) :
    Calls Tryd.prog 20 #[v] w fun e w' => e = .returned (clv (clOf l)) ∧ Below w.heap.size w w' := by
  have HV := Lib.hid hv
  obtain ⟨ao, b, off, cap, rfl, hl, hm, hnil, hao, hc⟩ := hv
  clear hnil hao hc
  go_enter Tryd.func20, Tryd.ntmps20
  go_wp2
  have hll : l.length ≤ 9223372036854775807 := by unfold maxLen at hm; omega
  go_loopw [8] (fun i wr => ∃ k : Nat, k ≤ l.length ∧ i = .int .i64 k ∧ wr.heap[w.heap.size + 1]? = some (.cells (clc (clOf (l.take k))) 46 (0, 0)) ∧ wr.heap[w.heap.size]? = some (.cells #[.int .u64 0, .int .u64 0, .int .u64 0, .int .u64 0] 24 (0, 0)) ∧ Below w.heap.size w wr) (fun i _ => l.length - (intOf i).toNat)
  case atStart =>
    refine ⟨0, by omega, rfl, ?_, heap_alloc2_old _ _ _, ((Below.refl _ _).alloc (Nat.le_refl _) _).alloc (by simp) _⟩
    rw [show clOf (l.take 0) = clNone from by funext b; simp [clOf, clNone], clc_none]
    exact heap_alloc2_new _ _ _
  case round =>
    obtain ⟨k, hk, rfl, hh, hr, hb⟩ := hrel
    by_cases hlt : k < l.length
    · obtain ⟨ao', b', off', cap', he, _, _, _, hao, hc⟩ := HV.out.later hb
      simp only [Value.slice.injEq, true_and] at he
      obtain ⟨rfl, rfl⟩ := he
      obtain rfl := hao (by omega)
      have hcc := hc k hlt
      have HH := Lib.hid hh
      have HR := Lib.hid hr
      have HB := Lib.hid hb
      clear hh hr hb hc hao
      have hltI : (k : Int) < l.length := by omega
      have hws : w.heap.size + 1 < wr.heap.size := lt_of_block HH.out
      go_wp2_with (go_at_call 30; refine (set_put _ _ 46 (clOf (l.take k)) l[k] HH.out).mono ?_; rintro e w' ⟨rfl, h1, h2⟩)
      go_roundw
      case rel =>
        refine ⟨k + 1, by omega, by go_num, ?_, ?_, HB.out.trans (h2.below (by omega) (fun k hk => by omega))⟩
        · rw [clOf_take _ hlt]; exact h1
        · rw [h2.block _ (by omega) (by omega)]; exact HR.out
      case measure => simp [intOf]; omega
    · obtain rfl : k = l.length := by omega
      rw [List.take_length] at hh
      obtain ⟨c0, c1, c2, c3⟩ := cls_cells hh
      obtain ⟨⟨r0, f0⟩, ⟨r1, f1⟩, ⟨r2, f2⟩, ⟨r3, f3⟩⟩ := four_cells hr
      have HR := Lib.hid hr
      clear hr hh
      have hlt' : ¬ (l.length : Int) < l.length := by omega
      go_wp2
      have hst := store4 (u0 := .int .u64 (word (clOf l) 0)) (u1 := .int .u64 (word (clOf l) 1)) (u2 := .int .u64 (word (clOf l) 2)) (u3 := .int .u64 (word (clOf l) 3)) HR.out
      refine bodyPost_ret (results_cell_row rfl _ _ w.heap.size _ _ _ _ rfl hst Tryd.und_class rfl Tryd.size_class) rfl ⟨rfl, ?_⟩
      exact (((((Keeps.ofBelow hb).setCell (by simp) _).setCell (by simp) _).setCell (by simp) _).setCell (by simp) _).below (Nat.le_refl _) (fun k hk => hk)
end Go.Proofs.YtchjlgmnfepedaaDoor
