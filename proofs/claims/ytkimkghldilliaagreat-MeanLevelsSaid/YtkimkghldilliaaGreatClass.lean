/-
  Package class: what its functions do to classes.
-/
import Derived.Test.YtkimkghldilliaaGreatCls
import Derived.Deep.RegionHeld
import Derived.StillTailTactics
import Derived.Deep.RegionWith
namespace Go.Proofs.YtkimkghldilliaaGreat
open Go.RowKit Go.Lib

theorem heap_alloc_new2 (w : World) (o o' o'' : Obj) : (((w.alloc o).alloc o').alloc o'').heap[w.heap.size + 2]? = some o'' := by
  have h := heap_alloc2_new (w.alloc o) o' o''
  have hs : (w.alloc o).heap.size = w.heap.size + 1 := by simp
  rw [hs] at h; exact h
theorem heap_alloc_mid (w : World) (o o' o'' : Obj) : (((w.alloc o).alloc o').alloc o'').heap[w.heap.size + 1]? = some o' := by
  rw [Below.heap_alloc _ _ _ (by simp)]; exact heap_alloc2_new w o o'
theorem cls_cells {w : World} {x : Nat} {s : Nat → Bool} {t : TypeId} (h : w.heap[x]? = some (.cells (clc s) t (0, 0))) :
    w.cell? ⟨x, 0, none⟩ = some (.int .u64 (word s 0)) ∧ w.cell? ⟨x, 1, none⟩ = some (.int .u64 (word s 1)) ∧ w.cell? ⟨x, 2, none⟩ = some (.int .u64 (word s 2)) ∧ w.cell? ⟨x, 3, none⟩ = some (.int .u64 (word s 3)) :=
  ⟨(block_cell' h 0).1, (block_cell' h 1).1, (block_cell' h 2).1, (block_cell' h 3).1⟩
theorem store4 {w : World} {x : Nat} {a b c d u0 u1 u2 u3 : Value} {t : TypeId} {fr : Nat × Nat} (h : w.heap[x]? = some (.cells #[a, b, c, d] t fr)) :
    ((((w.setCell ⟨x, 0, none⟩ u0).setCell ⟨x, 1, none⟩ u1).setCell ⟨x, 2, none⟩ u2).setCell ⟨x, 3, none⟩ u3).heap[x]? = some (.cells #[u0, u1, u2, u3] t fr) :=
  block_setCell' (block_setCell' (block_setCell' (block_setCell' h)))
theorem Tryz.und_class : Tryz.prog.underlying 58 = some (.array 4 56) := by kernel_rfl
theorem Tryz.size_class : (Tryz.prog.info? 58).map (·.size) = some 4 := by kernel_rfl
theorem four_cells {w : World} {x : Nat} {a b c d : Value} {t : TypeId} (h : w.heap[x]? = some (.cells #[a, b, c, d] t (0, 0))) :
    (w.cell? ⟨x, 0, none⟩ = some a ∧ w.frozen? ⟨x, 0, none⟩ = false) ∧ (w.cell? ⟨x, 1, none⟩ = some b ∧ w.frozen? ⟨x, 1, none⟩ = false) ∧ (w.cell? ⟨x, 2, none⟩ = some c ∧ w.frozen? ⟨x, 2, none⟩ = false) ∧ w.cell? ⟨x, 3, none⟩ = some d ∧ w.frozen? ⟨x, 3, none⟩ = false :=
  ⟨block_cell' h 0, block_cell' h 1, block_cell' h 2, block_cell' h 3⟩
theorem ret_bool' {a b : Bool} (h : a = b) : Ending.returned (.bool a) = .returned (.bool b) := by rw [h]
theorem has_word (s : Nat → Bool) (b : Nat) : (bits BinOp.and IntKind.u64 ((word s (b / 64) : Int) / 2 ^ (b % 64)) 1 == 1) = s b := by
  have h2 : ((2 : Int) ^ (b % 64)) = ((2 ^ (b % 64) : Nat) : Int) := by simp
  have hlt := word_lt s (b / 64)
  have hle : word s (b / 64) / 2 ^ (b % 64) ≤ word s (b / 64) := Nat.div_le_self _ _
  have h1 := bits_and_u64_nat (word s (b / 64) / 2 ^ (b % 64)) 1 (by omega) (by omega)
  rw [h2, show ((word s (b / 64) : Int) / ((2 ^ (b % 64) : Nat) : Int)) = ((word s (b / 64) / 2 ^ (b % 64) : Nat) : Int) from by simp]
  rw [show (1 : Int) = ((1 : Nat) : Int) from rfl, h1]
  have hb := word_bit s (b / 64) (b % 64) (Nat.mod_lt _ (by omega))
  rw [show 64 * (b / 64) + b % 64 = b from by omega] at hb
  rw [← hb]
  rw [← Nat.shiftRight_eq_div_pow]
  have := has_bit (word s (b / 64)) (b % 64)
  cases hx : (word s (b / 64)).testBit (b % 64) with
  | true => rw [this.2 hx]; rfl
  | false =>
    have : ¬ (word s (b / 64) >>> (b % 64)) &&& 1 = 1 := fun h => by rw [this.1 h] at hx; cases hx
    simp only [beq_eq_false_iff_ne, ne_eq]
    omega

set_option maxHeartbeats 400000 in
theorem set_has (w : World) (x : Nat) (t : TypeId) (s : Nat → Bool) (b : UInt8) (h : w.heap[x]? = some (.cells (clc s) t (0, 0))) :
    Calls Tryz.prog 167 #[.pointer (some ⟨x, 0, none⟩), .int .u8 b.toNat] w fun e w' => e = .returned (.bool (s b.toNat)) ∧ w = w' := by
  have hb : b.toNat < 256 := b.toNat_lt
  have hc := (block_cell' h (b.toNat / 64)).1
  rw [clc_get _ (by omega)] at hc
  have hlt := word_lt s (b.toNat / 64)
  clear h
  go_enter Tryz.func167, Tryz.ntmps167

  go_wp2
  go_ret
  exact ⟨ret_bool' (has_word s b.toNat), rfl⟩

/-- the word that put writes. -/
theorem put_word (s : Nat → Bool) (b : Nat) : bits BinOp.or IntKind.u64 (word s (b / 64) : Int) (IntKind.u64.wrap (1 * 2 ^ (b % 64))) = ((word s (b / 64) ||| 2 ^ (b % 64) : Nat) : Int) := by
  rw [shl_one _ (Nat.mod_lt _ (by omega))]
  exact bits_or_u64_nat _ _ (word_lt _ _) (Nat.pow_lt_pow_right (by omega) (Nat.mod_lt _ (by omega : 64 > 0)))
/-- a byte is put. -/
def clPut (s : Nat → Bool) (b : Nat) : Nat → Bool := fun i => s i || i == b
theorem put_cells (s : Nat → Bool) {b : Nat} (hb : b < 256) : (clc s).setIfInBounds (b / 64) (.int .u64 ((word s (b / 64) ||| 2 ^ (b % 64) : Nat) : Int)) = clc (clPut s b) := by
  refine clc_set (by omega) (Nat.or_lt_two_pow (n := 64) (word_lt _ _) (Nat.pow_lt_pow_right (by omega) (Nat.mod_lt _ (by omega)))) (fun i hi => ?_) (fun j hj hne => ?_)
  · rw [Nat.testBit_or, word_bit _ _ _ hi, Nat.testBit_two_pow]
    unfold clPut
    congr 1
    by_cases h : b % 64 = i
    · subst h
      simp; omega
    · simp [h]; omega
  · unfold clPut
    have : (j == b) = false := by simp; rintro rfl; exact hne rfl
    rw [this]; simp

set_option maxHeartbeats 400000 in
theorem class_Has (w : World) (s : Nat → Bool) (b : UInt8) :
    Calls Tryz.prog 157 #[clv s, .int .u8 b.toNat] w fun e w' => e = .returned (.bool (s b.toNat)) ∧ Below w.heap.size w w' := by
  unfold clv clc
  go_enter Tryz.func157, Tryz.ntmps157
  go_wp2_with (go_at_call 167; refine (set_has _ _ 242 s b (heap_alloc2_new _ _ _)).mono ?_; rintro e w' ⟨rfl, rfl⟩)
  go_ret
  exact ⟨rfl, ((Below.refl _ _).alloc (Nat.le_refl _) _).alloc (by simp) _⟩

theorem xor_ones : (if IntKind.u64.signed = true then (-1 : Int) else IntKind.u64.max) = 18446744073709551615 := by decide
/-- after k words are joined. -/
def clOrTo (s o : Nat → Bool) (k : Nat) : Nat → Bool := fun b => if b < 64 * k then s b || o b else s b
theorem clOrTo_zero (s o : Nat → Bool) : clOrTo s o 0 = s := by funext b; simp [clOrTo]
theorem clOrTo_four (s o : Nat → Bool) : clc (clOrTo s o 4) = clc (clOr s o) := clc_congr fun b hb => by unfold clOrTo clOr; rw [if_pos (by omega)]
theorem or_cells (s o : Nat → Bool) {k : Nat} (hk : k < 4) : (clc (clOrTo s o k)).setIfInBounds k (.int .u64 (bits .or .u64 (word s k) (word o k))) = clc (clOrTo s o (k + 1)) := by
  rw [bits_or_u64_nat _ _ (word_lt _ _) (word_lt _ _)]
  refine clc_set hk (Nat.or_lt_two_pow (n := 64) (word_lt _ _) (word_lt _ _)) (fun i hi => ?_) (fun j hj hne => ?_)
  · rw [Nat.testBit_or, word_bit _ _ _ hi, word_bit _ _ _ hi]
    unfold clOrTo
    rw [if_pos (by omega)]
  · unfold clOrTo
    by_cases h : j < 64 * k
    · rw [if_pos h, if_pos (by omega)]
    · rw [if_neg h, if_neg (by omega)]

/-- the first of some classes, joined to one. -/
def clFold (s : Nat → Bool) (l : List (Nat → Bool)) : Nat → Bool := l.foldl clOr s

theorem clFold_take (s : Nat → Bool) (l : List (Nat → Bool)) {k : Nat} (h : k < l.length) : clFold s (l.take (k + 1)) = clOr (clFold s (l.take k)) l[k] := by
  unfold clFold
  rw [List.take_succ_eq_append_getElem h, List.foldl_append]
  rfl

/-- a slice of classes. -/
def ClsAt (w : World) (v : Value) (l : List (Nat → Bool)) : Prop :=
  ∃ ao b off cap, v = .slice ao l.length cap ∧ l.length ≤ cap ∧ cap ≤ maxLen ∧ (ao = none → l.length = 0 ∧ cap = 0) ∧ (0 < l.length → ao = some ⟨b, off, none⟩ ∧ b < w.heap.size) ∧
    ∀ k (h : k < l.length) j, j < 4 → w.cell? ⟨b, off + k * 4 + j, none⟩ = some (.int .u64 (word l[k] j))
theorem ClsAt.later {w w' : World} {v : Value} {t : List (Nat → Bool)} (h : ClsAt w v t) (hb : Below w.heap.size w w') : ClsAt w' v t := by
  obtain ⟨ao, b, off, cap, rfl, hl, hm, hnil, hao, hc⟩ := h
  exact ⟨ao, b, off, cap, rfl, hl, hm, hnil, fun h => ⟨(hao h).1, Nat.lt_of_lt_of_le (hao h).2 hb.size⟩, fun k hk j hj => cell_later hb (hc k hk j hj)⟩

theorem clOf_take (l : List UInt8) {k : Nat} (h : k < l.length) : clOf (l.take (k + 1)) = clPut (clOf (l.take k)) l[k].toNat := by
  funext b
  unfold clOf clPut
  rw [List.take_succ_eq_append_getElem h, List.any_append]
  simp

end Go.Proofs.YtkimkghldilliaaGreat
