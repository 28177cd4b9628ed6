/-
  Or and And of two, three classes; the boxes of ClassRules.
-/
import Derived.Test.YtchjlgmnfepedaaDoorMore
import Derived.Test.YtchjlgmnfepedaaDoorAwake
namespace Go.Proofs.YtchjlgmnfepedaaDoor
open Go.RowKit Go.Lib

theorem cls_new2 (w : World) (s t : Nat → Bool) : ClsAt (w.alloc (.cells #[.int .u64 (word s 0), .int .u64 (word s 1), .int .u64 (word s 2), .int .u64 (word s 3), .int .u64 (word t 0), .int .u64 (word t 1), .int .u64 (word t 2), .int .u64 (word t 3)] 24)) (.slice (some ⟨w.heap.size, 0, none⟩) 2 2) [s, t] := by
  refine ⟨_, w.heap.size, 0, 2, rfl, by simp, by unfold maxLen; omega, (fun h => by cases h), fun _ => ⟨rfl, by simp⟩, fun k hk j hj => ?_⟩
  rw [Nat.zero_add, cell_alloc_new]
  match k, hk, j, hj with
  | 0, _, 0, _ => rfl
  | 0, _, 1, _ => rfl
  | 0, _, 2, _ => rfl
  | 0, _, 3, _ => rfl
  | 1, _, 0, _ => rfl
  | 1, _, 1, _ => rfl
  | 1, _, 2, _ => rfl
  | 1, _, 3, _ => rfl
theorem cls_new3 (w : World) (s t u : Nat → Bool) : ClsAt (w.alloc (.cells #[.int .u64 (word s 0), .int .u64 (word s 1), .int .u64 (word s 2), .int .u64 (word s 3), .int .u64 (word t 0), .int .u64 (word t 1), .int .u64 (word t 2), .int .u64 (word t 3), .int .u64 (word u 0), .int .u64 (word u 1), .int .u64 (word u 2), .int .u64 (word u 3)] 24)) (.slice (some ⟨w.heap.size, 0, none⟩) 3 3) [s, t, u] := by
  refine ⟨_, w.heap.size, 0, 3, rfl, by simp, by unfold maxLen; omega, (fun h => by cases h), fun _ => ⟨rfl, by simp⟩, fun k hk j hj => ?_⟩
  rw [Nat.zero_add, cell_alloc_new]
  match k, hk, j, hj with
  | 0, _, 0, _ => rfl
  | 0, _, 1, _ => rfl
  | 0, _, 2, _ => rfl
  | 0, _, 3, _ => rfl
  | 1, _, 0, _ => rfl
  | 1, _, 1, _ => rfl
  | 1, _, 2, _ => rfl
  | 1, _, 3, _ => rfl
  | 2, _, 0, _ => rfl
  | 2, _, 1, _ => rfl
  | 2, _, 2, _ => rfl
  | 2, _, 3, _ => rfl
theorem fold_or2 (s t : Nat → Bool) : clFold clNone [s, t] = clOr s t := by funext b; simp [clFold, clOr, clNone]
theorem fold_or3 (s t u : Nat → Bool) : clFold clNone [s, t, u] = clOr (clOr s t) u := by funext b; simp [clFold, clOr, clNone]
theorem fold_and2 (s t : Nat → Bool) : clFoldA (clNot clNone) [s, t] = clAnd s t := by funext b; simp [clFoldA, clAnd, clNone, clNot]
theorem fold_and3 (s t u : Nat → Bool) : clFoldA (clNot clNone) [s, t, u] = clAnd (clAnd s t) u := by funext b; simp [clFoldA, clAnd, clNone, clNot]

theorem or2 (w : World) (s t x : Nat → Bool) (hx : clOr s t = x) :
    Calls Tryd.prog 9 #[.slice (some ⟨w.heap.size, 0, none⟩) 2 2] (w.alloc (.cells #[.int .u64 (word s 0), .int .u64 (word s 1), .int .u64 (word s 2), .int .u64 (word s 3), .int .u64 (word t 0), .int .u64 (word t 1), .int .u64 (word t 2), .int .u64 (word t 3)] 24)) fun e w' => e = .returned (.agg #[.int .u64 (word x 0), .int .u64 (word x 1), .int .u64 (word x 2), .int .u64 (word x 3)]) ∧ Below (w.alloc (.cells #[.int .u64 (word s 0), .int .u64 (word s 1), .int .u64 (word s 2), .int .u64 (word s 3), .int .u64 (word t 0), .int .u64 (word t 1), .int .u64 (word t 2), .int .u64 (word t 3)] 24)).heap.size (w.alloc (.cells #[.int .u64 (word s 0), .int .u64 (word s 1), .int .u64 (word s 2), .int .u64 (word s 3), .int .u64 (word t 0), .int .u64 (word t 1), .int .u64 (word t 2), .int .u64 (word t 3)] 24)) w' := by
  refine (class_Or _ [s, t] _ (cls_new2 w s t)).mono ?_
  rintro e w' ⟨rfl, hb⟩
  rw [fold_or2, hx]
  exact ⟨rfl, hb⟩
theorem and2 (w : World) (s t x : Nat → Bool) (hx : clAnd s t = x) :
    Calls Tryd.prog 11 #[.slice (some ⟨w.heap.size, 0, none⟩) 2 2] (w.alloc (.cells #[.int .u64 (word s 0), .int .u64 (word s 1), .int .u64 (word s 2), .int .u64 (word s 3), .int .u64 (word t 0), .int .u64 (word t 1), .int .u64 (word t 2), .int .u64 (word t 3)] 24)) fun e w' => e = .returned (.agg #[.int .u64 (word x 0), .int .u64 (word x 1), .int .u64 (word x 2), .int .u64 (word x 3)]) ∧ Below (w.alloc (.cells #[.int .u64 (word s 0), .int .u64 (word s 1), .int .u64 (word s 2), .int .u64 (word s 3), .int .u64 (word t 0), .int .u64 (word t 1), .int .u64 (word t 2), .int .u64 (word t 3)] 24)).heap.size (w.alloc (.cells #[.int .u64 (word s 0), .int .u64 (word s 1), .int .u64 (word s 2), .int .u64 (word s 3), .int .u64 (word t 0), .int .u64 (word t 1), .int .u64 (word t 2), .int .u64 (word t 3)] 24)) w' := by
  refine (class_And _ [s, t] _ (cls_new2 w s t)).mono ?_
  rintro e w' ⟨rfl, hb⟩
  rw [fold_and2, hx]
  exact ⟨rfl, hb⟩
theorem or3 (w : World) (s t u x : Nat → Bool) (hx : clOr (clOr s t) u = x) :
    Calls Tryd.prog 9 #[.slice (some ⟨w.heap.size, 0, none⟩) 3 3] (w.alloc (.cells #[.int .u64 (word s 0), .int .u64 (word s 1), .int .u64 (word s 2), .int .u64 (word s 3), .int .u64 (word t 0), .int .u64 (word t 1), .int .u64 (word t 2), .int .u64 (word t 3), .int .u64 (word u 0), .int .u64 (word u 1), .int .u64 (word u 2), .int .u64 (word u 3)] 24)) fun e w' => e = .returned (.agg #[.int .u64 (word x 0), .int .u64 (word x 1), .int .u64 (word x 2), .int .u64 (word x 3)]) ∧ Below (w.alloc (.cells #[.int .u64 (word s 0), .int .u64 (word s 1), .int .u64 (word s 2), .int .u64 (word s 3), .int .u64 (word t 0), .int .u64 (word t 1), .int .u64 (word t 2), .int .u64 (word t 3), .int .u64 (word u 0), .int .u64 (word u 1), .int .u64 (word u 2), .int .u64 (word u 3)] 24)).heap.size (w.alloc (.cells #[.int .u64 (word s 0), .int .u64 (word s 1), .int .u64 (word s 2), .int .u64 (word s 3), .int .u64 (word t 0), .int .u64 (word t 1), .int .u64 (word t 2), .int .u64 (word t 3), .int .u64 (word u 0), .int .u64 (word u 1), .int .u64 (word u 2), .int .u64 (word u 3)] 24)) w' := by
  refine (class_Or _ [s, t, u] _ (cls_new3 w s t u)).mono ?_
  rintro e w' ⟨rfl, hb⟩
  rw [fold_or3, hx]
  exact ⟨rfl, hb⟩
theorem and3 (w : World) (s t u x : Nat → Bool) (hx : clAnd (clAnd s t) u = x) :
    Calls Tryd.prog 11 #[.slice (some ⟨w.heap.size, 0, none⟩) 3 3] (w.alloc (.cells #[.int .u64 (word s 0), .int .u64 (word s 1), .int .u64 (word s 2), .int .u64 (word s 3), .int .u64 (word t 0), .int .u64 (word t 1), .int .u64 (word t 2), .int .u64 (word t 3), .int .u64 (word u 0), .int .u64 (word u 1), .int .u64 (word u 2), .int .u64 (word u 3)] 24)) fun e w' => e = .returned (.agg #[.int .u64 (word x 0), .int .u64 (word x 1), .int .u64 (word x 2), .int .u64 (word x 3)]) ∧ Below (w.alloc (.cells #[.int .u64 (word s 0), .int .u64 (word s 1), .int .u64 (word s 2), .int .u64 (word s 3), .int .u64 (word t 0), .int .u64 (word t 1), .int .u64 (word t 2), .int .u64 (word t 3), .int .u64 (word u 0), .int .u64 (word u 1), .int .u64 (word u 2), .int .u64 (word u 3)] 24)).heap.size (w.alloc (.cells #[.int .u64 (word s 0), .int .u64 (word s 1), .int .u64 (word s 2), .int .u64 (word s 3), .int .u64 (word t 0), .int .u64 (word t 1), .int .u64 (word t 2), .int .u64 (word t 3), .int .u64 (word u 0), .int .u64 (word u 1), .int .u64 (word u 2), .int .u64 (word u 3)] 24)) w' := by
  refine (class_And _ [s, t, u] _ (cls_new3 w s t u)).mono ?_
  rintro e w' ⟨rfl, hb⟩
  rw [fold_and3, hx]
  exact ⟨rfl, hb⟩
theorem or_at (w : World) (v : Value) (l : List (Nat → Bool)) (x : Nat → Bool) (hx : clFold clNone l = x) (hv : ClsAt w v l) :
    Calls Tryd.prog 9 #[v] w fun e w' => e = .returned (.agg #[.int .u64 (word x 0), .int .u64 (word x 1), .int .u64 (word x 2), .int .u64 (word x 3)]) ∧ Below w.heap.size w w' := by
  rw [← hx]; exact class_Or w l v hv
theorem and_at (w : World) (v : Value) (l : List (Nat → Bool)) (x : Nat → Bool) (hx : clFoldA (clNot clNone) l = x) (hv : ClsAt w v l) :
    Calls Tryd.prog 11 #[v] w fun e w' => e = .returned (.agg #[.int .u64 (word x 0), .int .u64 (word x 1), .int .u64 (word x 2), .int .u64 (word x 3)]) ∧ Below w.heap.size w w' := by
  rw [← hx]; exact class_And w l v hv
theorem range_at (w : World) :
    Calls Tryd.prog 16 #[.int .u8 0, .int .u8 255] w fun e w' => e = .returned (.agg #[.int .u64 (word (clNot clNone) 0), .int .u64 (word (clNot clNone) 1), .int .u64 (word (clNot clNone) 2), .int .u64 (word (clNot clNone) 3)]) ∧ Below w.heap.size w w' := by
  refine (class_Range w 0 255).mono ?_
  rintro e w' ⟨rfl, hb⟩
  refine ⟨?_, hb⟩
  show Ending.returned (.agg (clc (clRange 0 255))) = _
  rw [clc_congr (s := clRange 0 255) (t := clNot clNone) fun b hb => by simp [clRange, clNot, clNone]; omega]
  rfl
theorem wpAnyH_listed {P : Program} {md : Region.Mode} {ops : Array Oper} {Q : Exit → Act → World → Prop} {S : World → Prop} {fuel : Nat} {listed L : Array Bool} {a : Act} {w : World} (h : listed = L)
    (H : wpAnyH P md ops Q S fuel L a w) : wpAnyH P md ops Q S fuel listed a w := by rw [h]; exact H
theorem cut_in {T G : Prop} (h : T → G) (t : T) : G := h t
theorem not1 (w : World) (s x : Nat → Bool) (hx : clNot s = x) :
    Calls Tryd.prog 7 #[.agg #[.int .u64 (word s 0), .int .u64 (word s 1), .int .u64 (word s 2), .int .u64 (word s 3)]] w fun e w' => e = .returned (.agg #[.int .u64 (word x 0), .int .u64 (word x 1), .int .u64 (word x 2), .int .u64 (word x 3)]) ∧ Below w.heap.size w w' := by
  rw [← hx]; exact class_Not w s
theorem len1 (w : World) (s : Nat → Bool) :
    Calls Tryd.prog 15 #[.agg #[.int .u64 (word s 0), .int .u64 (word s 1), .int .u64 (word s 2), .int .u64 (word s 3)]] w fun e w' => e = .returned (.int .i64 (cnt s 256)) ∧ Below w.heap.size w w' := class_Len w s
theorem eqa_same (s : Nat → Bool) (w : World) : (Op.equalIn 10000 24 (.agg #[.int .u64 (word s 0), .int .u64 (word s 1), .int .u64 (word s 2), .int .u64 (word s 3)]) (.agg #[.int .u64 (word s 0), .int .u64 (word s 1), .int .u64 (word s 2), .int .u64 (word s 3)])).run Tryd.prog w = .ok true w := by
  rw [eqc_10000]; simp

/-- the boxes: a, b, c, none, all. -/
structure Cx (w0 : World) (A B C N L : Nat) (a b c : Nat → Bool) (w : World) : Prop where
  pa : w.heap[A]? = some (.cells (clc a) 24 (0, 0))
  pb : w.heap[B]? = some (.cells (clc b) 24 (0, 0))
  pc : w.heap[C]? = some (.cells (clc c) 24 (0, 0))
  pn : w.heap[N]? = some (.cells (clc clNone) 24 (0, 0))
  pl : w.heap[L]? = some (.cells (clc (clNot clNone)) 24 (0, 0))
  bel : Below w0.heap.size w0 w
theorem Cx.later {w0 w w' : World} {A B C N L : Nat} {a b c : Nat → Bool} (h : Cx w0 A B C N L a b c w) (hb : Below w.heap.size w w') : Cx w0 A B C N L a b c w' :=
  ⟨(hb.block _ (lt_of_block h.pa)).trans h.pa, (hb.block _ (lt_of_block h.pb)).trans h.pb, (hb.block _ (lt_of_block h.pc)).trans h.pc, (hb.block _ (lt_of_block h.pn)).trans h.pn, (hb.block _ (lt_of_block h.pl)).trans h.pl, h.bel.trans (hb.mono h.bel.size)⟩
theorem Cx.alloc {w0 w : World} {A B C N L : Nat} {a b c : Nat → Bool} (h : Cx w0 A B C N L a b c w) (o : Obj) : Cx w0 A B C N L a b c (w.alloc o) := h.later ((Below.refl _ _).alloc (Nat.le_refl _) _)
theorem Cx.drew {w0 w : World} {A B C N L : Nat} {a b c : Nat → Bool} (h : Cx w0 A B C N L a b c w) : Cx w0 A B C N L a b c w.drew := h.later ⟨rfl, rfl, rfl, Nat.le_refl _, fun _ _ => rfl⟩

theorem not_not (a : Nat → Bool) : clNot (clNot a) = a := by funext i; simp [clNot]
theorem not_or (a b : Nat → Bool) : clAnd (clNot a) (clNot b) = clNot (clOr a b) := by funext i; simp [clNot, clAnd, clOr]
theorem and_not (a : Nat → Bool) : clAnd a (clNot a) = clNone := by funext i; simp [clNot, clAnd, clNone]
theorem or_not (a : Nat → Bool) : clOr a (clNot a) = clNot clNone := by funext i; simp [clNot, clOr, clNone]
theorem cnt_all : cnt (clNot clNone) 256 = 256 := by decide +kernel
theorem or_turn (a b c : Nat → Bool) : clOr (clOr c a) b = clOr (clOr a b) c := by funext i; simp [clOr, Bool.or_comm, Bool.or_left_comm]
theorem and_turn (a b c : Nat → Bool) : clAnd (clAnd c a) b = clAnd (clAnd a b) c := by funext i; simp [clAnd, Bool.and_comm, Bool.and_left_comm]
theorem and_dist (a b c : Nat → Bool) : clOr (clAnd a b) (clAnd a c) = clAnd a (clOr b c) := by funext i; simp [clAnd, clOr, Bool.and_or_distrib_left]
theorem cnt_two (a b : Nat → Bool) : ∀ n, cnt a n + cnt b n = cnt (clOr a b) n + cnt (clAnd a b) n
  | 0 => rfl
  | n + 1 => by
    have ih := cnt_two a b n
    simp only [cnt, clOr, clAnd] at ih ⊢
    cases a n <;> cases b n <;> simp <;> omega
theorem range_all : clc (clRange 0 255) = clc (clNot clNone) := clc_congr fun b hb => by simp [clRange, clNot, clNone]; omega
end Go.Proofs.YtchjlgmnfepedaaDoor
