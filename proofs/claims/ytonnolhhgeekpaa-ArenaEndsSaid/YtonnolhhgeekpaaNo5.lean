/-
  Chapter 05: of no arena.
-/
import Derived.Test.YtonnolhhgeekpaaAll
namespace Go.Proofs.Ytonnolhhgeekpaa
open Go.RowKit Go.Shelf
attribute [local go_sem] Oper.semAt_some

/-- no arena: nil, or one that was not made. -/
def NoA (w : World) (p : Option Addr) : Prop := p = none ∨ ∃ x, p = some ⟨x, 0, none⟩ ∧ w.heap[x]? = some (.cells #[.slice none 0 0, .int .i64 0, .int .i64 0, .bool false] 61 (0, 0))
theorem NoA.later {w w' : World} {p : Option Addr} (h : NoA w p) (hb : Below w.heap.size w w') : NoA w' p := by
  rcases h with h | ⟨x, h1, h2⟩
  · exact .inl h
  · exact .inr ⟨x, h1, (hb.block _ (lt_of_block h2)).trans h2⟩

set_option maxHeartbeats 400000 in
theorem noThere (w : World) (p : Option Addr) (h : NoA w p) : Calls Try.prog 35 #[.pointer p] w fun e w' => e = .returned (.bool false) ∧ w = w' := by
  rcases h with rfl | ⟨x, rfl, hx⟩
  · go_enter Try.func35, Try.ntmps35
    go_wp2
    go_ret
    exact ⟨rfl, rfl⟩
  · have h3 := (block_cell' hx 3).1
    clear hx
    go_enter Try.func35, Try.ntmps35
    go_wp2
    go_ret
    exact ⟨rfl, rfl⟩

set_option maxHeartbeats 400000 in
theorem noPut (w : World) (p : Option Addr) (v : Value) (h : NoA w p) : Calls Try.prog 9 #[.pointer p, v] w fun e w' => e = .returned (.tuple #[.int .i64 0, .int .i64 1]) ∧ w = w' := by
  have H := Lib.hid h
  clear h
  go_enter Try.func9, Try.ntmps9
  go_wp2_with (go_at_call 35; refine (noThere _ _ H.out).mono ?_; rintro e w' ⟨rfl, rfl⟩)
  go_ret2
  exact ⟨rfl, rfl⟩

set_option maxHeartbeats 400000 in
theorem noAt (w : World) (p : Option Addr) (k : Int) (h : NoA w p) : Calls Try.prog 16 #[.pointer p, .int .i64 k] w fun e w' => e = .returned (.tuple #[.int .i64 0, .bool false]) ∧ w = w' := by
  have H := Lib.hid h
  clear h
  go_enter Try.func16, Try.ntmps16
  go_wp2_with (go_at_call 35; refine (noThere _ _ H.out).mono ?_; rintro e w' ⟨rfl, rfl⟩)
  go_ret2
  exact ⟨rfl, rfl⟩

set_option maxHeartbeats 400000 in
theorem noSet (w : World) (p : Option Addr) (k y : Int) (h : NoA w p) : Calls Try.prog 22 #[.pointer p, .int .i64 k, .int .i64 y] w fun e w' => e = .returned (.int .i64 1) ∧ w = w' := by
  have H := Lib.hid h
  clear h
  go_enter Try.func22, Try.ntmps22
  go_wp2_with (go_at_call 35; refine (noThere _ _ H.out).mono ?_; rintro e w' ⟨rfl, rfl⟩)
  go_ret
  exact ⟨rfl, rfl⟩

set_option maxHeartbeats 400000 in
theorem noBack (w : World) (p : Option Addr) (k : Int) (h : NoA w p) : Calls Try.prog 14 #[.pointer p, .int .i64 k] w fun e w' => e = .returned (.int .i64 1) ∧ w = w' := by
  have H := Lib.hid h
  clear h
  go_enter Try.func14, Try.ntmps14
  go_wp2_with (go_at_call 35; refine (noThere _ _ H.out).mono ?_; rintro e w' ⟨rfl, rfl⟩)
  go_ret
  exact ⟨rfl, rfl⟩

set_option maxHeartbeats 400000 in
theorem noLen (w : World) (p : Option Addr) (h : NoA w p) : Calls Try.prog 12 #[.pointer p] w fun e w' => e = .returned (.int .i64 0) ∧ w = w' := by
  have H := Lib.hid h
  clear h
  go_enter Try.func12, Try.ntmps12
  go_wp2_with (go_at_call 35; refine (noThere _ _ H.out).mono ?_; rintro e w' ⟨rfl, rfl⟩)
  go_ret
  exact ⟨rfl, rfl⟩

set_option maxHeartbeats 400000 in
theorem noLeft (w : World) (p : Option Addr) (h : NoA w p) : Calls Try.prog 13 #[.pointer p] w fun e w' => e = .returned (.int .i64 0) ∧ w = w' := by
  have H := Lib.hid h
  clear h
  go_enter Try.func13, Try.ntmps13
  go_wp2_with (go_at_call 35; refine (noThere _ _ H.out).mono ?_; rintro e w' ⟨rfl, rfl⟩)
  go_ret
  exact ⟨rfl, rfl⟩

set_option maxHeartbeats 400000 in
theorem noMark (w : World) (p : Option Addr) (h : NoA w p) : Calls Try.prog 10 #[.pointer p] w fun e w' => e = .returned (.int .i64 0) ∧ w = w' := by
  have H := Lib.hid h
  clear h
  go_enter Try.func10, Try.ntmps10
  go_wp2_with (go_at_call 12; refine (noLen _ _ H.out).mono ?_; rintro e w' ⟨rfl, rfl⟩)
  go_ret
  exact ⟨rfl, rfl⟩

set_option maxHeartbeats 400000 in
theorem noPeak (w : World) (p : Option Addr) (h : NoA w p) : Calls Try.prog 15 #[.pointer p] w fun e w' => e = .returned (.int .i64 0) ∧ w = w' := by
  have H := Lib.hid h
  clear h
  go_enter Try.func15, Try.ntmps15
  go_wp2_with (go_at_call 35; refine (noThere _ _ H.out).mono ?_; rintro e w' ⟨rfl, rfl⟩)
  go_ret
  exact ⟨rfl, rfl⟩

set_option maxRecDepth 100000 in
set_option maxHeartbeats 2000000 in
theorem noAll1_in (n : Nat) (hn : 5 ≤ n) (l : Nat) (Ba : Nat) (p : Option Addr) (W : World) (hBa : W.heap[Ba]? = some (.cells #[.pointer p] 24 (0, 0))) (h : NoA W p) :
    CallsIn Fence.wide n Try.prog 40 #[.func (.yield l) #[] #[], .pointer (some ⟨Ba, 0, none⟩)] W fun e W' => (∃ v, e = .returned v) ∧ W' = W.alloc (.cells #[.func (.yield l) #[] #[]] 65) := by
  have hBal := lt_of_block hBa
  have hal : Below W.heap.size W (W.alloc (.cells #[.func (.yield l) #[] #[]] 65)) := (Below.refl _ _).alloc (Nat.le_refl _) _
  have hba1 := (Boxed.cell (t := 24) (v := .pointer p) ((hal.block _ hBal).trans hBa))
  have HT := Lib.hid (noThere _ p (h.later hal))
  have h1n : 1 ≤ n := by omega
  have h2n : 1 ≤ n - 1 := by omega
  clear h hBa hal
  refine callsIn_of_wp_marks Try.func40 rfl trivial ?_ rfl
  simp only [Try.ntmps40, List.size_toArray, List.length_cons, List.length_nil, Nat.reduceAdd, Nat.reduceSub, Array.replicate_succ, Array.replicate_zero, List.push_toArray, List.append_toArray, List.nil_append, List.cons_append]
  gi_wp2_with (refine ⟨trivial, ?_⟩; gi_at_call 35; refine (callsIn_wide.2 HT.out).mono ?_; rintro e w' ⟨rfl, rfl⟩)
  exact ⟨_, results_none rfl _ _ _, ⟨_, rfl⟩, rfl⟩
end Go.Proofs.Ytonnolhhgeekpaa
