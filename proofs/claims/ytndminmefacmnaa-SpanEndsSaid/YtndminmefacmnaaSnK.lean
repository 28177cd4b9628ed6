/-
  slices.DeleteFunc at spans: those that are empty go.
-/
import Derived.Test.YtndminmefacmnaaSnJ
import Derived.Test.YtndminmefacmnaaSnF
namespace Go.Proofs.Ytndminmefacmnaa
open Go.RowKit Go.Lib

def empS (s : Sg) : Bool := s.fr == s.to
abbrev neS (s : Sg) : Bool := !empS s
abbrev empF : Value := .func (.func 36) #[] #[]
theorem emp_any (a b : Int) (w : World) : Calls Try.prog 36 #[.agg #[.int .i64 a, .int .i64 b]] w fun e w' => e = .returned (.bool (empS ⟨a, b⟩)) ∧ Below w.heap.size w w' := by
  go_enter Try.func36, Try.ntmps36
  go_wp2
  go_ret
  exact ⟨rfl, (one_new w _).1⟩
/-- where the first empty one stands. -/
def FirstE (l : List Sg) (n : Nat) (z : Int) : Prop := (z = -1 ∧ ∀ s ∈ l, empS s = false) ∨ ∃ i : Nat, i < n ∧ z = i ∧ (∀ (h : i < l.length), empS l[i] = true) ∧ ∀ s ∈ l.take i, empS s = false
set_option maxRecDepth 100000 in
set_option maxHeartbeats 2000000 in
theorem idx_any {B n : Nat} {v : Value} {l : List Sg} (w : World) (hn : n = l.length) (h : w.ownsRow B 53 2 v n (l.flatMap sgc)) (hl : n ≤ 1000000) :
    Calls Try.prog 47 #[v, empF] w fun e w' => ∃ z : Int, e = .returned (.int .i64 z) ∧ FirstE l n z ∧ Below w.heap.size w w' := by
  have H := Lib.hid h
  have HN := Lib.hid hn
  obtain ⟨ao, cap, rfl⟩ := own_val h
  clear h hn
  go_enter Try.func47, Try.ntmps47
  go_wp2
  go_loopw [8] (fun i wr => ∃ k : Nat, k ≤ n ∧ i = .int .i64 k ∧ Hid (∀ s ∈ l.take k, empS s = false) ∧ Hid (Below w.heap.size w wr)) (fun i _ => n - (intOf i).toNat)
  case atStart => exact ⟨0, by omega, rfl, Lib.hid (by simp), Lib.hid (Below.refl _ _)⟩
  case round =>
    obtain ⟨k, hk, rfl, HT, HB⟩ := hrel
    by_cases hlt : k < n
    · have hlt' : (k : Int) < n := by omega
      have hkL : k < l.length := by rw [← HN.out]; exact hlt
      have hr : wr.ownsRow B 53 2 (.slice ao n cap) n (l.flatMap sgc) := (Keeps.ofNew HB.out (fun _ => False)).row H.out (fun _ _ h => h)
      obtain ⟨g, rfl⟩ : ∃ g, ao = some ⟨g, 0, none⟩ := by
        obtain ⟨g, cap', e⟩ := own_shape2 hr (by omega)
        simp only [Value.slice.injEq] at e
        exact ⟨g, e.1⟩
      obtain ⟨c0, -⟩ := own_cellC sgc_len hr k hkL 0 (by omega)
      obtain ⟨c1, -⟩ := own_cellC sgc_len hr k hkL 1 (by omega)
      obtain ⟨⟨fr, tz⟩, hs⟩ : ∃ s, s = l[k] := ⟨_, rfl⟩
      rw [← hs] at c0 c1
      replace c0 : wr.cell? ⟨g, k * 2, none⟩ = some (.int .i64 fr) := c0
      replace c1 : wr.cell? ⟨g, k * 2 + 1, none⟩ = some (.int .i64 tz) := c1
      have HS := Lib.hid hs
      clear hr hs
      go_wp2_with fail
      refine (emp_any fr tz wr).mono ?_
      rintro e w2 ⟨rfl, hb⟩
      have HB2 := Lib.hid (HB.out.trans (hb.mono HB.out.size))
      clear hb c0 c1
      cases he : empS ⟨fr, tz⟩
      · have HT2 := Lib.hid (show ∀ s ∈ l.take (k + 1), empS s = false from fun s hss => by
          rw [List.take_succ_eq_append_getElem hkL] at hss
          rcases List.mem_append.1 hss with h | h
          · exact HT.out s h
          · rw [List.mem_singleton.1 h, ← HS.out]
            exact he)
        clear he
        go_wp2
        go_roundw
        case rel => exact ⟨k + 1, by omega, by go_num, HT2, HB2⟩
        case measure => simp [intOf]; omega
      · have HE := Lib.hid he
        clear he
        go_wp2
        go_ret
        exact ⟨_, rfl, .inr ⟨k, hlt, rfl, fun h => by rw [← HS.out]; exact HE.out, HT.out⟩, HB2.out⟩
    · have hlt' : ¬ (k : Int) < n := by omega
      have HTk := Lib.hid (show l.take k = l from List.take_of_length_le (by rw [← HN.out]; omega))
      go_wp2
      go_ret
      exact ⟨_, rfl, .inl ⟨rfl, by have := HT.out; rw [HTk.out] at this; exact this⟩, HB.out⟩
abbrev zSg : Value := .agg #[.int .i64 0, .int .i64 0]
theorem zSg_cells : zSg.cells = #[.int .i64 0, .int .i64 0] := rfl
theorem Try.zeroLine (w : World) : (zeroValue 53).run Try.prog w = .ok zSg w := by kernel_rfl
theorem zeros2_len (n : Nat) : (Builtin.zeroCells zSg.cells n).toList.length = n * 2 := by
  rw [zSg_cells]
  simp [Builtin.zeroCells]
theorem zeros2_one (n : Nat) : ∀ u ∈ (Builtin.zeroCells zSg.cells n).toList, u.oneCell' = true := by
  intro u hu
  rw [zSg_cells] at hu
  simp [Builtin.zeroCells] at hu
  obtain ⟨i, hi, rfl⟩ := hu
  have : i % 2 < 2 := Nat.mod_lt _ (by omega)
  rcases (show i % 2 = 0 ∨ i % 2 = 1 by omega) with h | h <;> simp [h] <;> rfl
theorem ne_succ {l : List Sg} {k : Nat} (h : k < l.length) : (l.take (k + 1)).filter neS = (l.take k).filter neS ++ if empS l[k] then [] else [l[k]] := by
  rw [List.take_succ_eq_append_getElem h, List.filter_append]
  congr 1
  cases hr : empS l[k] <;> simp [hr]
end Go.Proofs.Ytndminmefacmnaa
