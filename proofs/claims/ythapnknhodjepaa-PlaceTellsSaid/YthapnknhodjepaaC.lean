/-
  Place: New.
-/
import Derived.Test.YthapnknhodjepaaP
import Derived.Deep.QuietTactic
import Derived.BigQuiet
namespace Go.Proofs.Ythapnknhodjepaa
open Go.RowKit
theorem Try.info3 : (Try.prog.info? 3).map (fun i => (i.zero, i.size, i.bytes)) = some (some (.int .i64 0), 1, 8) := by kernel_rfl

def vals (L : List Nat) : List Value := L.map fun n : Nat => Value.int .i64 (n : Int)

theorem nls_hit (t : List UInt8) (k : Nat) (c : UInt8) (hk : k < t.length) (hc : c = t[k]) (h : (c.toNat : Int) = 10) : nls t (k + 1) = nls t k ++ [k + 1] := by
  have : c = 10 := by apply UInt8.toNat.inj; simp; omega
  simp [nls, List.getElem?_eq_getElem hk, ← hc, this]
theorem nls_miss (t : List UInt8) (k : Nat) (c : UInt8) (hk : k < t.length) (hc : c = t[k]) (h : ¬ (c.toNat : Int) = 10) : nls t (k + 1) = nls t k := by
  have : c ≠ 10 := by rintro rfl; simp at h
  simp [nls, List.getElem?_eq_getElem hk, ← hc, this]
/-- an index whose blocks all lie from B on. -/
def IdxFrom (B : Nat) (w : World) (x : Nat) (L : List Nat) (n : Nat) : Prop :=
  B ≤ x ∧ ∃ bb cap, B ≤ bb ∧ w.cell? ⟨x, 0, none⟩ = some (.slice (some ⟨bb, 0, none⟩) L.length cap) ∧ w.cell? ⟨x, 1, none⟩ = some (.int .i64 n) ∧ 0 < L.length ∧ L.length ≤ 1000001 ∧ ∀ k (h : k < L.length), w.cell? ⟨bb, k, none⟩ = some (.int .i64 L[k])
theorem IdxFrom.at {B : Nat} {w : World} {x : Nat} {L : List Nat} {n : Nat} (h : IdxFrom B w x L n) : IdxAt w x L n := by
  obtain ⟨_, bb, cap, _, h0, h1, hp, hl, hc⟩ := h
  exact ⟨bb, cap, h0, h1, hp, hl, hc⟩
theorem IdxFrom.later {B : Nat} {w w' : World} {x : Nat} {L : List Nat} {n : Nat} (h : IdxFrom B w x L n) (hb : Below w.heap.size w w') : IdxFrom B w' x L n := by
  obtain ⟨hx, bb, cap, hbb, h0, h1, hp, hl, hc⟩ := h
  exact ⟨hx, bb, cap, hbb, cell_later hb h0, cell_later hb h1, hp, hl, fun k hk => cell_later hb (hc k hk)⟩
theorem IdxFrom.grown {B g : Nat} {w w' : World} {x : Nat} {L : List Nat} {n : Nat} (h : IdxFrom B w x L n) (hg : w.grownBy w' (some g)) (hgB : g < B) : IdxFrom B w' x L n := by
  obtain ⟨hx, bb, cap, hbb, h0, h1, hp, hl, hc⟩ := h
  exact ⟨hx, bb, cap, hbb, hg.cell h0 (by simp; omega), hg.cell h1 (by simp; omega), hp, hl, fun k hk => hg.cell (hc k hk) (by simp; omega)⟩
theorem idx_of {w : World} {base x n : Nat} {v : Value} {L : List Nat} (hx : base ≤ x) (hown : w.ownsRow base 3 1 v L.length (vals L)) (hbox : w.heap[x]? = some (.cells #[v, .int .i64 n] 42 (0, 0))) (hL : 0 < L.length) (hL2 : L.length ≤ 1000001) : IdxFrom base w x L n := by
  obtain ⟨g, cap, rfl⟩ := own_shape hown hL
  have hb := box_cells hbox
  refine ⟨hx, g, cap, (hown.lt g rfl).1, hb.1, hb.2.1, hL, hL2, fun k hk => ?_⟩
  rw [hown.cellAt k (by omega)]
  simp [vals, hk]
theorem start_own (w : World) (v : Value) (t : List UInt8) : ((w.alloc (Obj.cells #[Value.int .i64 0] 3)).alloc (Obj.cells #[.slice (some ⟨w.heap.size, 0, none⟩) 1 1, v] 42)).ownsRow w.heap.size 3 1 (.slice (some ⟨w.heap.size, 0, none⟩) 1 1) (nls t 0).length (vals (nls t 0)) := by
  refine World.ownsRow.alloc ?_ _
  exact World.ownsRow_lit w #[Value.int .i64 0] 1 (Nat.le_refl _) (by unfold maxLen; omega) rfl
theorem start_box (w : World) (v : Value) : ((w.alloc (Obj.cells #[Value.int .i64 0] 3)).alloc (Obj.cells #[.slice (some ⟨w.heap.size, 0, none⟩) 1 1, v] 42)).heap[w.heap.size + 1]? = some (.cells #[.slice (some ⟨w.heap.size, 0, none⟩) 1 1, v] 42 (0, 0)) := by
  have := heap_alloc_new (w.alloc (Obj.cells #[Value.int .i64 0] 3)) (Obj.cells #[.slice (some ⟨w.heap.size, 0, none⟩) 1 1, v] 42)
  simpa using this
set_option maxHeartbeats 800000 in
theorem new_from (v : Value) (t : List UInt8) (w : World) (ht : BytesAt w v t) (hl : t.length ≤ 1000000) :
    Calls Try.prog 8 #[v] w fun e w' => ∃ x, e = .returned (.pointer (some ⟨x, 0, none⟩)) ∧ w.heap.size ≤ x ∧ IdxFrom w.heap.size w' x (nls t t.length) t.length ∧ Below w.heap.size w w' := by
  obtain ⟨ao, b, off, cap, rfl, hlc, hm, _, hao, hc⟩ := ht
  have Hc := Lib.hid hc
  clear hc
  obtain ⟨n, hn⟩ : ∃ n, n = t.length := ⟨_, rfl⟩
  have Hn := Lib.hid hn
  rw [← hn] at hl hlc hao ⊢
  have Hao := Lib.hid hao
  clear hao
  clear hn
  obtain ⟨i0, hi, hz0, hz1, hz2⟩ := info_parts Try.info3
  go_enter Try.func8, Try.ntmps8
  go_wp2
  go_loopw [14] (fun i wr => ∃ (k : Nat) (v' : Value), k ≤ n ∧ i = .int .i64 k ∧ wr.ownsRow w.heap.size 3 1 v' (nls t k).length (vals (nls t k)) ∧ wr.heap[w.heap.size + 1]? = some (.cells #[v', .int .i64 n] 42 (0, 0)) ∧ Below w.heap.size w wr) (fun i _ => n - (intOf i).toNat)
  case atStart => exact ⟨0, _, Nat.zero_le _, rfl, start_own w _ _, start_box w _, ((Below.refl _ _).alloc (Nat.le_refl _) _).alloc (by simp) _⟩
  case round =>
    obtain ⟨k, v', hk, rfl, hown, hbox, hbel⟩ := hrel
    have hlen := nls_len t k
    by_cases hlt : k < n
    · obtain rfl := Hao.out (by omega)
      have hcell := Hc.out k (by rw [← Hn.out]; exact hlt)
      have hcr := (hbel.cell (World.block_lt_of_cell? _ _ hcell)).trans hcell
      clear hcell
      obtain ⟨c, hc⟩ : ∃ c, c = t[k]'(by rw [← Hn.out]; exact hlt) := ⟨_, rfl⟩
      rw [← hc] at hcr
      have Hcc := Lib.hid hc
      clear hc
      by_cases h10 : (c.toNat : Int) = 10
      · have h10' : ((c.toNat : Int) == 10) = true := by simpa using h10
        have H10 := Lib.hid h10
        clear h10
        have hb0 := (box_cells hbox).1
        have hbs := hbel.size
        have hbl := lt_of_block hbox
        go_wp2_with (at_builtin; refine wpList_append_own _ rfl _ _ 38 rfl w.heap.size 3 i0 (.int .i64 0) 1 8 Try.underlying38 hi hz0 hz1 hz2 rfl (by decide) _ _ _ rfl (hown.alloc _) ⟨wr.heap.size, 0, none⟩ 1 1 [.int .i64 (k + 1)] rfl rfl (cell_one_new _ _ _) (by intro u hu; simp at hu; subst hu; rfl) (by unfold maxLen; omega) (by omega) (by simp; omega) ?_; intro v2 w1 hown1 hgrow _; obtain ⟨g2, cap2, rfl⟩ := own_shape hown1 (by omega); have hbox1 := block_grown hbox (by decide) hown hgrow; have hb1 := box_cells hbox1; have hb1a := hb1.1; have hb1b := hb1.2.2.1; have hbel1 := (hbel.alloc (by omega) (Obj.cells #[.int .i64 (k + 1)] 3)).grown hgrow (by simp; omega) (fun k hk => (hown.lt k hk).1); clear hcr hown hbox hb0 hb1 hgrow)
        go_roundw
        case rel =>
          have hh := nls_hit t k c (by rw [← Hn.out]; exact hlt) Hcc.out H10.out
          refine ⟨k + 1, _, by omega, by go_num, ?_, box_store hbox1, hbel1.setCell (by simp) _⟩
          rw [hh]
          have := ownsRow_setCell_other hown1 (a := ⟨w.heap.size + 1, 0, none⟩) (own_ne' hbox1 (by decide) hown1) (.slice (some ⟨g2, 0, none⟩) ((nls t k).length + 1) cap2)
          simpa [vals] using this
        case measure => simp [intOf]; omega
      · have h10' : ((c.toNat : Int) == 10) = false := by simpa using h10
        have H10 := Lib.hid h10
        clear h10
        go_wp2
        go_roundw
        case rel =>
          have hh := nls_miss t k c (by rw [← Hn.out]; exact hlt) Hcc.out H10.out
          refine ⟨k + 1, v', by omega, by go_num, ?_, hbox, hbel⟩
          rw [hh]; exact hown
        case measure => simp [intOf]; omega
    · go_wp2
      go_ret
      obtain rfl : k = n := by omega
      exact ⟨_, rfl, by omega, idx_of (by omega) hown hbox (by omega) (by omega), hbel⟩
theorem new_any (v : Value) (t : List UInt8) (w : World) (ht : BytesAt w v t) (hl : t.length ≤ 1000000) :
    Calls Try.prog 8 #[v] w fun e w' => ∃ x, e = .returned (.pointer (some ⟨x, 0, none⟩)) ∧ w.heap.size ≤ x ∧ IdxAt w' x (nls t t.length) t.length ∧ Below w.heap.size w w' :=
  (new_from v t w ht hl).mono fun _ _ ⟨x, he, hx, hi, hb⟩ => ⟨x, he, hx, hi.at, hb⟩

end Go.Proofs.Ythapnknhodjepaa
