/-
  Bytes: a clone, the same bytes, a part; what is written over.
-/
import Derived.Test.YtndminmefacmnaaBytes
import Derived.Test.YtndminmefacmnaaSnP
namespace Go.Proofs.Ytndminmefacmnaa
open Go.RowKit Go.Lib

set_option maxHeartbeats 400000 in
theorem bytes_clone (w : World) (v : Value) (l : List UInt8) (hv : BytesAt w v l) (hl : l.length ≤ 1000000) :
    Calls Try.prog 42 #[v] w fun e w' => ∃ v', e = .returned v' ∧ w'.ownsRow w.heap.size 5 1 v' l.length (bv l) ∧ Below w.heap.size w w' := by
  have HV := Lib.hid hv
  obtain ⟨ao, b, off, cap, rfl, hlc, hm, hnil, hao, hc⟩ := hv
  have qT : ∀ (w : World) (a : Option Addr) (n c n' c' : Nat), (binOp .eql 35 (.slice a n c) (.slice none n' c')).run Try.prog w = .ok (.bool a.isNone) w := fun w a n c n' c' => Lib.run_eql_slice_nil w _ _ a n c n' c' Try.underlying35
  obtain ⟨i0, hi, hz0, hz1, hz2⟩ := info_parts Try.info5
  cases ao with
  | none =>
    obtain ⟨h1, rfl⟩ := hnil rfl
    have hl0 : l = [] := List.eq_nil_of_length_eq_zero h1
    subst hl0
    clear hnil hao hc
    go_enter Try.func42, Try.ntmps42
    go_wp2
    go_ret
    exact ⟨_, rfl, World.ownsRow_nil _ _ _ _, Below.refl _ _⟩
  | some ad =>
    clear hnil
    go_enter Try.func42, Try.ntmps42
    have hbl : 0 < l.length → b < w.heap.size := fun h => World.block_lt_of_cell? _ _ (hc 0 h)
    have hc' := fun k (hk : k < l.length) => (World.cell?_alloc_old w (.cells #[] 5 (0, 0)) ⟨b, off + k, none⟩ (by have := hbl (by omega); simp; omega)).trans (hc k hk)
    have Hnew := Lib.hid (bytes_news (w := w.alloc (.cells #[] 5 (0, 0))) hao hc')
    have hown : (w.alloc (.cells #[] 5 (0, 0))).ownsRow w.heap.size 5 1 (.slice (some ⟨w.heap.size, 0, none⟩) 0 0) 0 [] := ⟨by simp, .inr ⟨w.heap.size, 0, #[], rfl, Nat.le_refl _, heap_alloc_new _ _, Nat.le_refl _, by unfold maxLen; omega, by simp, by simp⟩⟩
    have Hown := Lib.hid hown
    clear hc hc' hao hown
    go_wp2_with (at_builtin; refine wpList_append_own_any _ rfl _ _ 35 rfl w.heap.size 5 i0 (.int .u8 0) 1 1 Try.underlying35 hi hz0 hz1 hz2 rfl (by decide) _ 0 [] rfl Hown.out (some ad) l.length cap (bv l) rfl (by simp [bv]) (fun h => by cases h) Hnew.out (bv_oneCell l) (by unfold maxLen; omega) (by omega) (by simp) ?_; intro v' w1 hown1 hg1)
    go_ret
    refine ⟨_, rfl, by simpa using hown1, ((Below.refl w.heap.size w).alloc (Nat.le_refl _) _).grown hg1 (by simp) (fun k hk => by cases hk; exact Nat.le_refl _)⟩

theorem bv_len (t : List UInt8) : (bv t).length = t.length := by simp [bv]
theorem bytes_own {B : Nat} {w : World} {v : Value} {t : List UInt8} (h : w.ownsRow B 5 1 v t.length (bv t)) : BytesAt w v t := by
  rcases h.2 with ⟨rfl, h0⟩ | ⟨g, cap, cur, rfl, hb, hg, h1, h2, h3, ht⟩
  · exact ⟨none, 0, 0, 0, by rw [h0], by omega, by unfold maxLen; omega, fun _ => ⟨h0, rfl⟩, fun h => by omega, fun k hk => by omega⟩
  · refine ⟨some ⟨g, 0, none⟩, g, 0, cap, rfl, h1, h2, fun h => by simp at h, fun _ => rfl, fun k hk => ?_⟩
    rw [(block_cell' hg _).1, Nat.zero_add]
    have h4 : (cur.toList.take (t.length * 1))[k]? = (bv t)[k]? := by rw [ht]
    rw [List.getElem?_take_of_lt (by omega)] at h4
    rw [← Array.getElem?_toList, h4]
    simp [bv, hk]
theorem lent_bytes {w : World} {g : Nat} {t : List UInt8} (h : LentAt w g t) (hl : t.length ≤ 1000000) : BytesAt w (.slice (some ⟨g, 0, none⟩) t.length (t.length + 12)) t := by
  refine ⟨some ⟨g, 0, none⟩, g, 0, _, rfl, by omega, by unfold maxLen; omega, fun h => by simp at h, fun _ => rfl, fun k hk => ?_⟩
  rw [Nat.zero_add, h.cell k (by omega)]
  congr 4
  unfold bmk
  rw [List.getElem_append_left hk]
theorem bytes_nil (w : World) : BytesAt w (.slice none 0 0) [] := ⟨none, 0, 0, 0, rfl, Nat.le_refl _, by unfold maxLen; omega, fun _ => ⟨rfl, rfl⟩, fun h => by simp at h, fun k hk => by simp at hk⟩
theorem bytes_empty (w : World) (ao : Option Addr) (c : Nat) (hc : c ≤ maxLen) (h : ao = none → c = 0) : BytesAt w (.slice ao 0 c) [] := ⟨ao, 0, 0, c, rfl, Nat.zero_le _, hc, fun e => ⟨rfl, h e⟩, fun h => by simp at h, fun k hk => by simp at hk⟩
set_option maxHeartbeats 1000000 in
theorem sameBytes_any (v v' : Value) (t : List UInt8) (w : World) (h : BytesAt w v t) (h' : BytesAt w v' t) :
    Calls Try.prog 24 #[v, v'] w fun e w' => e = .returned (.bool true) ∧ Below w.heap.size w w' := by
  have H := Lib.hid h
  have H' := Lib.hid h'
  obtain ⟨ao, b, off, cap, rfl, h1, h2, -, -, -⟩ := h
  obtain ⟨ao', b', off', cap', rfl, h1', h2', -, -, -⟩ := h'
  obtain ⟨n, hn⟩ : ∃ n, n = t.length := ⟨_, rfl⟩
  have Hn := Lib.hid hn
  rw [← hn] at h1 h1' H H' ⊢
  have hn2 : n ≤ 9223372036854775807 := by unfold maxLen at h2; omega
  clear hn h2 h2'
  go_enter Try.func24, Try.ntmps24
  go_wp2
  go_loopw [5] (fun i wr => ∃ k : Nat, k ≤ n ∧ i = .int .i64 k ∧ Below w.heap.size w wr) (fun i _ => n - (intOf i).toNat)
  case atStart => exact ⟨0, by omega, rfl, Below.refl _ _⟩
  case round =>
    obtain ⟨k, hk, rfl, hbel⟩ := hrel
    by_cases hlt : k < n
    · have hlt' : (k : Int) < n := by omega
      obtain ⟨ao1, b1, off1, cap1, he1, -, -, -, hao1, hc1⟩ := H.out.later hbel
      obtain ⟨ao2, b2, off2, cap2, he2, -, -, -, hao2, hc2⟩ := H'.out.later hbel
      simp only [Value.slice.injEq] at he1 he2
      obtain ⟨rfl, -, rfl⟩ := he1
      obtain ⟨rfl, -, rfl⟩ := he2
      have hkt : k < t.length := by rw [← Hn.out]; exact hlt
      obtain rfl := hao1 (by omega)
      obtain rfl := hao2 (by omega)
      have e0 := hc1 k hkt
      have e1 := hc2 k hkt
      generalize t[k] = x at e0 e1
      clear hao1 hao2 hc1 hc2
      go_wp2_with fail
      go_quiet (fail)
      go_wp2
      go_roundw
      case rel => exact ⟨k + 1, by omega, by go_num, below_draws hbel _⟩
      case measure => simp [intOf]; omega
    · have hlt' : ¬ (k : Int) < n := by omega
      go_wp2
      go_ret
      exact ⟨rfl, hbel⟩
end Go.Proofs.Ytndminmefacmnaa
