/-
  The store: a pair that is not live is read; what is live, plainly.
-/
import Derived.Test.YtkimkghldilliaaGreatMnG
namespace Go.Proofs.YtkimkghldilliaaGreat
open Go.RowKit Go.Lib

set_option maxRecDepth 100000 in
set_option maxHeartbeats 2000000 in
theorem st_absent {base s m : Nat} {sv : Value} {F : Live} {p : Pr} (lev : Int) (w : World) (h : StIs base w s m sv F) (hm : ∀ x ∈ F, x.1 ≠ p) (hp : W64 p) :
    Calls Tryz.prog 158 #[.pointer (some ⟨s, 0, none⟩), .int .i64 p.1, .int .i64 p.2, .int .i64 lev] w fun e w' => e = .returned (.tuple #[.agg #[.int .i64 0, .int .i64 0, .slice none 0 0], .int .i64 1]) ∧ Below w.heap.size w w' := by
  have H := Lib.hid h
  have hwf : ∀ x ∈ (F.map fun x => (x.1, fdv x.2)), W64 x.1 := by
    intro x hx
    obtain ⟨y, hy, rfl⟩ := List.mem_map.1 hx
    exact h.wf y hy
  have hm2 : ∀ x ∈ (F.map fun x => (x.1, fdv x.2)), x.1 ≠ p := by
    intro x hx
    obtain ⟨y, hy, rfl⟩ := List.mem_map.1 hx
    exact hm y hy
  have hlk := fun (wq : World) (hq : StIs base wq s m sv F) => map_miss (w := wq) hq.map hwf hp hm2 true
  have Hlk := Lib.hid hlk
  clear h hwf hm2 hlk hm
  unfold pkv at Hlk
  simp only at Hlk
  go_enter Tryz.func158, Tryz.ntmps158
  go_upto_region 1 with (fail)
  refine gen_world (S := fun u => Below w.heap.size w u ∧ u.heap[w.heap.size]? = some (.cells #[.int .i64 0, .int .i64 0, .slice none 0 0] 136 (0, 0))) (one_new w _) (fun u hu => ?_)
  obtain ⟨hb, h1⟩ := hu
  have Hu := Lib.hid (H.out.later hb)
  obtain ⟨c0, c1, -, -⟩ := Hu.out.cells
  have hlk := Hlk.out u Hu.out
  obtain ⟨d0, d1, d2, e0, e1, e2⟩ := three_box h1
  have Hb := Lib.hid hb
  have H1 := Lib.hid h1
  obtain ⟨x, hx⟩ : ∃ x, x = w.heap.size := ⟨_, rfl⟩
  rw [← hx] at d0 d1 d2 e0 e1 e2 H1 ⊢
  have Hx := Lib.hid hx
  clear h1 hb hx H Hlk
  have ha := one_new u (.cells #[.bool false, .int .i64 0, .int .i64 0, .slice none 0 0] 177 (0, 0))
  have h2 := (ha.1.block _ (lt_of_block H1.out)).trans H1.out
  obtain ⟨k0, k1, k2, l0, l1, l2⟩ := three_box h2
  have H2 := Lib.hid h2
  have Ha := Lib.hid ha.1
  clear ha h2
  go_wp2_with (go_at_call 96; refine (st_made _ Hu.out).mono ?_; rintro e w' ⟨rfl, rfl⟩)
  have b1 := block_setCell' (k := 0) (u := .int .i64 0) H2.out
  have b2 := block_setCell' (k := 1) (u := .int .i64 0) b1
  have b3 := block_setCell' (k := 2) (u := .slice none 0 0) b2
  obtain ⟨q0, q1, q2, -, -, -⟩ := three_box (u := .int .i64 0) (v := .int .i64 0) (x := .slice none 0 0) b3
  have hb := (((Hb.out.trans (Ha.out.mono Hb.out.size)).setCell (p := ⟨x, 0, none⟩) (Nat.le_of_eq Hx.out.symm) (.int .i64 0)).setCell (p := ⟨x, 1, none⟩) (Nat.le_of_eq Hx.out.symm) (.int .i64 0)).setCell (p := ⟨x, 2, none⟩) (Nat.le_of_eq Hx.out.symm) (.slice none 0 0)
  exact bodyPost_ret (v := .tuple #[.agg #[.int .i64 0, .int .i64 0, .slice none 0 0], .int .i64 1]) (by simp [results, Tryz.f158, go_sem, q0, q1, q2]) rfl ⟨rfl, hb⟩
/-! ## what is live -/
theorem lookup_some {F : Live} {k : Pr} {o : Option Sd} (h : (lvF F).lookup k = some o) : ∃ fd, (k, fd) ∈ F ∧ sdOf fd = o := by
  have := lookup_mem h
  unfold lvF at this
  obtain ⟨⟨k', fd⟩, hm, he⟩ := List.mem_map.1 this
  simp only [Prod.mk.injEq] at he
  obtain ⟨rfl, rfl⟩ := he
  exact ⟨fd, hm, rfl⟩
theorem lookup_none {F : Live} {k : Pr} (h : (lvF F).lookup k = none) : ∀ x ∈ F, x.1 ≠ k := by
  intro x hx e
  rw [List.lookup_eq_none_iff] at h
  have := h (x.1, sdOf x.2) (List.mem_map.2 ⟨x, hx, rfl⟩)
  simp [e] at this
theorem lv_snoc (F : Live) (k : Pr) (fd : Fd) : lvF (F ++ [(k, fd)]) = lvF F ++ [(k, sdOf fd)] := by simp [lvF]
theorem LiveOk.push {C : Cx} {F : Live} (h : LiveOk C F) {r : Int} {p : Nat} (hr : 0 ≤ r ∧ r < 32) (hp : p ≤ C.W.length) {fd : Fd} (ho : ∀ sd, sdOf fd = some sd → SdOk C.W p sd) (hn : fd.is = true → fd.en = (fd.en.toNat : Int)) (ht : fd.tree.length ≤ 1000000) : LiveOk C (F ++ [((r, (p : Int)), fd)]) := by
  refine ⟨by rw [lv_snoc]; exact h.ok.push hr hp ho, fun x hx => ?_, fun x hx => ?_⟩
  rcases List.mem_append.1 hx with hx | hx
  · exact h.num x hx
  · simp only [List.mem_singleton] at hx
    subst hx
    exact hn
  rcases List.mem_append.1 hx with hx | hx
  · exact h.short x hx
  · simp only [List.mem_singleton] at hx
    subst hx
    exact ht
/-- there are not so many pairs. -/
theorem List.nodup_box_erase (l : List Nat) (n : Nat) (h : l.Nodup) (hm : n ∈ l) : (l.erase n).Nodup ∧ n ∉ l.erase n := ⟨h.erase n, h.not_mem_erase⟩
theorem nodup_box : ∀ (n : Nat) (l : List Nat), l.Nodup → (∀ x ∈ l, x < n) → l.length ≤ n
  | 0, l, h, hb => by
    cases l with
    | nil => simp
    | cons a l => exact absurd (hb a (by simp)) (by omega)
  | n + 1, l, h, hb => by
    by_cases hm : n ∈ l
    · have h1 := (List.nodup_box_erase l n h hm)
      have h2 := nodup_box n (l.erase n) h1.1 (fun x hx => by
        have h3 := hb x (List.mem_of_mem_erase hx)
        have h4 : x ≠ n := fun e => by subst e; exact h1.2 hx
        omega)
      rw [List.length_erase_of_mem hm] at h2
      omega
    · have := nodup_box n l h (fun x hx => by
        have h3 := hb x hx
        have h4 : x ≠ n := fun e => by subst e; exact hm hx
        omega)
      omega
theorem few_pairs {C : Cx} (hC : CxOk C) {F : Live} (h : LiveOk C F) (ha : F.Pairwise fun a b => a.1 ≠ b.1) : F.length < 100000 := by
  have hk : ∀ x ∈ F, 0 ≤ x.1.1 ∧ x.1.1 < 32 ∧ 0 ≤ x.1.2 ∧ x.1.2 ≤ C.W.length := fun x hx => by
    have := h.ok (x.1, sdOf x.2) (List.mem_map.2 ⟨x, hx, rfl⟩)
    exact ⟨this.1, this.2.1, this.2.2.1, this.2.2.2.1⟩
  have hW := hC.hW
  have h2 : (F.map fun x => x.1.1.toNat * 2049 + x.1.2.toNat).Nodup := by
    unfold List.Nodup
    rw [List.pairwise_map]
    refine List.Pairwise.imp_of_mem ?_ ha
    intro a b hma hmb hab he
    obtain ⟨a1, a2, a3, a4⟩ := hk a hma
    obtain ⟨b1, b2, b3, b4⟩ := hk b hmb
    refine hab (Prod.ext ?_ ?_) <;> omega
  have h3 := nodup_box 65568 _ h2 (fun x hx => by
    obtain ⟨y, hy, rfl⟩ := List.mem_map.1 hx
    obtain ⟨a1, a2, a3, a4⟩ := hk y hy
    omega)
  rw [List.length_map] at h3
  omega
end Go.Proofs.YtkimkghldilliaaGreat
