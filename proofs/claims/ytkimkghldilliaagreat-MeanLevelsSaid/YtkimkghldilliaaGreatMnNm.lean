import Derived.Test.YtkimkghldilliaaGreatMnK
namespace Go.Proofs.YtkimkghldilliaaGreat
open Go.RowKit Go.Lib

theorem match_all {C : Cx} (hC : CxOk C) : ∀ f, MatchC C f
  | 0 => fun n p F st r st' w h hL hp hn hl he => by
    simp only [ev, Option.some.injEq, Prod.mk.injEq] at he
    obtain ⟨rfl, rfl⟩ := he
    exact match_over hC n p w h (.inr (by omega))
  | f + 1 => fun n p F st r st' w h hL hp hn hl he => by
    have ih := match_all hC f
    rw [ev] at he
    by_cases hs : st.over = true ∨ st.left = 0
    · rw [if_pos hs] at he
      simp only [Option.some.injEq, Prod.mk.injEq] at he
      obtain ⟨rfl, rfl⟩ := he
      exact match_over hC n p w h hs
    · rw [if_neg hs] at he
      obtain ⟨l, o⟩ := st
      simp only [not_or] at hs he
      obtain ⟨ho, hl0⟩ := hs
      have ho' : o = false := by cases o <;> simp_all
      subst ho'
      obtain ⟨l, rfl⟩ : ∃ k, l = k + 1 := ⟨l - 1, by omega⟩
      simp only [Nat.add_sub_cancel] at he
      cases hx : C.N[n]? with
      | none => rw [hx] at he; cases he
      | some x =>
      rw [hx] at he
      simp only at he
      have hxm : x ∈ C.N := (List.getElem?_eq_some_iff.1 hx).2 ▸ List.getElem_mem (List.getElem?_eq_some_iff.1 hx).1
      have hk := hC.gv.kind x hxm
      refine match_step hC hx ?_ w h hL hp (by simp only at hl; omega) he
      rcases (by omega : x.kind = 1 ∨ (x.kind = 2 ∨ x.kind = 3) ∨ x.kind = 4 ∨ x.kind = 5 ∨ x.kind = 6 ∨ x.kind = 7 ∨ x.kind = 8 ∨ x.kind = 9 ∨ x.kind = 10 ∨ (11 ≤ x.kind ∧ x.kind ≤ 12)) with e | e | e | e | e | e | e | e | e | e
      · exact way_empty hC hxm e ih
      · exact way_one hC hxm e
      · exact way_text hC hxm e ih
      · exact way_call hC hxm e ih (tryGrow_any hC ih)
      · exact way_seq hC hxm e ih
      · exact way_alt hC hxm e ih
      · exact way_star hC hxm e ih
      · exact way_plus hC hxm e ih
      · exact way_opt hC hxm e ih
      · exact way_look hC hxm e ih
theorem grow_all {C : Cx} (hC : CxOk C) (f : Nat) : GrowC C f := tryGrow_any hC (match_all hC f)
end Go.Proofs.YtkimkghldilliaaGreat
namespace Go.Proofs.YtkimkghldilliaaGreat
open Go.RowKit Go.Lib

theorem kidsAt_kid {n len : Nat} {T : List (Nat × Nat)} : ∀ (ks : List Int) (next high : Nat) (q : Nat × Nat), kidsAt n len T next high ks = some q → ∀ k ∈ ks, 0 ≤ k ∧ k.toNat < len
  | [], _, _, _, _ => fun k hk => by simp at hk
  | k :: ks, next, high, q, h => by
    unfold kidsAt at h
    split at h
    next hc =>
      intro k2 hk2
      rcases List.mem_cons.1 hk2 with rfl | hk2
      · have h1 := hc.1
        have h2 := hc.2
        omega
      · exact kidsAt_kid ks _ _ q h k2 hk2
    next => cases h
theorem treeAt_kid {len : Nat} : ∀ (N : List Nd) (n : Nat) (T : List (Nat × Nat)), treeAt len n N = some T → ∀ x ∈ N, ∀ k ∈ x.kids, 0 ≤ k ∧ k.toNat < len
  | [], _, _, _ => fun x hx => by simp at hx
  | x :: r, n, T, h => by
    unfold treeAt at h
    cases h1 : treeAt len (n + 1) r with
    | none => rw [h1] at h; simp at h
    | some T1 =>
      rw [h1] at h
      simp only at h
      cases h2 : kidsAt n len T1 (n + 1) 0 x.kids with
      | none => rw [h2] at h; simp at h
      | some q =>
        intro y hy
        rcases List.mem_cons.1 hy with rfl | hy
        · exact kidsAt_kid _ _ _ _ h2
        · exact treeAt_kid r (n + 1) T1 h1 y hy
theorem bodiesAt_body {R0 : List Ru} {T : List (Nat × Nat)} : ∀ (R : List Ru) (k next q : Nat), bodiesAt R0 T k next R = some q → ∀ r ∈ R, 0 ≤ r.body ∧ r.body.toNat < T.length
  | [], _, _, _, _ => fun r hr => by simp at hr
  | r :: rs, k, next, q, h => by
    unfold bodiesAt at h
    split at h
    next hc =>
      intro r2 hr2
      rcases List.mem_cons.1 hr2 with rfl | hr2
      · have h1 := hc.2.2.1
        have h2 := hc.2.2.2.1
        omega
      · exact bodiesAt_body rs _ _ q h r2 hr2
    next => cases h
theorem nodeOk_kind {n : Nat} {x : Nd} (h : nodeOk n x = true) : 1 ≤ x.kind ∧ x.kind ≤ 12 := by
  unfold nodeOk at h
  repeat' split at h
  all_goals first | omega | cases h
theorem nodeOk_one {n : Nat} {x : Nd} (h : nodeOk n x = true) (hk : 8 ≤ x.kind) : x.kids ≠ [] := by
  have h2 := nodeOk_kind h
  unfold nodeOk at h
  rw [if_neg (by omega), if_neg (by omega), if_neg (by omega), if_neg (by omega), if_neg (by omega), if_pos (by omega)] at h
  unfold ndOne at h
  intro e
  rw [e] at h
  simp at h
theorem nodeOk_text {n : Nat} {x : Nd} (h : nodeOk n x = true) (hk : x.kind = 4) : x.text.size ≤ 64 := by
  unfold nodeOk at h
  rw [if_neg (by omega), if_neg (by omega), if_pos (by omega)] at h
  unfold ndText at h
  simp only [Bool.and_eq_true, decide_eq_true_eq] at h
  exact h.1.2
theorem nodeOk_call {n : Nat} {x : Nd} (h : nodeOk n x = true) (hk : x.kind = 5) : 0 ≤ x.rule ∧ x.rule.toNat < n ∧ 0 ≤ x.level ∧ x.level ≤ 99 := by
  unfold nodeOk at h
  rw [if_neg (by omega), if_neg (by omega), if_neg (by omega), if_pos (by omega)] at h
  unfold ndCall at h
  simp only [Bool.and_eq_true, decide_eq_true_eq] at h
  obtain ⟨⟨⟨⟨h1, h2⟩, h3⟩, h4⟩, -⟩ := h
  exact ⟨h1, by omega, h3, h4⟩
/-- a right grammar is one that matching goes through. -/
theorem right_gv {R : List Ru} {N : List Nd} (h : grRight R N = true) : GrV R N := by
  unfold grRight at h
  simp only [Bool.and_eq_true, decide_eq_true_eq, List.all_eq_true] at h
  obtain ⟨⟨⟨⟨-, h2⟩, -⟩, h4⟩, h5⟩ := h
  cases hT : treeAt N.length 0 N with
  | none => rw [hT] at h5; cases h5
  | some T =>
    rw [hT] at h5
    simp only [beq_iff_eq] at h5
    have hl := treeAt_len _ _ _ _ hT
    exact ⟨h2, fun x hx => nodeOk_kind (h4 x hx), treeAt_kid N 0 T hT, fun x hx => nodeOk_one (h4 x hx), fun x hx => nodeOk_call (h4 x hx), fun x hx => nodeOk_text (h4 x hx), fun r hr => hl ▸ bodiesAt_body R 0 0 _ h5 r hr⟩
theorem right_len {R : List Ru} {N : List Nd} (h : grRight R N = true) : N.length ≤ 2048 := by
  unfold grRight at h
  simp only [Bool.and_eq_true, decide_eq_true_eq] at h
  exact h.1.1.2
set_option maxRecDepth 100000 in
set_option maxHeartbeats 2000000 in
theorem st_New {base : Nat} (w : World) (hb : base ≤ w.heap.size) :
    Calls Tryz.prog 24 #[] w fun e w' => e = .returned (.pointer (some ⟨w.heap.size + 1, 0, none⟩)) ∧ StIs base w' (w.heap.size + 1) w.heap.size (.slice none 0 0) [] ∧ Below w.heap.size w w' := by
  have HB := Lib.hid hb
  have hmm := @run_makeMap Tryz.prog
  clear hb
  go_enter Tryz.func24, Tryz.ntmps24
  go_wp2
  go_ret
  have HN := Lib.hid (two_new w (.map #[] 0) (.cells #[.slice none 0 0, .map (some w.heap.size)] 130 (0, 0)))
  obtain ⟨h1, h2, h3⟩ := HN.out
  refine ⟨rfl, ⟨h3, ?_, ⟨#[], 0, h2, rfl⟩, by simp, by simp, by simp, by have := HB.out; omega, HB.out, by simp⟩, h1⟩
  exact ⟨by simp, .inl ⟨rfl, by simp⟩⟩
end Go.Proofs.YtkimkghldilliaaGreat
