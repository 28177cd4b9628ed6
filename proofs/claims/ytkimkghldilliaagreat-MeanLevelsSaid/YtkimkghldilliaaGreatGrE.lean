/-
  gram: whether a node is right.
-/
import Derived.Test.YtkimkghldilliaaGreatGrD
import Derived.Deep.RegionHeld3
namespace Go.Proofs.YtkimkghldilliaaGreat
open Go.RowKit Go.Lib Go.Maps

theorem equalIn_closure {P : Program} (w : World) (d : Nat) (t : TypeId) (x : Fn) (b fr : Array Value) {ps rs : Array TypeId} {v : Bool} (h : P.underlying t = some (.func ps rs v)) : (Op.equalIn (d + 1) t (.func x b fr) .nilFunc).run P w = .ok false w := by
  simp [Op.equalIn, run_underlying h]
theorem equalIn_nilFunc {P : Program} (w : World) (d : Nat) (t : TypeId) {ps rs : Array TypeId} {v : Bool} (h : P.underlying t = some (.func ps rs v)) : (Op.equalIn (d + 1) t .nilFunc .nilFunc).run P w = .ok true w := by
  simp [Op.equalIn, run_underlying h]
theorem run_neq_closure {P : Program} (w : World) (t : TypeId) (x : Fn) (b fr : Array Value) (h : ∃ ps rs v, P.underlying t = some (.func ps rs v)) : (binOp .neq t (.func x b fr) .nilFunc).run P w = .ok (.bool true) w := by
  obtain ⟨ps, rs, v, h⟩ := h
  simp only [binOp]
  simp [Op.equal, Op.maxDepth, equalIn_closure w 9999 t x b fr h]
theorem run_neq_nilFunc {P : Program} (w : World) (t : TypeId) (h : ∃ ps rs v, P.underlying t = some (.func ps rs v)) : (binOp .neq t .nilFunc .nilFunc).run P w = .ok (.bool false) w := by
  obtain ⟨ps, rs, v, h⟩ := h
  simp only [binOp]
  simp [Op.equal, Op.maxDepth, equalIn_nilFunc w 9999 t h]
def isFn : Option TypeDesc → Bool
  | some (.func _ _ _) => true
  | _ => false
theorem isFn_of {o : Option TypeDesc} (h : isFn o = true) : ∃ ps rs v, o = some (.func ps rs v) := by
  unfold isFn at h
  split at h
  · exact ⟨_, _, _, rfl⟩
  · simp at h
theorem shapeFn : ∃ ps rs v, Tryz.prog.underlying 211 = some (.func ps rs v) := isFn_of (by kernel_rfl)
def ndv (x : Nd) : Value := .agg #[.int .i64 x.kind, .int .u64 x.c0, .int .u64 x.c1, .int .u64 x.c2, .int .u64 x.c3, .string x.text, .int .i64 x.rule, .int .i64 x.level, x.kv]
theorem nine_box {w : World} {b : Nat} {x0 x1 x2 x3 x4 x5 x6 x7 x8 : Value} {t : TypeId} (h : w.heap[b]? = some (.cells #[x0, x1, x2, x3, x4, x5, x6, x7, x8] t (0, 0))) : w.cell? ⟨b, 0, none⟩ = some x0 ∧ w.cell? ⟨b, 1, none⟩ = some x1 ∧ w.cell? ⟨b, 2, none⟩ = some x2 ∧ w.cell? ⟨b, 3, none⟩ = some x3 ∧ w.cell? ⟨b, 4, none⟩ = some x4 ∧ w.cell? ⟨b, 5, none⟩ = some x5 ∧ w.cell? ⟨b, 6, none⟩ = some x6 ∧ w.cell? ⟨b, 7, none⟩ = some x7 ∧ w.cell? ⟨b, 8, none⟩ = some x8 :=
  ⟨(block_cell' h 0).1, (block_cell' h 1).1, (block_cell' h 2).1, (block_cell' h 3).1, (block_cell' h 4).1, (block_cell' h 5).1, (block_cell' h 6).1, (block_cell' h 7).1, (block_cell' h 8).1⟩
theorem want_cases (x : Nd) (r : Nat) : (wantF x.kind = none ∧ nodeOk r x = false) ∨ (wantF x.kind = some 149 ∧ nodeOk r x = ndBare x) ∨ (wantF x.kind = some 150 ∧ nodeOk r x = ndSet x) ∨ (wantF x.kind = some 151 ∧ nodeOk r x = ndText x) ∨ (wantF x.kind = some 152 ∧ nodeOk r x = ndCall r x) ∨ (wantF x.kind = some 153 ∧ nodeOk r x = ndMany x) ∨ (wantF x.kind = some 154 ∧ nodeOk r x = ndOne x) := by
  unfold wantF nodeOk
  by_cases h1 : x.kind = 1 ∨ x.kind = 2
  · simp [h1]
  by_cases h3 : x.kind = 3
  · simp [h3]
  by_cases h4 : x.kind = 4
  · simp [h4]
  by_cases h5 : x.kind = 5
  · simp [h5]
  by_cases h6 : x.kind = 6 ∨ x.kind = 7
  · simp only [if_neg h1, if_neg h3, if_neg h4, if_neg h5, if_pos h6]; simp
  by_cases h8 : 8 ≤ x.kind ∧ x.kind ≤ 12
  · simp only [if_neg h1, if_neg h3, if_neg h4, if_neg h5, if_neg h6, if_pos h8]; simp
  · simp only [if_neg h1, if_neg h3, if_neg h4, if_neg h5, if_neg h6, if_neg h8]; simp

set_option maxRecDepth 100000 in
set_option maxHeartbeats 2000000 in
theorem node_none (x : Nd) (r : Nat) (w : World) (hx : NdV x) (hk : WI x.kind) (hf : wantF x.kind = none) : Calls Tryz.prog 92 #[ndv x, .int .i64 r] w fun e w' => e = .returned (.bool (false)) ∧ Below w.heap.size w w' := by
  have HLk := Lib.hid (show ∀ (z : World) (m : Nat), MapV kindK z m 12 (fun k => (wantF k).map fnv) → (Instr.lookup 212 (.map (some m)) (.int .i64 x.kind) false).run Tryz.prog z = .ok (((wantF x.kind).map fnv).getD .nilFunc) z from fun z m h => h.look Tryz.underlying212 (z := .nilFunc) (by kernel_rfl) (x := x.kind) hk false)
  rw [hf] at HLk
  simp only [Option.map_some, Option.map_none, Option.getD_some, Option.getD_none] at HLk
  obtain ⟨ao, cap, hv⟩ := hx.kv
  have hsm := hx.few
  obtain ⟨kind, c0, c1, c2, c3, text, rule, level, kids, kv⟩ := x
  simp only at hv hsm HLk
  subst hv
  unfold ndv
  simp only
  clear hx hf hk
  obtain ⟨n, hn⟩ : ∃ n, n = kids.length := ⟨_, rfl⟩
  rw [← hn] at hsm ⊢
  skip
  clear hn
  have qF : ∀ (w : World) (x : Fn) (b fr : Array Value), (binOp .neq 211 (.func x b fr) .nilFunc).run Tryz.prog w = .ok (.bool true) w := fun w x b fr => run_neq_closure w _ x b fr shapeFn
  have qN : ∀ (w : World), (binOp .neq 211 .nilFunc .nilFunc).run Tryz.prog w = .ok (.bool false) w := fun w => run_neq_nilFunc w _ shapeFn
  go_enter Tryz.func92, Tryz.ntmps92
  go_upto_region 1 with (fail)
  refine gen_world (S := fun u => Below w.heap.size w u ∧ u.heap[w.heap.size]? = some (.cells #[.int .i64 kind, .int .u64 c0, .int .u64 c1, .int .u64 c2, .int .u64 c3, .string text, .int .i64 rule, .int .i64 level, .slice ao n cap] 60 (0, 0))) (one_new w _) (fun u hu => ?_)
  obtain ⟨hb, h1⟩ := hu
  have HB := Lib.hid hb
  have H1 := Lib.hid h1
  obtain ⟨X, hX⟩ : ∃ X, X = w.heap.size := ⟨_, rfl⟩
  rw [← hX] at H1 ⊢
  have HX := Lib.hid hX
  clear hb h1 hX
  refine wp_region_held_drew (S := fun z => Below u.heap.size u z) (by kernel_rfl) (Below.refl u.heap.size u).drew (fun hS => ?_)
  refine wpAnyH_take (i := 1) (oi := ⟨_, _, _, _, _, _⟩) (v := ?v1) rfl (by kernel_rfl) (by kernel_rfl) (by kernel_rfl) (fun _ _ _ h => h) ?y1 hS ?_
  case y1 => first | (refine Or.inr ⟨by rfl, ?_⟩; with_reducible rfl) | (refine Or.inl ⟨by rfl, ?_⟩; intro wS hSw; obtain ⟨v0, v1, v2, v3, v4, v5, v6, v7, v8⟩ := nine_box ((hSw.block _ (lt_of_block H1.out)).trans H1.out); go_simp; try with_reducible rfl)
  simp only [Act.put, List.setIfInBounds_toArray, List.set_cons_zero, List.set_cons_succ]
  refine wpAnyH_take (i := 2) (oi := ⟨_, _, _, _, _, _⟩) (v := ?v2) rfl (by kernel_rfl) (by kernel_rfl) (by kernel_rfl) (fun _ _ _ h => h) ?y2 hS ?_
  case y2 => first | (refine Or.inr ⟨by rfl, ?_⟩; with_reducible rfl) | (refine Or.inl ⟨by rfl, ?_⟩; intro wS hSw; obtain ⟨v0, v1, v2, v3, v4, v5, v6, v7, v8⟩ := nine_box ((hSw.block _ (lt_of_block H1.out)).trans H1.out); go_simp; try with_reducible rfl)
  simp only [Act.put, List.setIfInBounds_toArray, List.set_cons_zero, List.set_cons_succ]
  refine wpAnyH_ready (rs := [0]) (by kernel_rfl) (by simp) ?_
  refine AllReadyH.cons (o := ⟨_, _, _, _, _, _⟩) rfl (fun K hK => ?_) AllReadyH.nil
  go_simp
  refine (wants_any _).mono ?_
  rintro e z ⟨⟨m, rfl, hm⟩, hb⟩
  have hl := HLk.out z m hm
  clear hm
  go_wp2_with fail
  refine hK.out _ _ (hS.trans (hb.mono hS.size)) (fun hS2 => ?_)
  have HS := Lib.hid (hS.trans (hb.mono hS.size))
  clear hK K hS hb
  try simp only [Act.put, List.setIfInBounds_toArray, List.set_cons_zero, List.set_cons_succ]
  refine wpAnyH_ready (rs := [3]) (by kernel_rfl) (by simp) ?_
  refine AllReadyH.cons (o := ⟨_, _, _, _, _, _⟩) rfl (fun K hK => ?_) AllReadyH.nil
  go_simp
  refine hK.out _ _ HS.out (fun hS3 => ?_)
  clear hK K hS2 hl
  try simp only [Act.put, List.setIfInBounds_toArray, List.set_cons_zero, List.set_cons_succ]
  have hS := HS.out
  refine wpAnyH_take (i := 4) (oi := ⟨_, _, _, _, _, _⟩) (v := ?v3) rfl (by kernel_rfl) (by kernel_rfl) (by kernel_rfl) (fun _ _ _ h => h) ?y3 hS ?_
  case y3 => first | (refine Or.inr ⟨by rfl, ?_⟩; with_reducible rfl) | (refine Or.inl ⟨by rfl, ?_⟩; intro wS hSw; obtain ⟨v0, v1, v2, v3, v4, v5, v6, v7, v8⟩ := nine_box ((hSw.block _ (lt_of_block H1.out)).trans H1.out); go_simp; try with_reducible rfl)
  simp only [Act.put, List.setIfInBounds_toArray, List.set_cons_zero, List.set_cons_succ]
  refine wpAnyH_done (by kernel_rfl) ?_ _
  clear hS hS3
  obtain ⟨v0, v1, v2, v3, v4, v5, v6, v7, v8⟩ := nine_box ((HS.out.block _ (lt_of_block H1.out)).trans H1.out)
  go_wp2
  go_ret
  exact ⟨rfl, HB.out.trans (HS.out.mono HB.out.size)⟩
set_option maxRecDepth 100000 in
set_option maxHeartbeats 2000000 in
theorem node_bare (x : Nd) (r : Nat) (w : World) (hx : NdV x) (hk : WI x.kind) (hf : wantF x.kind = some 149) : Calls Tryz.prog 92 #[ndv x, .int .i64 r] w fun e w' => e = .returned (.bool (ndBare x)) ∧ Below w.heap.size w w' := by
  have HP := Lib.hid (fun wq => bare_any x r wq hx)
  have HLk := Lib.hid (show ∀ (z : World) (m : Nat), MapV kindK z m 12 (fun k => (wantF k).map fnv) → (Instr.lookup 212 (.map (some m)) (.int .i64 x.kind) false).run Tryz.prog z = .ok (((wantF x.kind).map fnv).getD .nilFunc) z from fun z m h => h.look Tryz.underlying212 (z := .nilFunc) (by kernel_rfl) (x := x.kind) hk false)
  rw [hf] at HLk
  simp only [Option.map_some, Option.map_none, Option.getD_some, Option.getD_none] at HLk
  obtain ⟨ao, cap, hv⟩ := hx.kv
  have hsm := hx.few
  obtain ⟨kind, c0, c1, c2, c3, text, rule, level, kids, kv⟩ := x
  simp only at hv hsm HLk
  subst hv
  unfold ndv
  simp only
  obtain ⟨b, hb⟩ : ∃ b, b = ndBare ⟨kind, c0, c1, c2, c3, text, rule, level, kids, .slice ao kids.length cap⟩ := ⟨_, rfl⟩
  rw [← hb] at HP ⊢
  unfold shv at HP
  simp only at HP
  clear hb
  clear hx hf hk
  obtain ⟨n, hn⟩ : ∃ n, n = kids.length := ⟨_, rfl⟩
  rw [← hn] at hsm ⊢
  rw [← hn] at HP
  clear hn
  have qF : ∀ (w : World) (x : Fn) (b fr : Array Value), (binOp .neq 211 (.func x b fr) .nilFunc).run Tryz.prog w = .ok (.bool true) w := fun w x b fr => run_neq_closure w _ x b fr shapeFn
  have qN : ∀ (w : World), (binOp .neq 211 .nilFunc .nilFunc).run Tryz.prog w = .ok (.bool false) w := fun w => run_neq_nilFunc w _ shapeFn
  go_enter Tryz.func92, Tryz.ntmps92
  go_upto_region 1 with (fail)
  refine gen_world (S := fun u => Below w.heap.size w u ∧ u.heap[w.heap.size]? = some (.cells #[.int .i64 kind, .int .u64 c0, .int .u64 c1, .int .u64 c2, .int .u64 c3, .string text, .int .i64 rule, .int .i64 level, .slice ao n cap] 60 (0, 0))) (one_new w _) (fun u hu => ?_)
  obtain ⟨hb, h1⟩ := hu
  have HB := Lib.hid hb
  have H1 := Lib.hid h1
  obtain ⟨X, hX⟩ : ∃ X, X = w.heap.size := ⟨_, rfl⟩
  rw [← hX] at H1 ⊢
  have HX := Lib.hid hX
  clear hb h1 hX
  refine wp_region_held_drew (S := fun z => Below u.heap.size u z) (by kernel_rfl) (Below.refl u.heap.size u).drew (fun hS => ?_)
  refine wpAnyH_take (i := 1) (oi := ⟨_, _, _, _, _, _⟩) (v := ?v4) rfl (by kernel_rfl) (by kernel_rfl) (by kernel_rfl) (fun _ _ _ h => h) ?y4 hS ?_
  case y4 => first | (refine Or.inr ⟨by rfl, ?_⟩; with_reducible rfl) | (refine Or.inl ⟨by rfl, ?_⟩; intro wS hSw; obtain ⟨v0, v1, v2, v3, v4, v5, v6, v7, v8⟩ := nine_box ((hSw.block _ (lt_of_block H1.out)).trans H1.out); go_simp; try with_reducible rfl)
  simp only [Act.put, List.setIfInBounds_toArray, List.set_cons_zero, List.set_cons_succ]
  refine wpAnyH_take (i := 2) (oi := ⟨_, _, _, _, _, _⟩) (v := ?v5) rfl (by kernel_rfl) (by kernel_rfl) (by kernel_rfl) (fun _ _ _ h => h) ?y5 hS ?_
  case y5 => first | (refine Or.inr ⟨by rfl, ?_⟩; with_reducible rfl) | (refine Or.inl ⟨by rfl, ?_⟩; intro wS hSw; obtain ⟨v0, v1, v2, v3, v4, v5, v6, v7, v8⟩ := nine_box ((hSw.block _ (lt_of_block H1.out)).trans H1.out); go_simp; try with_reducible rfl)
  simp only [Act.put, List.setIfInBounds_toArray, List.set_cons_zero, List.set_cons_succ]
  refine wpAnyH_ready (rs := [0]) (by kernel_rfl) (by simp) ?_
  refine AllReadyH.cons (o := ⟨_, _, _, _, _, _⟩) rfl (fun K hK => ?_) AllReadyH.nil
  go_simp
  refine (wants_any _).mono ?_
  rintro e z ⟨⟨m, rfl, hm⟩, hb⟩
  have hl := HLk.out z m hm
  clear hm
  go_wp2_with fail
  refine hK.out _ _ (hS.trans (hb.mono hS.size)) (fun hS2 => ?_)
  have HS := Lib.hid (hS.trans (hb.mono hS.size))
  clear hK K hS hb
  try simp only [Act.put, List.setIfInBounds_toArray, List.set_cons_zero, List.set_cons_succ]
  refine wpAnyH_ready (rs := [3]) (by kernel_rfl) (by simp) ?_
  refine AllReadyH.cons (o := ⟨_, _, _, _, _, _⟩) rfl (fun K hK => ?_) AllReadyH.nil
  go_simp
  refine hK.out _ _ HS.out (fun hS3 => ?_)
  clear hK K hS2 hl
  try simp only [Act.put, List.setIfInBounds_toArray, List.set_cons_zero, List.set_cons_succ]
  have hS := HS.out
  refine wpAnyH_take (i := 4) (oi := ⟨_, _, _, _, _, _⟩) (v := ?v6) rfl (by kernel_rfl) (by kernel_rfl) (by kernel_rfl) (fun _ _ _ h => h) ?y6 hS ?_
  case y6 => first | (refine Or.inr ⟨by rfl, ?_⟩; with_reducible rfl) | (refine Or.inl ⟨by rfl, ?_⟩; intro wS hSw; obtain ⟨v0, v1, v2, v3, v4, v5, v6, v7, v8⟩ := nine_box ((hSw.block _ (lt_of_block H1.out)).trans H1.out); go_simp; try with_reducible rfl)
  simp only [Act.put, List.setIfInBounds_toArray, List.set_cons_zero, List.set_cons_succ]
  refine wpAnyH_done (by kernel_rfl) ?_ _
  clear hS hS3
  obtain ⟨v0, v1, v2, v3, v4, v5, v6, v7, v8⟩ := nine_box ((HS.out.block _ (lt_of_block H1.out)).trans H1.out)
  unfold fnv
  go_wp2_with fail
  refine (HP.out _).mono ?_
  rintro e w1 ⟨rfl, hb⟩
  have HB1 := Lib.hid hb
  clear hb v0 v1 v2 v3 v4 v5 v6 v7 v8
  go_wp2
  go_ret
  exact ⟨rfl, HB.out.trans ((HS.out.trans (HB1.out.mono HS.out.size)).mono HB.out.size)⟩
set_option maxRecDepth 100000 in
set_option maxHeartbeats 2000000 in
theorem node_set (x : Nd) (r : Nat) (w : World) (hx : NdV x) (hk : WI x.kind) (hf : wantF x.kind = some 150) : Calls Tryz.prog 92 #[ndv x, .int .i64 r] w fun e w' => e = .returned (.bool (ndSet x)) ∧ Below w.heap.size w w' := by
  have HP := Lib.hid (fun wq => set_any x r wq hx)
  have HLk := Lib.hid (show ∀ (z : World) (m : Nat), MapV kindK z m 12 (fun k => (wantF k).map fnv) → (Instr.lookup 212 (.map (some m)) (.int .i64 x.kind) false).run Tryz.prog z = .ok (((wantF x.kind).map fnv).getD .nilFunc) z from fun z m h => h.look Tryz.underlying212 (z := .nilFunc) (by kernel_rfl) (x := x.kind) hk false)
  rw [hf] at HLk
  simp only [Option.map_some, Option.map_none, Option.getD_some, Option.getD_none] at HLk
  obtain ⟨ao, cap, hv⟩ := hx.kv
  have hsm := hx.few
  obtain ⟨kind, c0, c1, c2, c3, text, rule, level, kids, kv⟩ := x
  simp only at hv hsm HLk
  subst hv
  unfold ndv
  simp only
  obtain ⟨b, hb⟩ : ∃ b, b = ndSet ⟨kind, c0, c1, c2, c3, text, rule, level, kids, .slice ao kids.length cap⟩ := ⟨_, rfl⟩
  rw [← hb] at HP ⊢
  unfold shv at HP
  simp only at HP
  clear hb
  clear hx hf hk
  obtain ⟨n, hn⟩ : ∃ n, n = kids.length := ⟨_, rfl⟩
  rw [← hn] at hsm ⊢
  rw [← hn] at HP
  clear hn
  have qF : ∀ (w : World) (x : Fn) (b fr : Array Value), (binOp .neq 211 (.func x b fr) .nilFunc).run Tryz.prog w = .ok (.bool true) w := fun w x b fr => run_neq_closure w _ x b fr shapeFn
  have qN : ∀ (w : World), (binOp .neq 211 .nilFunc .nilFunc).run Tryz.prog w = .ok (.bool false) w := fun w => run_neq_nilFunc w _ shapeFn
  go_enter Tryz.func92, Tryz.ntmps92
  go_upto_region 1 with (fail)
  refine gen_world (S := fun u => Below w.heap.size w u ∧ u.heap[w.heap.size]? = some (.cells #[.int .i64 kind, .int .u64 c0, .int .u64 c1, .int .u64 c2, .int .u64 c3, .string text, .int .i64 rule, .int .i64 level, .slice ao n cap] 60 (0, 0))) (one_new w _) (fun u hu => ?_)
  obtain ⟨hb, h1⟩ := hu
  have HB := Lib.hid hb
  have H1 := Lib.hid h1
  obtain ⟨X, hX⟩ : ∃ X, X = w.heap.size := ⟨_, rfl⟩
  rw [← hX] at H1 ⊢
  have HX := Lib.hid hX
  clear hb h1 hX
  refine wp_region_held_drew (S := fun z => Below u.heap.size u z) (by kernel_rfl) (Below.refl u.heap.size u).drew (fun hS => ?_)
  refine wpAnyH_take (i := 1) (oi := ⟨_, _, _, _, _, _⟩) (v := ?v7) rfl (by kernel_rfl) (by kernel_rfl) (by kernel_rfl) (fun _ _ _ h => h) ?y7 hS ?_
  case y7 => first | (refine Or.inr ⟨by rfl, ?_⟩; with_reducible rfl) | (refine Or.inl ⟨by rfl, ?_⟩; intro wS hSw; obtain ⟨v0, v1, v2, v3, v4, v5, v6, v7, v8⟩ := nine_box ((hSw.block _ (lt_of_block H1.out)).trans H1.out); go_simp; try with_reducible rfl)
  simp only [Act.put, List.setIfInBounds_toArray, List.set_cons_zero, List.set_cons_succ]
  refine wpAnyH_take (i := 2) (oi := ⟨_, _, _, _, _, _⟩) (v := ?v8) rfl (by kernel_rfl) (by kernel_rfl) (by kernel_rfl) (fun _ _ _ h => h) ?y8 hS ?_
  case y8 => first | (refine Or.inr ⟨by rfl, ?_⟩; with_reducible rfl) | (refine Or.inl ⟨by rfl, ?_⟩; intro wS hSw; obtain ⟨v0, v1, v2, v3, v4, v5, v6, v7, v8⟩ := nine_box ((hSw.block _ (lt_of_block H1.out)).trans H1.out); go_simp; try with_reducible rfl)
  simp only [Act.put, List.setIfInBounds_toArray, List.set_cons_zero, List.set_cons_succ]
  refine wpAnyH_ready (rs := [0]) (by kernel_rfl) (by simp) ?_
  refine AllReadyH.cons (o := ⟨_, _, _, _, _, _⟩) rfl (fun K hK => ?_) AllReadyH.nil
  go_simp
  refine (wants_any _).mono ?_
  rintro e z ⟨⟨m, rfl, hm⟩, hb⟩
  have hl := HLk.out z m hm
  clear hm
  go_wp2_with fail
  refine hK.out _ _ (hS.trans (hb.mono hS.size)) (fun hS2 => ?_)
  have HS := Lib.hid (hS.trans (hb.mono hS.size))
  clear hK K hS hb
  try simp only [Act.put, List.setIfInBounds_toArray, List.set_cons_zero, List.set_cons_succ]
  refine wpAnyH_ready (rs := [3]) (by kernel_rfl) (by simp) ?_
  refine AllReadyH.cons (o := ⟨_, _, _, _, _, _⟩) rfl (fun K hK => ?_) AllReadyH.nil
  go_simp
  refine hK.out _ _ HS.out (fun hS3 => ?_)
  clear hK K hS2 hl
  try simp only [Act.put, List.setIfInBounds_toArray, List.set_cons_zero, List.set_cons_succ]
  have hS := HS.out
  refine wpAnyH_take (i := 4) (oi := ⟨_, _, _, _, _, _⟩) (v := ?v9) rfl (by kernel_rfl) (by kernel_rfl) (by kernel_rfl) (fun _ _ _ h => h) ?y9 hS ?_
  case y9 => first | (refine Or.inr ⟨by rfl, ?_⟩; with_reducible rfl) | (refine Or.inl ⟨by rfl, ?_⟩; intro wS hSw; obtain ⟨v0, v1, v2, v3, v4, v5, v6, v7, v8⟩ := nine_box ((hSw.block _ (lt_of_block H1.out)).trans H1.out); go_simp; try with_reducible rfl)
  simp only [Act.put, List.setIfInBounds_toArray, List.set_cons_zero, List.set_cons_succ]
  refine wpAnyH_done (by kernel_rfl) ?_ _
  clear hS hS3
  obtain ⟨v0, v1, v2, v3, v4, v5, v6, v7, v8⟩ := nine_box ((HS.out.block _ (lt_of_block H1.out)).trans H1.out)
  unfold fnv
  go_wp2_with fail
  refine (HP.out _).mono ?_
  rintro e w1 ⟨rfl, hb⟩
  have HB1 := Lib.hid hb
  clear hb v0 v1 v2 v3 v4 v5 v6 v7 v8
  go_wp2
  go_ret
  exact ⟨rfl, HB.out.trans ((HS.out.trans (HB1.out.mono HS.out.size)).mono HB.out.size)⟩
set_option maxRecDepth 100000 in
set_option maxHeartbeats 2000000 in
theorem node_text (x : Nd) (r : Nat) (w : World) (hx : NdV x) (hk : WI x.kind) (hf : wantF x.kind = some 151) : Calls Tryz.prog 92 #[ndv x, .int .i64 r] w fun e w' => e = .returned (.bool (ndText x)) ∧ Below w.heap.size w w' := by
  have HP := Lib.hid (fun wq => text_any x r wq hx)
  have HLk := Lib.hid (show ∀ (z : World) (m : Nat), MapV kindK z m 12 (fun k => (wantF k).map fnv) → (Instr.lookup 212 (.map (some m)) (.int .i64 x.kind) false).run Tryz.prog z = .ok (((wantF x.kind).map fnv).getD .nilFunc) z from fun z m h => h.look Tryz.underlying212 (z := .nilFunc) (by kernel_rfl) (x := x.kind) hk false)
  rw [hf] at HLk
  simp only [Option.map_some, Option.map_none, Option.getD_some, Option.getD_none] at HLk
  obtain ⟨ao, cap, hv⟩ := hx.kv
  have hsm := hx.few
  obtain ⟨kind, c0, c1, c2, c3, text, rule, level, kids, kv⟩ := x
  simp only at hv hsm HLk
  subst hv
  unfold ndv
  simp only
  obtain ⟨b, hb⟩ : ∃ b, b = ndText ⟨kind, c0, c1, c2, c3, text, rule, level, kids, .slice ao kids.length cap⟩ := ⟨_, rfl⟩
  rw [← hb] at HP ⊢
  unfold shv at HP
  simp only at HP
  clear hb
  clear hx hf hk
  obtain ⟨n, hn⟩ : ∃ n, n = kids.length := ⟨_, rfl⟩
  rw [← hn] at hsm ⊢
  rw [← hn] at HP
  clear hn
  have qF : ∀ (w : World) (x : Fn) (b fr : Array Value), (binOp .neq 211 (.func x b fr) .nilFunc).run Tryz.prog w = .ok (.bool true) w := fun w x b fr => run_neq_closure w _ x b fr shapeFn
  have qN : ∀ (w : World), (binOp .neq 211 .nilFunc .nilFunc).run Tryz.prog w = .ok (.bool false) w := fun w => run_neq_nilFunc w _ shapeFn
  go_enter Tryz.func92, Tryz.ntmps92
  go_upto_region 1 with (fail)
  refine gen_world (S := fun u => Below w.heap.size w u ∧ u.heap[w.heap.size]? = some (.cells #[.int .i64 kind, .int .u64 c0, .int .u64 c1, .int .u64 c2, .int .u64 c3, .string text, .int .i64 rule, .int .i64 level, .slice ao n cap] 60 (0, 0))) (one_new w _) (fun u hu => ?_)
  obtain ⟨hb, h1⟩ := hu
  have HB := Lib.hid hb
  have H1 := Lib.hid h1
  obtain ⟨X, hX⟩ : ∃ X, X = w.heap.size := ⟨_, rfl⟩
  rw [← hX] at H1 ⊢
  have HX := Lib.hid hX
  clear hb h1 hX
  refine wp_region_held_drew (S := fun z => Below u.heap.size u z) (by kernel_rfl) (Below.refl u.heap.size u).drew (fun hS => ?_)
  refine wpAnyH_take (i := 1) (oi := ⟨_, _, _, _, _, _⟩) (v := ?v10) rfl (by kernel_rfl) (by kernel_rfl) (by kernel_rfl) (fun _ _ _ h => h) ?y10 hS ?_
  case y10 => first | (refine Or.inr ⟨by rfl, ?_⟩; with_reducible rfl) | (refine Or.inl ⟨by rfl, ?_⟩; intro wS hSw; obtain ⟨v0, v1, v2, v3, v4, v5, v6, v7, v8⟩ := nine_box ((hSw.block _ (lt_of_block H1.out)).trans H1.out); go_simp; try with_reducible rfl)
  simp only [Act.put, List.setIfInBounds_toArray, List.set_cons_zero, List.set_cons_succ]
  refine wpAnyH_take (i := 2) (oi := ⟨_, _, _, _, _, _⟩) (v := ?v11) rfl (by kernel_rfl) (by kernel_rfl) (by kernel_rfl) (fun _ _ _ h => h) ?y11 hS ?_
  case y11 => first | (refine Or.inr ⟨by rfl, ?_⟩; with_reducible rfl) | (refine Or.inl ⟨by rfl, ?_⟩; intro wS hSw; obtain ⟨v0, v1, v2, v3, v4, v5, v6, v7, v8⟩ := nine_box ((hSw.block _ (lt_of_block H1.out)).trans H1.out); go_simp; try with_reducible rfl)
  simp only [Act.put, List.setIfInBounds_toArray, List.set_cons_zero, List.set_cons_succ]
  refine wpAnyH_ready (rs := [0]) (by kernel_rfl) (by simp) ?_
  refine AllReadyH.cons (o := ⟨_, _, _, _, _, _⟩) rfl (fun K hK => ?_) AllReadyH.nil
  go_simp
  refine (wants_any _).mono ?_
  rintro e z ⟨⟨m, rfl, hm⟩, hb⟩
  have hl := HLk.out z m hm
  clear hm
  go_wp2_with fail
  refine hK.out _ _ (hS.trans (hb.mono hS.size)) (fun hS2 => ?_)
  have HS := Lib.hid (hS.trans (hb.mono hS.size))
  clear hK K hS hb
  try simp only [Act.put, List.setIfInBounds_toArray, List.set_cons_zero, List.set_cons_succ]
  refine wpAnyH_ready (rs := [3]) (by kernel_rfl) (by simp) ?_
  refine AllReadyH.cons (o := ⟨_, _, _, _, _, _⟩) rfl (fun K hK => ?_) AllReadyH.nil
  go_simp
  refine hK.out _ _ HS.out (fun hS3 => ?_)
  clear hK K hS2 hl
  try simp only [Act.put, List.setIfInBounds_toArray, List.set_cons_zero, List.set_cons_succ]
  have hS := HS.out
  refine wpAnyH_take (i := 4) (oi := ⟨_, _, _, _, _, _⟩) (v := ?v12) rfl (by kernel_rfl) (by kernel_rfl) (by kernel_rfl) (fun _ _ _ h => h) ?y12 hS ?_
  case y12 => first | (refine Or.inr ⟨by rfl, ?_⟩; with_reducible rfl) | (refine Or.inl ⟨by rfl, ?_⟩; intro wS hSw; obtain ⟨v0, v1, v2, v3, v4, v5, v6, v7, v8⟩ := nine_box ((hSw.block _ (lt_of_block H1.out)).trans H1.out); go_simp; try with_reducible rfl)
  simp only [Act.put, List.setIfInBounds_toArray, List.set_cons_zero, List.set_cons_succ]
  refine wpAnyH_done (by kernel_rfl) ?_ _
  clear hS hS3
  obtain ⟨v0, v1, v2, v3, v4, v5, v6, v7, v8⟩ := nine_box ((HS.out.block _ (lt_of_block H1.out)).trans H1.out)
  unfold fnv
  go_wp2_with fail
  refine (HP.out _).mono ?_
  rintro e w1 ⟨rfl, hb⟩
  have HB1 := Lib.hid hb
  clear hb v0 v1 v2 v3 v4 v5 v6 v7 v8
  go_wp2
  go_ret
  exact ⟨rfl, HB.out.trans ((HS.out.trans (HB1.out.mono HS.out.size)).mono HB.out.size)⟩
set_option maxRecDepth 100000 in
set_option maxHeartbeats 2000000 in
theorem node_call (x : Nd) (r : Nat) (w : World) (hx : NdV x) (hk : WI x.kind) (hf : wantF x.kind = some 152) : Calls Tryz.prog 92 #[ndv x, .int .i64 r] w fun e w' => e = .returned (.bool (ndCall r x)) ∧ Below w.heap.size w w' := by
  have HP := Lib.hid (fun wq => call_any x r wq hx)
  have HLk := Lib.hid (show ∀ (z : World) (m : Nat), MapV kindK z m 12 (fun k => (wantF k).map fnv) → (Instr.lookup 212 (.map (some m)) (.int .i64 x.kind) false).run Tryz.prog z = .ok (((wantF x.kind).map fnv).getD .nilFunc) z from fun z m h => h.look Tryz.underlying212 (z := .nilFunc) (by kernel_rfl) (x := x.kind) hk false)
  rw [hf] at HLk
  simp only [Option.map_some, Option.map_none, Option.getD_some, Option.getD_none] at HLk
  obtain ⟨ao, cap, hv⟩ := hx.kv
  have hsm := hx.few
  obtain ⟨kind, c0, c1, c2, c3, text, rule, level, kids, kv⟩ := x
  simp only at hv hsm HLk
  subst hv
  unfold ndv
  simp only
  obtain ⟨b, hb⟩ : ∃ b, b = ndCall r ⟨kind, c0, c1, c2, c3, text, rule, level, kids, .slice ao kids.length cap⟩ := ⟨_, rfl⟩
  rw [← hb] at HP ⊢
  unfold shv at HP
  simp only at HP
  clear hb
  clear hx hf hk
  obtain ⟨n, hn⟩ : ∃ n, n = kids.length := ⟨_, rfl⟩
  rw [← hn] at hsm ⊢
  rw [← hn] at HP
  clear hn
  have qF : ∀ (w : World) (x : Fn) (b fr : Array Value), (binOp .neq 211 (.func x b fr) .nilFunc).run Tryz.prog w = .ok (.bool true) w := fun w x b fr => run_neq_closure w _ x b fr shapeFn
  have qN : ∀ (w : World), (binOp .neq 211 .nilFunc .nilFunc).run Tryz.prog w = .ok (.bool false) w := fun w => run_neq_nilFunc w _ shapeFn
  go_enter Tryz.func92, Tryz.ntmps92
  go_upto_region 1 with (fail)
  refine gen_world (S := fun u => Below w.heap.size w u ∧ u.heap[w.heap.size]? = some (.cells #[.int .i64 kind, .int .u64 c0, .int .u64 c1, .int .u64 c2, .int .u64 c3, .string text, .int .i64 rule, .int .i64 level, .slice ao n cap] 60 (0, 0))) (one_new w _) (fun u hu => ?_)
  obtain ⟨hb, h1⟩ := hu
  have HB := Lib.hid hb
  have H1 := Lib.hid h1
  obtain ⟨X, hX⟩ : ∃ X, X = w.heap.size := ⟨_, rfl⟩
  rw [← hX] at H1 ⊢
  have HX := Lib.hid hX
  clear hb h1 hX
  refine wp_region_held_drew (S := fun z => Below u.heap.size u z) (by kernel_rfl) (Below.refl u.heap.size u).drew (fun hS => ?_)
  refine wpAnyH_take (i := 1) (oi := ⟨_, _, _, _, _, _⟩) (v := ?v13) rfl (by kernel_rfl) (by kernel_rfl) (by kernel_rfl) (fun _ _ _ h => h) ?y13 hS ?_
  case y13 => first | (refine Or.inr ⟨by rfl, ?_⟩; with_reducible rfl) | (refine Or.inl ⟨by rfl, ?_⟩; intro wS hSw; obtain ⟨v0, v1, v2, v3, v4, v5, v6, v7, v8⟩ := nine_box ((hSw.block _ (lt_of_block H1.out)).trans H1.out); go_simp; try with_reducible rfl)
  simp only [Act.put, List.setIfInBounds_toArray, List.set_cons_zero, List.set_cons_succ]
  refine wpAnyH_take (i := 2) (oi := ⟨_, _, _, _, _, _⟩) (v := ?v14) rfl (by kernel_rfl) (by kernel_rfl) (by kernel_rfl) (fun _ _ _ h => h) ?y14 hS ?_
  case y14 => first | (refine Or.inr ⟨by rfl, ?_⟩; with_reducible rfl) | (refine Or.inl ⟨by rfl, ?_⟩; intro wS hSw; obtain ⟨v0, v1, v2, v3, v4, v5, v6, v7, v8⟩ := nine_box ((hSw.block _ (lt_of_block H1.out)).trans H1.out); go_simp; try with_reducible rfl)
  simp only [Act.put, List.setIfInBounds_toArray, List.set_cons_zero, List.set_cons_succ]
  refine wpAnyH_ready (rs := [0]) (by kernel_rfl) (by simp) ?_
  refine AllReadyH.cons (o := ⟨_, _, _, _, _, _⟩) rfl (fun K hK => ?_) AllReadyH.nil
  go_simp
  refine (wants_any _).mono ?_
  rintro e z ⟨⟨m, rfl, hm⟩, hb⟩
  have hl := HLk.out z m hm
  clear hm
  go_wp2_with fail
  refine hK.out _ _ (hS.trans (hb.mono hS.size)) (fun hS2 => ?_)
  have HS := Lib.hid (hS.trans (hb.mono hS.size))
  clear hK K hS hb
  try simp only [Act.put, List.setIfInBounds_toArray, List.set_cons_zero, List.set_cons_succ]
  refine wpAnyH_ready (rs := [3]) (by kernel_rfl) (by simp) ?_
  refine AllReadyH.cons (o := ⟨_, _, _, _, _, _⟩) rfl (fun K hK => ?_) AllReadyH.nil
  go_simp
  refine hK.out _ _ HS.out (fun hS3 => ?_)
  clear hK K hS2 hl
  try simp only [Act.put, List.setIfInBounds_toArray, List.set_cons_zero, List.set_cons_succ]
  have hS := HS.out
  refine wpAnyH_take (i := 4) (oi := ⟨_, _, _, _, _, _⟩) (v := ?v15) rfl (by kernel_rfl) (by kernel_rfl) (by kernel_rfl) (fun _ _ _ h => h) ?y15 hS ?_
  case y15 => first | (refine Or.inr ⟨by rfl, ?_⟩; with_reducible rfl) | (refine Or.inl ⟨by rfl, ?_⟩; intro wS hSw; obtain ⟨v0, v1, v2, v3, v4, v5, v6, v7, v8⟩ := nine_box ((hSw.block _ (lt_of_block H1.out)).trans H1.out); go_simp; try with_reducible rfl)
  simp only [Act.put, List.setIfInBounds_toArray, List.set_cons_zero, List.set_cons_succ]
  refine wpAnyH_done (by kernel_rfl) ?_ _
  clear hS hS3
  obtain ⟨v0, v1, v2, v3, v4, v5, v6, v7, v8⟩ := nine_box ((HS.out.block _ (lt_of_block H1.out)).trans H1.out)
  unfold fnv
  go_wp2_with fail
  refine (HP.out _).mono ?_
  rintro e w1 ⟨rfl, hb⟩
  have HB1 := Lib.hid hb
  clear hb v0 v1 v2 v3 v4 v5 v6 v7 v8
  go_wp2
  go_ret
  exact ⟨rfl, HB.out.trans ((HS.out.trans (HB1.out.mono HS.out.size)).mono HB.out.size)⟩
set_option maxRecDepth 100000 in
set_option maxHeartbeats 2000000 in
theorem node_many (x : Nd) (r : Nat) (w : World) (hx : NdV x) (hk : WI x.kind) (hf : wantF x.kind = some 153) : Calls Tryz.prog 92 #[ndv x, .int .i64 r] w fun e w' => e = .returned (.bool (ndMany x)) ∧ Below w.heap.size w w' := by
  have HP := Lib.hid (fun wq => many_any x r wq hx)
  have HLk := Lib.hid (show ∀ (z : World) (m : Nat), MapV kindK z m 12 (fun k => (wantF k).map fnv) → (Instr.lookup 212 (.map (some m)) (.int .i64 x.kind) false).run Tryz.prog z = .ok (((wantF x.kind).map fnv).getD .nilFunc) z from fun z m h => h.look Tryz.underlying212 (z := .nilFunc) (by kernel_rfl) (x := x.kind) hk false)
  rw [hf] at HLk
  simp only [Option.map_some, Option.map_none, Option.getD_some, Option.getD_none] at HLk
  obtain ⟨ao, cap, hv⟩ := hx.kv
  have hsm := hx.few
  obtain ⟨kind, c0, c1, c2, c3, text, rule, level, kids, kv⟩ := x
  simp only at hv hsm HLk
  subst hv
  unfold ndv
  simp only
  obtain ⟨b, hb⟩ : ∃ b, b = ndMany ⟨kind, c0, c1, c2, c3, text, rule, level, kids, .slice ao kids.length cap⟩ := ⟨_, rfl⟩
  rw [← hb] at HP ⊢
  unfold shv at HP
  simp only at HP
  clear hb
  clear hx hf hk
  obtain ⟨n, hn⟩ : ∃ n, n = kids.length := ⟨_, rfl⟩
  rw [← hn] at hsm ⊢
  rw [← hn] at HP
  clear hn
  have qF : ∀ (w : World) (x : Fn) (b fr : Array Value), (binOp .neq 211 (.func x b fr) .nilFunc).run Tryz.prog w = .ok (.bool true) w := fun w x b fr => run_neq_closure w _ x b fr shapeFn
  have qN : ∀ (w : World), (binOp .neq 211 .nilFunc .nilFunc).run Tryz.prog w = .ok (.bool false) w := fun w => run_neq_nilFunc w _ shapeFn
  go_enter Tryz.func92, Tryz.ntmps92
  go_upto_region 1 with (fail)
  refine gen_world (S := fun u => Below w.heap.size w u ∧ u.heap[w.heap.size]? = some (.cells #[.int .i64 kind, .int .u64 c0, .int .u64 c1, .int .u64 c2, .int .u64 c3, .string text, .int .i64 rule, .int .i64 level, .slice ao n cap] 60 (0, 0))) (one_new w _) (fun u hu => ?_)
  obtain ⟨hb, h1⟩ := hu
  have HB := Lib.hid hb
  have H1 := Lib.hid h1
  obtain ⟨X, hX⟩ : ∃ X, X = w.heap.size := ⟨_, rfl⟩
  rw [← hX] at H1 ⊢
  have HX := Lib.hid hX
  clear hb h1 hX
  refine wp_region_held_drew (S := fun z => Below u.heap.size u z) (by kernel_rfl) (Below.refl u.heap.size u).drew (fun hS => ?_)
  refine wpAnyH_take (i := 1) (oi := ⟨_, _, _, _, _, _⟩) (v := ?v16) rfl (by kernel_rfl) (by kernel_rfl) (by kernel_rfl) (fun _ _ _ h => h) ?y16 hS ?_
  case y16 => first | (refine Or.inr ⟨by rfl, ?_⟩; with_reducible rfl) | (refine Or.inl ⟨by rfl, ?_⟩; intro wS hSw; obtain ⟨v0, v1, v2, v3, v4, v5, v6, v7, v8⟩ := nine_box ((hSw.block _ (lt_of_block H1.out)).trans H1.out); go_simp; try with_reducible rfl)
  simp only [Act.put, List.setIfInBounds_toArray, List.set_cons_zero, List.set_cons_succ]
  refine wpAnyH_take (i := 2) (oi := ⟨_, _, _, _, _, _⟩) (v := ?v17) rfl (by kernel_rfl) (by kernel_rfl) (by kernel_rfl) (fun _ _ _ h => h) ?y17 hS ?_
  case y17 => first | (refine Or.inr ⟨by rfl, ?_⟩; with_reducible rfl) | (refine Or.inl ⟨by rfl, ?_⟩; intro wS hSw; obtain ⟨v0, v1, v2, v3, v4, v5, v6, v7, v8⟩ := nine_box ((hSw.block _ (lt_of_block H1.out)).trans H1.out); go_simp; try with_reducible rfl)
  simp only [Act.put, List.setIfInBounds_toArray, List.set_cons_zero, List.set_cons_succ]
  refine wpAnyH_ready (rs := [0]) (by kernel_rfl) (by simp) ?_
  refine AllReadyH.cons (o := ⟨_, _, _, _, _, _⟩) rfl (fun K hK => ?_) AllReadyH.nil
  go_simp
  refine (wants_any _).mono ?_
  rintro e z ⟨⟨m, rfl, hm⟩, hb⟩
  have hl := HLk.out z m hm
  clear hm
  go_wp2_with fail
  refine hK.out _ _ (hS.trans (hb.mono hS.size)) (fun hS2 => ?_)
  have HS := Lib.hid (hS.trans (hb.mono hS.size))
  clear hK K hS hb
  try simp only [Act.put, List.setIfInBounds_toArray, List.set_cons_zero, List.set_cons_succ]
  refine wpAnyH_ready (rs := [3]) (by kernel_rfl) (by simp) ?_
  refine AllReadyH.cons (o := ⟨_, _, _, _, _, _⟩) rfl (fun K hK => ?_) AllReadyH.nil
  go_simp
  refine hK.out _ _ HS.out (fun hS3 => ?_)
  clear hK K hS2 hl
  try simp only [Act.put, List.setIfInBounds_toArray, List.set_cons_zero, List.set_cons_succ]
  have hS := HS.out
  refine wpAnyH_take (i := 4) (oi := ⟨_, _, _, _, _, _⟩) (v := ?v18) rfl (by kernel_rfl) (by kernel_rfl) (by kernel_rfl) (fun _ _ _ h => h) ?y18 hS ?_
  case y18 => first | (refine Or.inr ⟨by rfl, ?_⟩; with_reducible rfl) | (refine Or.inl ⟨by rfl, ?_⟩; intro wS hSw; obtain ⟨v0, v1, v2, v3, v4, v5, v6, v7, v8⟩ := nine_box ((hSw.block _ (lt_of_block H1.out)).trans H1.out); go_simp; try with_reducible rfl)
  simp only [Act.put, List.setIfInBounds_toArray, List.set_cons_zero, List.set_cons_succ]
  refine wpAnyH_done (by kernel_rfl) ?_ _
  clear hS hS3
  obtain ⟨v0, v1, v2, v3, v4, v5, v6, v7, v8⟩ := nine_box ((HS.out.block _ (lt_of_block H1.out)).trans H1.out)
  unfold fnv
  go_wp2_with fail
  refine (HP.out _).mono ?_
  rintro e w1 ⟨rfl, hb⟩
  have HB1 := Lib.hid hb
  clear hb v0 v1 v2 v3 v4 v5 v6 v7 v8
  go_wp2
  go_ret
  exact ⟨rfl, HB.out.trans ((HS.out.trans (HB1.out.mono HS.out.size)).mono HB.out.size)⟩
set_option maxRecDepth 100000 in
set_option maxHeartbeats 2000000 in
theorem node_one (x : Nd) (r : Nat) (w : World) (hx : NdV x) (hk : WI x.kind) (hf : wantF x.kind = some 154) : Calls Tryz.prog 92 #[ndv x, .int .i64 r] w fun e w' => e = .returned (.bool (ndOne x)) ∧ Below w.heap.size w w' := by
  have HP := Lib.hid (fun wq => one_any x r wq hx)
  have HLk := Lib.hid (show ∀ (z : World) (m : Nat), MapV kindK z m 12 (fun k => (wantF k).map fnv) → (Instr.lookup 212 (.map (some m)) (.int .i64 x.kind) false).run Tryz.prog z = .ok (((wantF x.kind).map fnv).getD .nilFunc) z from fun z m h => h.look Tryz.underlying212 (z := .nilFunc) (by kernel_rfl) (x := x.kind) hk false)
  rw [hf] at HLk
  simp only [Option.map_some, Option.map_none, Option.getD_some, Option.getD_none] at HLk
  obtain ⟨ao, cap, hv⟩ := hx.kv
  have hsm := hx.few
  obtain ⟨kind, c0, c1, c2, c3, text, rule, level, kids, kv⟩ := x
  simp only at hv hsm HLk
  subst hv
  unfold ndv
  simp only
  obtain ⟨b, hb⟩ : ∃ b, b = ndOne ⟨kind, c0, c1, c2, c3, text, rule, level, kids, .slice ao kids.length cap⟩ := ⟨_, rfl⟩
  rw [← hb] at HP ⊢
  unfold shv at HP
  simp only at HP
  clear hb
  clear hx hf hk
  obtain ⟨n, hn⟩ : ∃ n, n = kids.length := ⟨_, rfl⟩
  rw [← hn] at hsm ⊢
  rw [← hn] at HP
  clear hn
  have qF : ∀ (w : World) (x : Fn) (b fr : Array Value), (binOp .neq 211 (.func x b fr) .nilFunc).run Tryz.prog w = .ok (.bool true) w := fun w x b fr => run_neq_closure w _ x b fr shapeFn
  have qN : ∀ (w : World), (binOp .neq 211 .nilFunc .nilFunc).run Tryz.prog w = .ok (.bool false) w := fun w => run_neq_nilFunc w _ shapeFn
  go_enter Tryz.func92, Tryz.ntmps92
  go_upto_region 1 with (fail)
  refine gen_world (S := fun u => Below w.heap.size w u ∧ u.heap[w.heap.size]? = some (.cells #[.int .i64 kind, .int .u64 c0, .int .u64 c1, .int .u64 c2, .int .u64 c3, .string text, .int .i64 rule, .int .i64 level, .slice ao n cap] 60 (0, 0))) (one_new w _) (fun u hu => ?_)
  obtain ⟨hb, h1⟩ := hu
  have HB := Lib.hid hb
  have H1 := Lib.hid h1
  obtain ⟨X, hX⟩ : ∃ X, X = w.heap.size := ⟨_, rfl⟩
  rw [← hX] at H1 ⊢
  have HX := Lib.hid hX
  clear hb h1 hX
  refine wp_region_held_drew (S := fun z => Below u.heap.size u z) (by kernel_rfl) (Below.refl u.heap.size u).drew (fun hS => ?_)
  refine wpAnyH_take (i := 1) (oi := ⟨_, _, _, _, _, _⟩) (v := ?v19) rfl (by kernel_rfl) (by kernel_rfl) (by kernel_rfl) (fun _ _ _ h => h) ?y19 hS ?_
  case y19 => first | (refine Or.inr ⟨by rfl, ?_⟩; with_reducible rfl) | (refine Or.inl ⟨by rfl, ?_⟩; intro wS hSw; obtain ⟨v0, v1, v2, v3, v4, v5, v6, v7, v8⟩ := nine_box ((hSw.block _ (lt_of_block H1.out)).trans H1.out); go_simp; try with_reducible rfl)
  simp only [Act.put, List.setIfInBounds_toArray, List.set_cons_zero, List.set_cons_succ]
  refine wpAnyH_take (i := 2) (oi := ⟨_, _, _, _, _, _⟩) (v := ?v20) rfl (by kernel_rfl) (by kernel_rfl) (by kernel_rfl) (fun _ _ _ h => h) ?y20 hS ?_
  case y20 => first | (refine Or.inr ⟨by rfl, ?_⟩; with_reducible rfl) | (refine Or.inl ⟨by rfl, ?_⟩; intro wS hSw; obtain ⟨v0, v1, v2, v3, v4, v5, v6, v7, v8⟩ := nine_box ((hSw.block _ (lt_of_block H1.out)).trans H1.out); go_simp; try with_reducible rfl)
  simp only [Act.put, List.setIfInBounds_toArray, List.set_cons_zero, List.set_cons_succ]
  refine wpAnyH_ready (rs := [0]) (by kernel_rfl) (by simp) ?_
  refine AllReadyH.cons (o := ⟨_, _, _, _, _, _⟩) rfl (fun K hK => ?_) AllReadyH.nil
  go_simp
  refine (wants_any _).mono ?_
  rintro e z ⟨⟨m, rfl, hm⟩, hb⟩
  have hl := HLk.out z m hm
  clear hm
  go_wp2_with fail
  refine hK.out _ _ (hS.trans (hb.mono hS.size)) (fun hS2 => ?_)
  have HS := Lib.hid (hS.trans (hb.mono hS.size))
  clear hK K hS hb
  try simp only [Act.put, List.setIfInBounds_toArray, List.set_cons_zero, List.set_cons_succ]
  refine wpAnyH_ready (rs := [3]) (by kernel_rfl) (by simp) ?_
  refine AllReadyH.cons (o := ⟨_, _, _, _, _, _⟩) rfl (fun K hK => ?_) AllReadyH.nil
  go_simp
  refine hK.out _ _ HS.out (fun hS3 => ?_)
  clear hK K hS2 hl
  try simp only [Act.put, List.setIfInBounds_toArray, List.set_cons_zero, List.set_cons_succ]
  have hS := HS.out
  refine wpAnyH_take (i := 4) (oi := ⟨_, _, _, _, _, _⟩) (v := ?v21) rfl (by kernel_rfl) (by kernel_rfl) (by kernel_rfl) (fun _ _ _ h => h) ?y21 hS ?_
  case y21 => first | (refine Or.inr ⟨by rfl, ?_⟩; with_reducible rfl) | (refine Or.inl ⟨by rfl, ?_⟩; intro wS hSw; obtain ⟨v0, v1, v2, v3, v4, v5, v6, v7, v8⟩ := nine_box ((hSw.block _ (lt_of_block H1.out)).trans H1.out); go_simp; try with_reducible rfl)
  simp only [Act.put, List.setIfInBounds_toArray, List.set_cons_zero, List.set_cons_succ]
  refine wpAnyH_done (by kernel_rfl) ?_ _
  clear hS hS3
  obtain ⟨v0, v1, v2, v3, v4, v5, v6, v7, v8⟩ := nine_box ((HS.out.block _ (lt_of_block H1.out)).trans H1.out)
  unfold fnv
  go_wp2_with fail
  refine (HP.out _).mono ?_
  rintro e w1 ⟨rfl, hb⟩
  have HB1 := Lib.hid hb
  clear hb v0 v1 v2 v3 v4 v5 v6 v7 v8
  go_wp2
  go_ret
  exact ⟨rfl, HB.out.trans ((HS.out.trans (HB1.out.mono HS.out.size)).mono HB.out.size)⟩
theorem node_any (x : Nd) (r : Nat) (w : World) (hx : NdV x) (hk : WI x.kind) : Calls Tryz.prog 92 #[ndv x, .int .i64 r] w fun e w' => e = .returned (.bool (nodeOk r x)) ∧ Below w.heap.size w w' := by
  rcases want_cases x r with ⟨h, e⟩ | ⟨h, e⟩ | ⟨h, e⟩ | ⟨h, e⟩ | ⟨h, e⟩ | ⟨h, e⟩ | ⟨h, e⟩
  all_goals rw [e]
  · exact node_none x r w hx hk h
  · exact node_bare x r w hx hk h
  · exact node_set x r w hx hk h
  · exact node_text x r w hx hk h
  · exact node_call x r w hx hk h
  · exact node_many x r w hx hk h
  · exact node_one x r w hx hk h
end Go.Proofs.YtkimkghldilliaaGreat
