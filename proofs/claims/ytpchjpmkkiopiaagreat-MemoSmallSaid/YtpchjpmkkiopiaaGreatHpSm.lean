import Derived.Test.YtpchjpmkkiopiaaGreatHpDm
namespace Go.Proofs.YtpchjpmkkiopiaaGreat
open Go.RowKit Go.Lib

/-- blocks that no call may write (another queue's). -/
class Watch where
  W : Nat → Prop
  lim : Nat
  lt : ∀ k, W k → k < lim
instance (priority := low) noWatch : Watch := ⟨fun _ => False, 0, fun _ h => h.elim⟩

/-- what a heap's call may write: rows, entries, maps that lie from base on. -/
def FootH [Watch] (base : Nat) (w : World) (k : Nat) : Prop := (base ≤ k ∧ ¬ Watch.W k) ∧ match w.heap[k]? with
  | some (.cells _ t _) => t ∈ [111, 133]
  | some (.map _ _) => True
  | _ => False
abbrev KeepH [Watch] (base : Nat) (w w' : World) : Prop := Keeps (FootH base w) w w'
theorem FootH.eq [Watch] {base : Nat} {w w' : World} {k : Nat} (h : w'.heap[k]? = w.heap[k]?) : FootH base w' k ↔ FootH base w k := by unfold FootH; rw [h]
theorem KeepH.trans [Watch] {base : Nat} {a b c : World} (h : KeepH base a b) (k : KeepH base b c) : KeepH base a c :=
  ⟨k.os.trans h.os, k.tape.trans h.tape, k.output.trans h.output, Nat.le_trans h.size k.size, fun i hi hn => by
    have e := h.block i hi hn
    exact (k.block i (Nat.lt_of_lt_of_le hi h.size) (fun hb => hn ((FootH.eq e).1 hb))).trans e⟩
theorem KeepH.below [Watch] {base : Nat} {a b : World} (h : KeepH base a b) (hB : base ≤ a.heap.size) : Below base a b := Keeps.below h hB fun _ hk => hk.1.1
theorem KeepH.ofBelow [Watch] {base : Nat} {a b : World} (h : Below a.heap.size a b) : KeepH base a b := Keeps.ofNew h _
theorem KeepH.cells [Watch] {base : Nat} {a b : World} (h : KeepH base a b) {k : Nat} {cs : Array Value} {t : TypeId} {fr : Nat × Nat} (hk : a.heap[k]? = some (.cells cs t fr)) (ht : t ∉ [111, 133]) : b.heap[k]? = some (.cells cs t fr) :=
  Keeps.obj h hk fun hS => ht (by have := hS.2; rw [hk] at this; exact this)
theorem KeepH.ofMap [Watch] {base m s : Nat} {f : Int → Option Nat} {a b : World} (hm : MapFn a m s f) (hb : base ≤ m) (hn : ¬ Watch.W m) (h : Keeps (· = m) a b) : KeepH base a b := Keeps.mono h fun k _ e => by
  subst e
  obtain ⟨D, ⟨es, clock, h1, -⟩, -⟩ := hm
  exact ⟨⟨hb, hn⟩, by rw [h1]; trivial⟩

theorem enc_len (e : En) : (enc e).length = 3 := rfl
theorem enc_one (e : En) : ∀ u ∈ enc e, u.oneCell' = true := by intro u hu; simp [enc] at hu; rcases hu with rfl | rfl | rfl <;> rfl
theorem flat_set3 (e : En) : ∀ (L : List En) (i : Nat), i < L.length → (((L.flatMap enc).set (i * 3) (.int .i64 e.key)).set (i * 3 + 1) (.int .i64 e.name)).set (i * 3 + 2) (.int .i64 e.turn) = (L.set i e).flatMap enc
  | [], i, h => by simp at h
  | a :: r, 0, _ => by simp [enc]
  | a :: r, i + 1, h => by
    have ih := flat_set3 e r i (by simpa using h)
    have e1 : (i + 1) * 3 = i * 3 + 3 := by omega
    have e2 : (i + 1) * 3 + 1 = (i * 3 + 1) + 3 := by omega
    have e3 : (i + 1) * 3 + 2 = (i * 3 + 2) + 3 := by omega
    simp only [List.flatMap_cons, List.set_cons_succ, e1, e2, e3]
    rw [← ih]
    simp [enc]
/-- a thing of a row that is owned: its cells. -/
theorem row3 {w : World} {base g n cap : Nat} {t : TypeId} {L : List En} (h : w.ownsRow base t 3 (.slice (some ⟨g, 0, none⟩) n cap) n (L.flatMap enc)) (i : Nat) (hi : i < L.length) :
    (w.cell? ⟨g, i * 3, none⟩ = some (.int .i64 (pos L i).key) ∧ w.cell? ⟨g, i * 3 + 1, none⟩ = some (.int .i64 (pos L i).name) ∧ w.cell? ⟨g, i * 3 + 2, none⟩ = some (.int .i64 (pos L i).turn)) ∧
    w.frozen? ⟨g, i * 3, none⟩ = false ∧ w.frozen? ⟨g, i * 3 + 1, none⟩ = false ∧ w.frozen? ⟨g, i * 3 + 2, none⟩ = false := by
  have hn : L.length = n := by have := h.1; rw [flat_len enc_len] at this; omega
  obtain ⟨g', cap', cur, hv, -, hg, -, -, -, ht⟩ := h.2.resolve_left (fun h => by simp at h)
  simp only [Value.slice.injEq, Option.some.injEq, Addr.mk.injEq] at hv
  obtain ⟨⟨rfl, -⟩, -⟩ := hv
  have hc : ∀ c, c < 3 → cur[i * 3 + c]? = (enc (L[i]))[c]? := fun c hc => by
    have := flat_get enc_len L i c hi hc
    rw [← ht, List.getElem?_take_of_lt (by omega)] at this
    simpa using this
  have h0 := hc 0 (by omega)
  have h1 := hc 1 (by omega)
  have h2 := hc 2 (by omega)
  rw [pos_get hi]
  exact ⟨⟨(block_cell' hg _).1.trans h0, (block_cell' hg _).1.trans h1, (block_cell' hg _).1.trans h2⟩, (block_cell' hg _).2, (block_cell' hg _).2, (block_cell' hg _).2⟩
theorem row_put3 {w : World} {base g n cap : Nat} {t : TypeId} {L : List En} (h : w.ownsRow base t 3 (.slice (some ⟨g, 0, none⟩) n cap) n (L.flatMap enc)) (i : Nat) (hi : i < L.length) (e : En) :
    (((w.setCell ⟨g, i * 3, none⟩ (.int .i64 e.key)).setCell ⟨g, i * 3 + 1, none⟩ (.int .i64 e.name)).setCell ⟨g, i * 3 + 2, none⟩ (.int .i64 e.turn)).ownsRow base t 3 (.slice (some ⟨g, 0, none⟩) n cap) n ((L.set i e).flatMap enc) ∧
    Keeps (fun k => k = g) w (((w.setCell ⟨g, i * 3, none⟩ (.int .i64 e.key)).setCell ⟨g, i * 3 + 1, none⟩ (.int .i64 e.name)).setCell ⟨g, i * 3 + 2, none⟩ (.int .i64 e.turn)) := by
  obtain ⟨g', cap', cur, hv, hb, hg, h1, h2, h3, ht⟩ := h.2.resolve_left (fun h => by simp at h)
  simp only [Value.slice.injEq, Option.some.injEq, Addr.mk.injEq] at hv
  obtain ⟨⟨rfl, -⟩, -, rfl⟩ := hv
  refine ⟨⟨by have := h.1; rw [flat_len enc_len] at this ⊢; simpa using this, .inr ⟨g, cap, _, rfl, hb, block_setCell' (block_setCell' (block_setCell' hg)), h1, h2, by simpa using h3, ?_⟩⟩, (((Keeps.refl (fun k => k = g) w).setCell (p := ⟨g, i * 3, none⟩) rfl _).setCell (p := ⟨g, i * 3 + 1, none⟩) rfl _).setCell (p := ⟨g, i * 3 + 2, none⟩) rfl _⟩
  rw [Array.toList_setIfInBounds, Array.toList_setIfInBounds, Array.toList_setIfInBounds, List.take_set, List.take_set, List.take_set, ht]
  exact flat_set3 e L i hi
/-- a row of things that wait, in memory. -/
structure RowIs [Watch] (base : Nat) (w : World) (r m : Nat) (lv : Value) (L : List En) : Prop where
  blk : w.heap[r]? = some (.cells #[lv, .map (some m)] 111 (0, 0))
  row : w.ownsRow base 133 3 lv L.length (L.flatMap enc)
  fn : MapFn w m L.length (whr L)
  once : Once L
  wf : ∀ e ∈ L, (kx e.name).wf = true
  br : base ≤ r
  bm : base ≤ m
  le : L.length ≤ 100000
  nr : ¬ Watch.W r
  nm : ¬ Watch.W m
  nl : ∀ k, lv.ownBlock = some k → ¬ Watch.W k
  lim : Watch.lim ≤ w.heap.size
theorem row_kept {S : Nat → Prop} {w w' : World} {base C n : Nat} {e : TypeId} {v : Value} {xs : List Value} (hr : w.ownsRow base e C v n xs) (hk : Keeps S w w') (hn : ∀ k cs, w.heap[k]? = some (.cells cs e (0, 0)) → ¬ S k) : w'.ownsRow base e C v n xs := by
  refine Keeps.row hk hr fun k hkk hS => ?_
  rcases hr.2 with ⟨rfl, _⟩ | ⟨g, cap, cur, rfl, _, hg, _⟩
  · simp [Value.ownBlock] at hkk
  · simp [Value.ownBlock] at hkk
    subst hkk
    exact hn _ _ hg hS
theorem RowIs.later [Watch] {base : Nat} {w w' : World} {r m : Nat} {lv : Value} {L : List En} (h : RowIs base w r m lv L) (hb : Below w.heap.size w w') : RowIs base w' r m lv L :=
  ⟨(hb.block _ (lt_of_block h.blk)).trans h.blk, row_kept (S := fun _ => False) h.row (Keeps.ofNew hb _) (fun _ _ _ h => h), h.fn.keeps (S := fun _ => False) (Keeps.ofNew hb _) (fun h => h), h.once, h.wf, h.br, h.bm, h.le, h.nr, h.nm, h.nl, Nat.le_trans h.lim hb.size⟩
theorem RowIs.cells [Watch] {base : Nat} {w : World} {r m : Nat} {lv : Value} {L : List En} (h : RowIs base w r m lv L) : w.cell? ⟨r, 0, none⟩ = some lv ∧ w.cell? ⟨r, 1, none⟩ = some (.map (some m)) ∧ w.frozen? ⟨r, 0, none⟩ = false := by
  simp [World.cell?, World.frozen?, h.blk]
end Go.Proofs.YtpchjpmkkiopiaaGreat
namespace Go.Proofs.YtpchjpmkkiopiaaGreat
open Go.RowKit Go.Lib

set_option maxHeartbeats 400000 in
theorem rLen_any [Watch] {base r m : Nat} {lv : Value} {L : List En} (w : World) (h : RowIs base w r m lv L) : Calls Tryz.prog 114 #[.pointer (some ⟨r, 0, none⟩)] w fun e w' => e = .returned (.int .i64 L.length) ∧ w = w' := by
  obtain ⟨c0, -, -⟩ := h.cells
  obtain ⟨ao, cap, rfl⟩ := own_val h.row
  obtain ⟨n, hn⟩ : ∃ n, n = L.length := ⟨_, rfl⟩
  rw [← hn] at c0 ⊢
  clear h hn
  go_enter Tryz.func114, Tryz.ntmps114
  go_wp2
  go_ret
  exact ⟨rfl, rfl⟩
set_option maxRecDepth 100000 in
set_option maxHeartbeats 2000000 in
theorem rLess_any [Watch] {base r m : Nat} {lv : Value} {L : List En} (i j : Nat) (w : World) (h : RowIs base w r m lv L) (hi : i < L.length) (hj : j < L.length) :
    Calls Tryz.prog 115 #[.pointer (some ⟨r, 0, none⟩), .int .i64 i, .int .i64 j] w fun e w' => e = .returned (.bool (decide (En.lt (pos L i) (pos L j)))) ∧ Below w.heap.size w w' := by
  have hd : decide (En.lt (pos L i) (pos L j)) = decide (cmpE (pos L i) (pos L j) < 0) := decide_eq_decide.2 (cmpE_lt _ _).symm
  have HD := Lib.hid hd
  have hr := h.row
  have hle := h.le
  obtain ⟨c0, -, -⟩ := h.cells
  obtain ⟨g, cap, rfl⟩ := own_shape hr (by omega)
  obtain ⟨⟨a0, a1, a2⟩, -⟩ := row3 hr i hi
  obtain ⟨⟨b0, b1, b2⟩, -⟩ := row3 hr j hj
  have R0 := Lib.hid c0
  have A0 := Lib.hid a0
  have A1 := Lib.hid a1
  have A2 := Lib.hid a2
  have B0 := Lib.hid b0
  have B1 := Lib.hid b1
  have B2 := Lib.hid b2
  obtain ⟨n, hn⟩ : ∃ n, n = L.length := ⟨_, rfl⟩
  rw [← hn] at R0 hle hi hj
  have hi' : (i : Int) < n := by omega
  have hj' : (j : Int) < n := by omega
  clear h hr c0 a0 a1 a2 b0 b1 b2 hd hn
  go_enter Tryz.func115, Tryz.ntmps115
  go_upto_region 1 with (fail)
  refine wp_region_held_drew (S := fun wq => Below w.heap.size w wq) (by kernel_rfl) ((Below.refl _ _).drew) (fun hS => ?_)
  refine wpAnyH_take (i := 0) (oi := ⟨_, _, _, _, _, _⟩) (v := ?v1) rfl (by kernel_rfl) (by kernel_rfl) (by kernel_rfl) (fun _ _ _ h => h) ?y1 hS ?_
  case y1 => first | (refine Or.inr ⟨by rfl, ?_⟩; with_reducible rfl) | (refine Or.inl ⟨by rfl, ?_⟩; intro wS hSw; have r0S := cell_later hSw R0.out; have a0S := cell_later hSw A0.out; have a1S := cell_later hSw A1.out; have a2S := cell_later hSw A2.out; have b0S := cell_later hSw B0.out; have b1S := cell_later hSw B1.out; have b2S := cell_later hSw B2.out; go_simp; try with_reducible rfl)
  simp only [Act.put, List.setIfInBounds_toArray, List.set_cons_zero, List.set_cons_succ]
  refine wpAnyH_take (i := 1) (oi := ⟨_, _, _, _, _, _⟩) (v := ?v2) rfl (by kernel_rfl) (by kernel_rfl) (by kernel_rfl) (fun _ _ _ h => h) ?y2 hS ?_
  case y2 => first | (refine Or.inr ⟨by rfl, ?_⟩; with_reducible rfl) | (refine Or.inl ⟨by rfl, ?_⟩; intro wS hSw; have r0S := cell_later hSw R0.out; have a0S := cell_later hSw A0.out; have a1S := cell_later hSw A1.out; have a2S := cell_later hSw A2.out; have b0S := cell_later hSw B0.out; have b1S := cell_later hSw B1.out; have b2S := cell_later hSw B2.out; go_simp; try with_reducible rfl)
  simp only [Act.put, List.setIfInBounds_toArray, List.set_cons_zero, List.set_cons_succ]
  refine wpAnyH_take (i := 2) (oi := ⟨_, _, _, _, _, _⟩) (v := ?v3) rfl (by kernel_rfl) (by kernel_rfl) (by kernel_rfl) (fun _ _ _ h => h) ?y3 hS ?_
  case y3 => first | (refine Or.inr ⟨by rfl, ?_⟩; with_reducible rfl) | (refine Or.inl ⟨by rfl, ?_⟩; intro wS hSw; have r0S := cell_later hSw R0.out; have a0S := cell_later hSw A0.out; have a1S := cell_later hSw A1.out; have a2S := cell_later hSw A2.out; have b0S := cell_later hSw B0.out; have b1S := cell_later hSw B1.out; have b2S := cell_later hSw B2.out; go_simp; try with_reducible rfl)
  simp only [Act.put, List.setIfInBounds_toArray, List.set_cons_zero, List.set_cons_succ]
  refine wpAnyH_take (i := 3) (oi := ⟨_, _, _, _, _, _⟩) (v := ?v4) rfl (by kernel_rfl) (by kernel_rfl) (by kernel_rfl) (fun _ _ _ h => h) ?y4 hS ?_
  case y4 => first | (refine Or.inr ⟨by rfl, ?_⟩; with_reducible rfl) | (refine Or.inl ⟨by rfl, ?_⟩; intro wS hSw; have r0S := cell_later hSw R0.out; have a0S := cell_later hSw A0.out; have a1S := cell_later hSw A1.out; have a2S := cell_later hSw A2.out; have b0S := cell_later hSw B0.out; have b1S := cell_later hSw B1.out; have b2S := cell_later hSw B2.out; go_simp; try with_reducible rfl)
  simp only [Act.put, List.setIfInBounds_toArray, List.set_cons_zero, List.set_cons_succ]
  refine wpAnyH_take (i := 4) (oi := ⟨_, _, _, _, _, _⟩) (v := ?v5) rfl (by kernel_rfl) (by kernel_rfl) (by kernel_rfl) (fun _ _ _ h => h) ?y5 hS ?_
  case y5 => first | (refine Or.inr ⟨by rfl, ?_⟩; with_reducible rfl) | (refine Or.inl ⟨by rfl, ?_⟩; intro wS hSw; have r0S := cell_later hSw R0.out; have a0S := cell_later hSw A0.out; have a1S := cell_later hSw A1.out; have a2S := cell_later hSw A2.out; have b0S := cell_later hSw B0.out; have b1S := cell_later hSw B1.out; have b2S := cell_later hSw B2.out; go_simp; try with_reducible rfl)
  simp only [Act.put, List.setIfInBounds_toArray, List.set_cons_zero, List.set_cons_succ]
  refine wpAnyH_take (i := 5) (oi := ⟨_, _, _, _, _, _⟩) (v := ?v6) rfl (by kernel_rfl) (by kernel_rfl) (by kernel_rfl) (fun _ _ _ h => h) ?y6 hS ?_
  case y6 => first | (refine Or.inr ⟨by rfl, ?_⟩; with_reducible rfl) | (refine Or.inl ⟨by rfl, ?_⟩; intro wS hSw; have r0S := cell_later hSw R0.out; have a0S := cell_later hSw A0.out; have a1S := cell_later hSw A1.out; have a2S := cell_later hSw A2.out; have b0S := cell_later hSw B0.out; have b1S := cell_later hSw B1.out; have b2S := cell_later hSw B2.out; go_simp; try with_reducible rfl)
  simp only [Act.put, List.setIfInBounds_toArray, List.set_cons_zero, List.set_cons_succ]
  refine wpAnyH_take (i := 6) (oi := ⟨_, _, _, _, _, _⟩) (v := ?v7) rfl (by kernel_rfl) (by kernel_rfl) (by kernel_rfl) (fun _ _ _ h => h) ?y7 hS ?_
  case y7 => first | (refine Or.inr ⟨by rfl, ?_⟩; with_reducible rfl) | (refine Or.inl ⟨by rfl, ?_⟩; intro wS hSw; have r0S := cell_later hSw R0.out; have a0S := cell_later hSw A0.out; have a1S := cell_later hSw A1.out; have a2S := cell_later hSw A2.out; have b0S := cell_later hSw B0.out; have b1S := cell_later hSw B1.out; have b2S := cell_later hSw B2.out; go_simp; try with_reducible rfl)
  simp only [Act.put, List.setIfInBounds_toArray, List.set_cons_zero, List.set_cons_succ]
  refine wpAnyH_take (i := 7) (oi := ⟨_, _, _, _, _, _⟩) (v := ?v8) rfl (by kernel_rfl) (by kernel_rfl) (by kernel_rfl) (fun _ _ _ h => h) ?y8 hS ?_
  case y8 => first | (refine Or.inr ⟨by rfl, ?_⟩; with_reducible rfl) | (refine Or.inl ⟨by rfl, ?_⟩; intro wS hSw; have r0S := cell_later hSw R0.out; have a0S := cell_later hSw A0.out; have a1S := cell_later hSw A1.out; have a2S := cell_later hSw A2.out; have b0S := cell_later hSw B0.out; have b1S := cell_later hSw B1.out; have b2S := cell_later hSw B2.out; go_simp; try with_reducible rfl)
  simp only [Act.put, List.setIfInBounds_toArray, List.set_cons_zero, List.set_cons_succ]
  refine wpAnyH_take (i := 8) (oi := ⟨_, _, _, _, _, _⟩) (v := ?v9) rfl (by kernel_rfl) (by kernel_rfl) (by kernel_rfl) (fun _ _ _ h => h) ?y9 hS ?_
  case y9 => first | (refine Or.inr ⟨by rfl, ?_⟩; with_reducible rfl) | (refine Or.inl ⟨by rfl, ?_⟩; intro wS hSw; have r0S := cell_later hSw R0.out; have a0S := cell_later hSw A0.out; have a1S := cell_later hSw A1.out; have a2S := cell_later hSw A2.out; have b0S := cell_later hSw B0.out; have b1S := cell_later hSw B1.out; have b2S := cell_later hSw B2.out; go_simp; try with_reducible rfl)
  simp only [Act.put, List.setIfInBounds_toArray, List.set_cons_zero, List.set_cons_succ]
  refine wpAnyH_take (i := 9) (oi := ⟨_, _, _, _, _, _⟩) (v := ?v10) rfl (by kernel_rfl) (by kernel_rfl) (by kernel_rfl) (fun _ _ _ h => h) ?y10 hS ?_
  case y10 => first | (refine Or.inr ⟨by rfl, ?_⟩; with_reducible rfl) | (refine Or.inl ⟨by rfl, ?_⟩; intro wS hSw; have r0S := cell_later hSw R0.out; have a0S := cell_later hSw A0.out; have a1S := cell_later hSw A1.out; have a2S := cell_later hSw A2.out; have b0S := cell_later hSw B0.out; have b1S := cell_later hSw B1.out; have b2S := cell_later hSw B2.out; go_simp; try with_reducible rfl)
  simp only [Act.put, List.setIfInBounds_toArray, List.set_cons_zero, List.set_cons_succ]
  refine wpAnyH_take (i := 10) (oi := ⟨_, _, _, _, _, _⟩) (v := ?v11) rfl (by kernel_rfl) (by kernel_rfl) (by kernel_rfl) (fun _ _ _ h => h) ?y11 hS ?_
  case y11 => first | (refine Or.inr ⟨by rfl, ?_⟩; with_reducible rfl) | (refine Or.inl ⟨by rfl, ?_⟩; intro wS hSw; have r0S := cell_later hSw R0.out; have a0S := cell_later hSw A0.out; have a1S := cell_later hSw A1.out; have a2S := cell_later hSw A2.out; have b0S := cell_later hSw B0.out; have b1S := cell_later hSw B1.out; have b2S := cell_later hSw B2.out; go_simp; try with_reducible rfl)
  simp only [Act.put, List.setIfInBounds_toArray, List.set_cons_zero, List.set_cons_succ]
  refine wpAnyH_take (i := 11) (oi := ⟨_, _, _, _, _, _⟩) (v := ?v12) rfl (by kernel_rfl) (by kernel_rfl) (by kernel_rfl) (fun _ _ _ h => h) ?y12 hS ?_
  case y12 => first | (refine Or.inr ⟨by rfl, ?_⟩; with_reducible rfl) | (refine Or.inl ⟨by rfl, ?_⟩; intro wS hSw; have r0S := cell_later hSw R0.out; have a0S := cell_later hSw A0.out; have a1S := cell_later hSw A1.out; have a2S := cell_later hSw A2.out; have b0S := cell_later hSw B0.out; have b1S := cell_later hSw B1.out; have b2S := cell_later hSw B2.out; go_simp; try with_reducible rfl)
  simp only [Act.put, List.setIfInBounds_toArray, List.set_cons_zero, List.set_cons_succ]
  refine wpAnyH_take (i := 12) (oi := ⟨_, _, _, _, _, _⟩) (v := ?v13) rfl (by kernel_rfl) (by kernel_rfl) (by kernel_rfl) (fun _ _ _ h => h) ?y13 hS ?_
  case y13 => first | (refine Or.inr ⟨by rfl, ?_⟩; with_reducible rfl) | (refine Or.inl ⟨by rfl, ?_⟩; intro wS hSw; have r0S := cell_later hSw R0.out; have a0S := cell_later hSw A0.out; have a1S := cell_later hSw A1.out; have a2S := cell_later hSw A2.out; have b0S := cell_later hSw B0.out; have b1S := cell_later hSw B1.out; have b2S := cell_later hSw B2.out; go_simp; try with_reducible rfl)
  simp only [Act.put, List.setIfInBounds_toArray, List.set_cons_zero, List.set_cons_succ]
  refine wpAnyH_take (i := 13) (oi := ⟨_, _, _, _, _, _⟩) (v := ?v14) rfl (by kernel_rfl) (by kernel_rfl) (by kernel_rfl) (fun _ _ _ h => h) ?y14 hS ?_
  case y14 => first | (refine Or.inr ⟨by rfl, ?_⟩; with_reducible rfl) | (refine Or.inl ⟨by rfl, ?_⟩; intro wS hSw; have r0S := cell_later hSw R0.out; have a0S := cell_later hSw A0.out; have a1S := cell_later hSw A1.out; have a2S := cell_later hSw A2.out; have b0S := cell_later hSw B0.out; have b1S := cell_later hSw B1.out; have b2S := cell_later hSw B2.out; go_simp; try with_reducible rfl)
  simp only [Act.put, List.setIfInBounds_toArray, List.set_cons_zero, List.set_cons_succ]
  refine wpAnyH_ready (rs := [14]) (by kernel_rfl) (by simp) ?_
  refine AllReadyH.cons (o := ⟨_, _, _, _, _, _⟩) rfl (fun K hK => ?_) AllReadyH.nil
  go_simp
  refine (compare_any (pos L i) (pos L j) _).mono ?_
  rintro e wx ⟨rfl, hbx⟩
  have hS : Below w.heap.size w wx := hS.trans (hbx.mono hS.size)
  go_wp2_with fail
  refine hK.out _ _ hS (fun _ => ?_)
  clear hK K
  try simp only [Act.put, List.setIfInBounds_toArray, List.set_cons_zero, List.set_cons_succ]
  refine wpAnyH_take (i := 15) (oi := ⟨_, _, _, _, _, _⟩) (v := ?v15) rfl (by kernel_rfl) (by kernel_rfl) (by kernel_rfl) (fun _ _ _ h => h) ?y15 hS ?_
  case y15 => first | (refine Or.inr ⟨by rfl, ?_⟩; with_reducible rfl) | (refine Or.inl ⟨by rfl, ?_⟩; intro wS hSw; have r0S := cell_later hSw R0.out; have a0S := cell_later hSw A0.out; have a1S := cell_later hSw A1.out; have a2S := cell_later hSw A2.out; have b0S := cell_later hSw B0.out; have b1S := cell_later hSw B1.out; have b2S := cell_later hSw B2.out; go_simp; try with_reducible rfl)
  simp only [Act.put, List.setIfInBounds_toArray, List.set_cons_zero, List.set_cons_succ]
  refine wpAnyH_take (i := 16) (oi := ⟨_, _, _, _, _, _⟩) (v := ?v16) rfl (by kernel_rfl) (by kernel_rfl) (by kernel_rfl) (fun _ _ _ h => h) ?y16 hS ?_
  case y16 => first | (refine Or.inr ⟨by rfl, ?_⟩; with_reducible rfl) | (refine Or.inl ⟨by rfl, ?_⟩; intro wS hSw; have r0S := cell_later hSw R0.out; have a0S := cell_later hSw A0.out; have a1S := cell_later hSw A1.out; have a2S := cell_later hSw A2.out; have b0S := cell_later hSw B0.out; have b1S := cell_later hSw B1.out; have b2S := cell_later hSw B2.out; go_simp; try with_reducible rfl)
  simp only [Act.put, List.setIfInBounds_toArray, List.set_cons_zero, List.set_cons_succ]
  refine wpAnyH_done (by kernel_rfl) ?_ _
  have HS := Lib.hid hS
  clear hS
  go_wp2
  go_ret
  exact ⟨by rw [HD.out]; rfl, HS.out⟩
end Go.Proofs.YtpchjpmkkiopiaaGreat
