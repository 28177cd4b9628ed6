import Derived.Test.YtadkjjpopmiceaaGreatTarm
import Derived.Lib.AppendZeros
import Derived.Laws.IdiomCopy
namespace Go.Proofs.YtadkjjpopmiceaaGreat
open Go.RowKit Go.Lib

theorem run_clear_cells {P : Program} (w : World) (t e ty : TypeId) (z : Value) (ht : P.underlying t = some (.slice e)) (hv : ∀ w, (zeroValue e).run P w = .ok z w) (b o n c : Nat) (zs : List Value) (hz : (Builtin.zeroCells z.cells n).toList = zs) (h1 : ∀ u ∈ zs, u.oneCell' = true) (hn : 0 < n)
    (hc : ∀ j, j < zs.length → (w.cell? ⟨b, o + j, none⟩).isSome = true) (hf : ∀ j, j < zs.length → w.frozen? ⟨b, o + j, none⟩ = false) :
    (Builtin.clear_ #[t] ty #[.slice (some ⟨b, o, none⟩) n c]).run P w = .ok (.tuple #[]) (w.setCells b o zs) := by
  have hst := run_storeCells_cells (P := P) b o zs 0 w (by simpa using hc) (by simpa using hf) h1
  simp only [Nat.add_zero] at hst
  obtain ⟨m, rfl⟩ : ∃ m, n = m + 1 := ⟨n - 1, by omega⟩
  simp [Builtin.clear_, run_underlying ht, hv, hz, hst]
theorem wpList_clear_run {P : Program} (w : World) {ops : Array Oper} {rest : List Oper} {o : Oper} {a : Act} {Q : Exit → Act → World → Prop} (hgd : o.guard = none) (x : Operand) (t : TypeId)
    (ho : o.op = .call { callee := .builtin .clear, args := #[x], argTypes := #[t] }) (vx : Value) (hx : a.eval x = vx)
    (v' : Value) (w' : World) (hr : (Builtin.clear_ #[t] o.type #[vx]).run P w = .ok v' w') (h : wpList P ops Q rest (a.put o.dst v') w') : wpList P ops Q (o :: rest) a w := by
  refine wpList_plain hgd fun K hK => ?_
  unfold Oper.wp execOp
  simp only [ho, resolve, invoke, builtin, Sem.run_bind, Sem.run_pure, Result.andThen_ok, List.map_toArray, List.map_cons, List.map_nil, hx, hr]
  exact hK _ _ h
abbrev zTw : Value := .agg #[.int .i64 0, .int .i64 0, .int .i64 0, .int .i64 0, .int .i64 0]
theorem zTw_cells : zTw.cells = #[.int .i64 0, .int .i64 0, .int .i64 0, .int .i64 0, .int .i64 0] := rfl
theorem zeros_len (n : Nat) : (Builtin.zeroCells zTw.cells n).toList.length = n * 5 := by
  rw [zTw_cells]
  simp [Builtin.zeroCells]
theorem zeros_one (n : Nat) : ∀ u ∈ (Builtin.zeroCells zTw.cells n).toList, u.oneCell' = true := by
  intro u hu
  rw [zTw_cells] at hu
  simp [Builtin.zeroCells] at hu
  obtain ⟨i, hi, rfl⟩ := hu
  have : i % 5 < 5 := Nat.mod_lt _ (by omega)
  rcases (show i % 5 = 0 ∨ i % 5 = 1 ∨ i % 5 = 2 ∨ i % 5 = 3 ∨ i % 5 = 4 by omega) with h | h | h | h | h <;> simp [h] <;> rfl
/-- cells from m on are written: the first m stay. -/
theorem own_cut {w : World} {B g n m cap : Nat} {l : List Tw} (h : w.ownsRow B 45 5 (.slice (some ⟨g, 0, none⟩) n cap) n (tvs l)) (hm : m ≤ n) (vs : List Value) (hv : m * 5 + vs.length ≤ cap * 5) :
    (w.setCells g (m * 5) vs).ownsRow B 45 5 (.slice (some ⟨g, 0, none⟩) m cap) m (tvs (l.take m)) := by
  have h1 := own_takeC twc_len (by omega) h hm
  obtain ⟨h0, hb, cur, hg, k1, k2, k3, ht⟩ := own_open h1
  have hh := heap_setCells_at vs (m * 5) w cur hg (by omega)
  have hcs : cur.toList.length = cap * 5 := by simpa using k3
  refine own_shut h0 hb hh k1 k2 ?_ ?_
  · rw [List.size_toArray, List.length_append, List.length_append, List.length_take, List.length_drop]
    omega
  · rw [List.append_assoc, List.take_append_of_le_length (by rw [List.length_take]; omega), List.take_take, Nat.min_self]
    exact ht
theorem Tryz.zeroTwig (w : World) : (zeroValue 45).run Tryz.prog w = .ok zTw w := by kernel_rfl
theorem tDel_nil (w : World) : Calls Tryz.prog 112 #[.slice none 0 0, .int .i64 0, .int .i64 0] w fun e w' => e = .returned (.slice none 0 0) ∧ w = w' := by
  go_enter Tryz.func112, Tryz.ntmps112
  go_wp2
  go_ret
  exact ⟨rfl, rfl⟩
def TDel (B : Nat) (w : World) (g cap m : Nat) (l : List Tw) (w' : World) : Prop :=
  w'.ownsRow B 45 5 (.slice (some ⟨g, 0, none⟩) m cap) m (tvs (l.take m)) ∧ Keeps (fun k => k = g) w w'
set_option maxRecDepth 100000 in
set_option maxHeartbeats 2000000 in
theorem tDel {B g cap m n : Nat} {l : List Tw} (w : World) (h : w.ownsRow B 45 5 (.slice (some ⟨g, 0, none⟩) n cap) n (tvs l)) (hm : m ≤ n) (hc : cap ≤ 9223372036854775807) :
    Calls Tryz.prog 112 #[.slice (some ⟨g, 0, none⟩) n cap, .int .i64 m, .int .i64 n] w fun e w' => e = .returned (.slice (some ⟨g, 0, none⟩) m cap) ∧ TDel B w g cap m l w' := by
  have H := Lib.hid h
  have hl := own_rowsC twc_len (by omega) h
  have hnc := own_cap h
  obtain ⟨hn1, -⟩ := hnc
  have HL := Lib.hid hl
  clear h hl
  by_cases hmn : m = n
  · subst hmn
    have HT := Lib.hid (show l.take m = l from List.take_of_length_le (by rw [HL.out]; exact Nat.le_refl _))
    by_cases hcap : m = cap
    · subst hcap
      go_enter Tryz.func112, Tryz.ntmps112
      go_wp2
      go_ret
      exact ⟨rfl, by rw [TDel, HT.out]; exact ⟨H.out, Keeps.refl _ _⟩⟩
    · have hmc : (m : Int) < cap := by omega
      have hmc2 : m < cap := by omega
      go_enter Tryz.func112, Tryz.ntmps112
      go_wp2
      go_ret
      exact ⟨rfl, by rw [TDel, HT.out]; exact ⟨H.out, Keeps.refl _ _⟩⟩
  · have hm1 : m < n := by omega
    have hm2 : (m : Int) < n := by omega
    have hmi : (m : Int) ≤ n := by omega
    have hni : (n : Int) ≤ cap := by omega
    have hq : ((m : Int) == (n : Int)) = false := by simp; omega
    by_cases hcap : n = cap
    · subst hcap
      go_enter Tryz.func112, Tryz.ntmps112
      go_wp2
      go_region
      all_goals go_upto_region 6 with (fail)
      all_goals
        obtain ⟨zs, hzs⟩ : ∃ zs, zs = (Builtin.zeroCells zTw.cells (n - m)).toList := ⟨_, rfl⟩
        have hzl := zeros_len (n - m)
        have hz1 := zeros_one (n - m)
        rw [← hzs] at hzl hz1
        have hcc : ∀ j, j < zs.length → (w.drew.cell? ⟨g, m * 5 + j, none⟩).isSome = true ∧ w.drew.frozen? ⟨g, m * 5 + j, none⟩ = false := fun j hj => by
          obtain ⟨-, -, cur, hg, k1, k2, k3, -⟩ := own_open H.out
          have hb := block_cell' (w := w.drew) hg (m * 5 + j)
          rw [hb.1]
          refine ⟨?_, hb.2⟩
          rw [Array.getElem?_eq_getElem (show m * 5 + j < cur.size by omega)]
          rfl
        have HZ := Lib.hid (run_clear_cells (P := Tryz.prog) w.drew 22 45 0 zTw Tryz.underlying22 Tryz.zeroTwig g (m * 5) (n - m) (n - m) zs hzs.symm hz1 (by omega) (fun j hj => (hcc j hj).1) (fun j hj => (hcc j hj).2))
        have HZl := Lib.hid hzl
        clear hzl hz1 hcc hzs
        go_wp2_with (refine wpList_clear_run _ rfl (.tmp 31) 22 rfl _ (by rfl) (.tuple #[]) _ HZ.out ?_)
        go_ret
        exact ⟨rfl, own_cut (w := w.drew) H.out (by omega) zs (by have := HZl.out; omega), ((Keeps.refl (fun k => k = g) w).drew).trans (keeps_setCells zs (m * 5))⟩
    · have hni2 : (n : Int) < cap := by omega
      have hni3 : n < cap := by omega
      go_enter Tryz.func112, Tryz.ntmps112
      go_wp2
      go_region
      all_goals go_upto_region 6 with (fail)
      all_goals
        obtain ⟨zs, hzs⟩ : ∃ zs, zs = (Builtin.zeroCells zTw.cells (n - m)).toList := ⟨_, rfl⟩
        have hzl := zeros_len (n - m)
        have hz1 := zeros_one (n - m)
        rw [← hzs] at hzl hz1
        have hcc : ∀ j, j < zs.length → (w.drew.cell? ⟨g, m * 5 + j, none⟩).isSome = true ∧ w.drew.frozen? ⟨g, m * 5 + j, none⟩ = false := fun j hj => by
          obtain ⟨-, -, cur, hg, k1, k2, k3, -⟩ := own_open H.out
          have hb := block_cell' (w := w.drew) hg (m * 5 + j)
          rw [hb.1]
          refine ⟨?_, hb.2⟩
          rw [Array.getElem?_eq_getElem (show m * 5 + j < cur.size by omega)]
          rfl
        have HZ := Lib.hid (run_clear_cells (P := Tryz.prog) w.drew 22 45 0 zTw Tryz.underlying22 Tryz.zeroTwig g (m * 5) (n - m) (cap - m) zs hzs.symm hz1 (by omega) (fun j hj => (hcc j hj).1) (fun j hj => (hcc j hj).2))
        have HZl := Lib.hid hzl
        clear hzl hz1 hcc hzs
        go_wp2_with (refine wpList_clear_run _ rfl (.tmp 31) 22 rfl _ (by rfl) (.tuple #[]) _ HZ.out ?_)
        go_ret
        exact ⟨rfl, own_cut (w := w.drew) H.out (by omega) zs (by have := HZl.out; omega), ((Keeps.refl (fun k => k = g) w).drew).trans (keeps_setCells zs (m * 5))⟩
set_option maxHeartbeats 1000000 in
theorem arBack {B : Nat} {x : Nat} {v : Value} {l : List Tw} {most peak : Nat} (w : World) (m : Nat) (h : TAr B w x v l most peak) (hk : m ≤ l.length) :
    Calls Tryz.prog 82 #[.pointer (some ⟨x, 0, none⟩), .int .i64 m] w fun e w' => e = .returned (.int .i64 0) ∧ TNow B w x v (l.take m) most peak w' := by
  have H := Lib.hid h
  obtain ⟨h0, h1, h2, h3, h4⟩ := h.cells
  have hf := h4 0
  have hne : v.ownBlock ≠ some x := own_ne' h.1 (by decide) h.2.1
  obtain ⟨ao, cap, rfl, hl, hm, hnil, hao⟩ := h.shape
  have Hne := Lib.hid hne
  obtain ⟨n, hn⟩ : ∃ n, n = l.length := ⟨_, rfl⟩
  have HN := Lib.hid hn
  rw [← hn] at h0 hl hk
  have hmn : (m : Int) ≤ n := by omega
  cases ao with
  | none =>
    have hz := (hnil rfl).2
    have hc0 := (hnil rfl).1
    subst hz
    obtain rfl : n = 0 := by simpa using hn
    obtain rfl : m = 0 := by omega
    subst hc0
    clear h1 h2 h3 h4 hao hnil h hne hn hmn hk hl hm
    go_enter Tryz.func82, Tryz.ntmps82
    go_wp2_with (first | (go_at_call 107; refine (arThere _ H.out).mono ?_; rintro e w' ⟨rfl, rfl⟩))
    go_region_with ((go_at_call 112; refine (tDel_nil _).mono ?_; rintro e w1 ⟨rfl, rfl⟩))
    all_goals go_wp2
    all_goals go_ret
    all_goals
      have h := H.out
      refine ⟨rfl, .slice none 0 0, ⟨?_, World.ownsRow_nil _ _ _ _, by simp, h.2.2.2.1, h.2.2.2.2.1, by simp⟩, ((Keeps.refl _ _).setCell (Or.inl rfl) _).drew, fun k hk => .inl hk⟩
      exact block_setCell' h.1
  | some a =>
    obtain ⟨g, rfl, hg⟩ := hao a rfl
    have hgx : g ≠ x := fun e => Hne.out (by rw [← e]; rfl)
    have Hrow := Lib.hid (show w.ownsRow B 45 5 (.slice (some ⟨g, 0, none⟩) n cap) n (tvs l) from by
      have := h.2.1
      rwa [← hn] at this)
    have hxl := lt_of_block h.1
    clear h1 h2 h3 h4 hao hnil h hne hg hn
    go_enter Tryz.func82, Tryz.ntmps82
    go_wp2_with (first | (go_at_call 107; refine (arThere _ H.out).mono ?_; rintro e w' ⟨rfl, rfl⟩))
    go_region_with ((go_at_call 112; refine (tDel (B := B) _ (Hrow.out.drew) hk hm).mono ?_; rintro e w1 ⟨rfl, hdel⟩; obtain ⟨hd1, hd2⟩ := hdel; have hblk := hd2.obj (show w.drew.heap[x]? = _ from H.out.1) (Ne.symm hgx); have hcx := (block_cell' hblk 0).1; have hfx := (block_cell' hblk 0).2; have Hd1 := Lib.hid hd1; have Hd2 := Lib.hid hd2; have Hblk := Lib.hid hblk; clear hd1 hd2 hblk))
    all_goals go_wp2
    all_goals go_ret
    all_goals
      have h := H.out
      have hlen : (l.take m).length = m := by rw [List.length_take, ← HN.out]; omega
      refine ⟨rfl, .slice (some ⟨g, 0, none⟩) m cap, ⟨?_, ?_, ?_, h.2.2.2.1, h.2.2.2.2.1, ?_⟩, ?_, fun k hk => .inl hk⟩
      · exact block_setCell' Hblk.out
      · rw [hlen]
        refine ownsRow_setCell_other Hd1.out (a := ⟨x, 0, none⟩) ?_ _
        intro e; simp [Value.ownBlock] at e; exact hgx e
      · have := h.2.2.1; have := HN.out; rw [hlen]; omega
      · have := h.2.2.2.2.2; have := HN.out; rw [hlen]; omega
      · exact ((((Keeps.refl (fun k => k = x ∨ (Value.slice (some ⟨g, 0, none⟩) l.length cap).ownBlock = some k) w).drew).trans (Hd2.out.mono (fun k _ hk => Or.inr (congrArg some hk.symm)))).setCell (p := ⟨x, 0, none⟩) (Or.inl rfl) _)
set_option maxHeartbeats 1000000 in
theorem arBack_out {B : Nat} {x : Nat} {v : Value} {l : List Tw} {most peak : Nat} (w : World) (k : Int) (h : TAr B w x v l most peak) (hk : k < 0 ∨ l.length < k) :
    Calls Tryz.prog 82 #[.pointer (some ⟨x, 0, none⟩), .int .i64 k] w fun e w' => e = .returned (.int .i64 6) ∧ w = w' := by
  have H := Lib.hid h
  obtain ⟨h0, h1, h2, h3, h4⟩ := h.cells
  obtain ⟨ao, cap, rfl, hl, hm, hnil, hao⟩ := h.shape
  clear h1 h2 h3 h4 hao hnil h
  by_cases hk0 : k < 0
  · clear hk
    go_enter Tryz.func82, Tryz.ntmps82
    go_wp2_with (first | (go_at_call 107; refine (arThere _ H.out).mono ?_; rintro e w' ⟨rfl, rfl⟩))
    go_ret
    exact ⟨rfl, rfl⟩
  · have hk1 : 0 ≤ k := by omega
    have hk2 : (l.length : Int) < k := by omega
    clear hk hk0
    go_enter Tryz.func82, Tryz.ntmps82
    go_wp2_with (first | (go_at_call 107; refine (arThere _ H.out).mono ?_; rintro e w' ⟨rfl, rfl⟩))
    go_ret
    exact ⟨rfl, rfl⟩
end Go.Proofs.YtadkjjpopmiceaaGreat
