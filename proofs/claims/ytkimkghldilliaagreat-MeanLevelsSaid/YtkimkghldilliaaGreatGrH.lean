/-
  gram: rows of nodes and of rules are gone through.
-/
import Derived.Test.YtkimkghldilliaaGreatGrG
import Derived.Laws.StructEq
namespace Go.Proofs.YtkimkghldilliaaGreat
open Go.RowKit Go.Lib Go.Maps

/-- nodes, as they lie. -/
abbrev NdsAt (w : World) (v : Value) (N : List Nd) : Prop := RowsAt w 9 v (N.map ndc)
abbrev RusAt (w : World) (v : Value) (R : List Ru) : Prop := RowsAt w 2 v (R.map ruc)
theorem NdsAt.cells {w : World} {ao : Option Addr} {n cap : Nat} {N : List Nd} (h : NdsAt w (.slice ao n cap) N) : n = N.length ∧ N.length ≤ cap ∧ cap ≤ maxLen ∧ ∀ k (hk : k < N.length), ∃ b off, ao = some ⟨b, off, none⟩ ∧ b < w.heap.size ∧
    w.cell? ⟨b, off + k * 9, none⟩ = some (.int .i64 N[k].kind) ∧ w.cell? ⟨b, off + k * 9 + 1, none⟩ = some (.int .u64 N[k].c0) ∧ w.cell? ⟨b, off + k * 9 + 2, none⟩ = some (.int .u64 N[k].c1) ∧ w.cell? ⟨b, off + k * 9 + 3, none⟩ = some (.int .u64 N[k].c2) ∧ w.cell? ⟨b, off + k * 9 + 4, none⟩ = some (.int .u64 N[k].c3) ∧ w.cell? ⟨b, off + k * 9 + 5, none⟩ = some (.string N[k].text) ∧ w.cell? ⟨b, off + k * 9 + 6, none⟩ = some (.int .i64 N[k].rule) ∧ w.cell? ⟨b, off + k * 9 + 7, none⟩ = some (.int .i64 N[k].level) ∧ w.cell? ⟨b, off + k * 9 + 8, none⟩ = some (N[k].kv) := by
  obtain ⟨ao', b, off, cap', he, hl, hm, hn, ha, _, hc⟩ := h
  simp only [Value.slice.injEq, List.length_map] at he hl hn ha hc
  obtain ⟨rfl, rfl, rfl⟩ := he
  refine ⟨rfl, hl, hm, fun i hi => ⟨b, off, (ha (by omega)).1, (ha (by omega)).2, ?_⟩⟩
  have h := fun j hj => hc i hi j hj
  simp only [List.getElem_map] at h
  exact ⟨h 0 (by omega), h 1 (by omega), h 2 (by omega), h 3 (by omega), h 4 (by omega), h 5 (by omega), h 6 (by omega), h 7 (by omega), h 8 (by omega)⟩
theorem RusAt.cells {w : World} {ao : Option Addr} {n cap : Nat} {R : List Ru} (h : RusAt w (.slice ao n cap) R) : n = R.length ∧ R.length ≤ cap ∧ cap ≤ maxLen ∧ ∀ k (hk : k < R.length), ∃ b off, ao = some ⟨b, off, none⟩ ∧ b < w.heap.size ∧
    w.cell? ⟨b, off + k * 2, none⟩ = some (.string R[k].name) ∧ w.cell? ⟨b, off + k * 2 + 1, none⟩ = some (.int .i64 R[k].body) := by
  obtain ⟨ao', b, off, cap', he, hl, hm, hn, ha, _, hc⟩ := h
  simp only [Value.slice.injEq, List.length_map] at he hl hn ha hc
  obtain ⟨rfl, rfl, rfl⟩ := he
  refine ⟨rfl, hl, hm, fun i hi => ⟨b, off, (ha (by omega)).1, (ha (by omega)).2, ?_⟩⟩
  have h := fun j hj => hc i hi j hj
  simp only [List.getElem_map] at h
  exact ⟨h 0 (by omega), h 1 (by omega)⟩
/-- a node as it comes in. -/
structure NdW (x : Nd) : Prop extends NdV x where
  kind : WI x.kind
  cls : (0 ≤ x.c0 ∧ x.c0 < 18446744073709551616) ∧ (0 ≤ x.c1 ∧ x.c1 < 18446744073709551616) ∧ (0 ≤ x.c2 ∧ x.c2 < 18446744073709551616) ∧ (0 ≤ x.c3 ∧ x.c3 < 18446744073709551616)
set_option maxRecDepth 100000 in
set_option maxHeartbeats 2000000 in
theorem whole1_any (x : Nd) (g : Nat) (ao : Option Addr) (r cap : Nat) (nv : Value) (w : World) (hx : NdW x) (hg : w.heap[g]? = some (.cells #[.slice ao r cap, nv] 25 (0, 0))) :
    Calls Tryz.prog 91 #[ndv x, .pointer (some ⟨g, 0, none⟩)] w fun e w' => e = .returned (.bool (!nodeOk r x)) ∧ Below w.heap.size w w' := by
  have HP := Lib.hid (fun wq => node_any x r wq hx.toNdV hx.kind)
  have HG := Lib.hid hg
  obtain ⟨ao', cap', hv⟩ := hx.kv
  have hsm := hx.few
  obtain ⟨kind, c0, c1, c2, c3, text, rule, level, kids, kv⟩ := x
  simp only at hv hsm
  subst hv
  obtain ⟨b, hb⟩ : ∃ b, b = nodeOk r ⟨kind, c0, c1, c2, c3, text, rule, level, kids, .slice ao' kids.length cap'⟩ := ⟨_, rfl⟩
  rw [← hb] at HP ⊢
  unfold ndv at HP ⊢
  simp only at HP ⊢
  clear hb hx hg
  obtain ⟨n, hn⟩ : ∃ n, n = kids.length := ⟨_, rfl⟩
  rw [← hn] at hsm ⊢
  rw [← hn] at HP
  clear hn
  go_enter Tryz.func91, Tryz.ntmps91
  go_upto_region 1 with (fail)
  refine gen_world (S := fun u => Below w.heap.size w u ∧ u.heap[w.heap.size]? = some (.cells #[.int .i64 kind, .int .u64 c0, .int .u64 c1, .int .u64 c2, .int .u64 c3, .string text, .int .i64 rule, .int .i64 level, .slice ao' n cap'] 60 (0, 0))) (one_new w _) (fun u hu => ?_)
  obtain ⟨hb, h1⟩ := hu
  have HB := Lib.hid hb
  obtain ⟨v0, v1, v2, v3, v4, v5, v6, v7, v8⟩ := nine_box h1
  obtain ⟨g0, -, -⟩ := box_cells ((hb.block _ (lt_of_block HG.out)).trans HG.out)
  clear hb h1
  go_wp2_with fail
  refine (HP.out _).mono ?_
  rintro e w1 ⟨rfl, hb⟩
  have HB1 := Lib.hid hb
  clear hb v0 v1 v2 v3 v4 v5 v6 v7 v8 g0
  go_wp2
  go_ret
  exact ⟨rfl, HB.out.trans (HB1.out.mono HB.out.size)⟩
set_option maxRecDepth 100000 in
set_option maxHeartbeats 2000000 in
theorem indexN_any (v : Value) (N : List Nd) (g : Nat) (ar : Option Addr) (r cr : Nat) (nv : Value) (w : World) (h : NdsAt w v N) (hN : ∀ x ∈ N, NdW x) (hg : w.heap[g]? = some (.cells #[.slice ar r cr, nv] 25 (0, 0))) :
    Calls Tryz.prog 119 #[v, .func (.func 91) #[] #[.pointer (some ⟨g, 0, none⟩)]] w fun e w' => (∃ z : Int, e = .returned (.int .i64 z) ∧ decide (0 ≤ z) = !N.all (nodeOk r)) ∧ Below w.heap.size w w' := by
  have H := Lib.hid h
  have HG := Lib.hid hg
  have HNw := Lib.hid hN
  obtain ⟨ao, cap, rfl⟩ := h.val
  rw [List.length_map] at H ⊢
  have hm := H.out.cells.2.2.1
  have hlc := H.out.cells.2.1
  unfold maxLen at hm
  obtain ⟨n, hn⟩ : ∃ n, n = N.length := ⟨_, rfl⟩
  have HN := Lib.hid hn
  rw [← hn] at hlc H ⊢
  clear h hg hN hn
  go_enter Tryz.func119, Tryz.ntmps119
  go_upto_region 2 with (fail)
  go_loopw [8] (fun i wr => ∃ k : Nat, k ≤ n ∧ i = .int .i64 k ∧ Hid ((N.take k).all (nodeOk r) = true) ∧ Hid (Below w.heap.size w wr)) (fun i _ => n - (intOf i).toNat)
  case atStart => exact ⟨0, Nat.zero_le _, rfl, Lib.hid (by simp), Lib.hid (Below.refl _ _)⟩
  case round =>
    obtain ⟨k, hk, rfl, HT, Hb⟩ := hrel
    by_cases hlt : k < n
    · have hlt2 : (k : Int) < n := by omega
      have hkN : k < N.length := by rw [← HN.out]; exact hlt
      obtain ⟨b, off, rfl, hbl, hc0⟩ := H.out.cells.2.2.2 k hkN
      have hc := (show NdsAt wr _ N from RowsAt.later H.out Hb.out).cells.2.2.2 k hkN
      obtain ⟨b', off', he', -, v0, v1, v2, v3, v4, v5, v6, v7, v8⟩ := hc
      simp only [Option.some.injEq, Addr.mk.injEq, and_true] at he'
      obtain ⟨rfl, rfl⟩ := he'
      have HW := Lib.hid (HNw.out N[k] (List.getElem_mem _))
      have HTk := Lib.hid (show (N.take (k + 1)).all (nodeOk r) = nodeOk r N[k] by rw [List.take_succ_eq_append_getElem hkN, List.all_append, HT.out]; simp)
      have HAll := Lib.hid (show nodeOk r N[k] = false → N.all (nodeOk r) = false from fun hf => by rw [List.all_eq_false]; exact ⟨N[k], List.getElem_mem _, by simp [hf]⟩)
      obtain ⟨x, hx⟩ : ∃ x, x = N[k] := ⟨_, rfl⟩
      rw [← hx] at v0 v1 v2 v3 v4 v5 v6 v7 v8 HW HTk HAll
      obtain ⟨kao, kcap, hkv⟩ := HW.out.kv
      have HP := Lib.hid (whole1_any x g ar r cr nv wr HW.out ((Hb.out.block _ (lt_of_block HG.out)).trans HG.out))
      obtain ⟨q, hq⟩ : ∃ q, q = nodeOk r x := ⟨_, rfl⟩
      rw [← hq] at HP HTk HAll
      clear hx hq hc0
      obtain ⟨kind, c0, c1, c2, c3, text, rule, level, kids, kv⟩ := x
      simp only at hkv v0 v1 v2 v3 v4 v5 v6 v7 v8
      subst hkv
      unfold ndv at HP
      simp only at HP
      cases q
      · go_wp2_with (refine HP.out.mono ?_; rintro e w1 ⟨rfl, hb1⟩; have HB1 := Lib.hid hb1; clear hb1 v0 v1 v2 v3 v4 v5 v6 v7 v8)
        go_ret
        exact ⟨⟨(k : Int), rfl, by rw [HAll.out (by first | rfl | trivial)]; simp⟩, Hb.out.trans (HB1.out.mono Hb.out.size)⟩
      · go_wp2_with (refine HP.out.mono ?_; rintro e w1 ⟨rfl, hb1⟩; have HB1 := Lib.hid hb1; clear hb1 v0 v1 v2 v3 v4 v5 v6 v7 v8)
        go_roundw
        case rel => exact ⟨k + 1, by omega, by go_num, HTk, Lib.hid (Hb.out.trans (HB1.out.mono Hb.out.size))⟩
        case measure => simp [intOf]; omega
    · have hlt2 : ¬ (k : Int) < n := by omega
      have HA := Lib.hid (show N.all (nodeOk r) = true by have := HT.out; rw [List.take_of_length_le (by rw [← HN.out]; omega)] at this; exact this)
      go_wp2
      go_ret
      exact ⟨⟨-1, rfl, by rw [HA.out]; simp⟩, Hb.out⟩
set_option maxRecDepth 100000 in
set_option maxHeartbeats 2000000 in
theorem containsN_any (v : Value) (N : List Nd) (g : Nat) (ar : Option Addr) (r cr : Nat) (nv : Value) (w : World) (h : NdsAt w v N) (hN : ∀ x ∈ N, NdW x) (hg : w.heap[g]? = some (.cells #[.slice ar r cr, nv] 25 (0, 0))) :
    Calls Tryz.prog 90 #[v, .func (.func 91) #[] #[.pointer (some ⟨g, 0, none⟩)]] w fun e w' => e = .returned (.bool (!N.all (nodeOk r))) ∧ Below w.heap.size w w' := by
  have HP := Lib.hid (indexN_any v N g ar r cr nv w h hN hg)
  obtain ⟨q, hq⟩ : ∃ q, q = !N.all (nodeOk r) := ⟨_, rfl⟩
  rw [← hq] at HP ⊢
  obtain ⟨ao, cap, rfl⟩ := h.val
  rw [List.length_map] at HP ⊢
  obtain ⟨n, hn⟩ : ∃ n, n = N.length := ⟨_, rfl⟩
  rw [← hn] at HP ⊢
  clear h hN hg hq hn
  go_enter Tryz.func90, Tryz.ntmps90
  go_wp2_with fail
  refine HP.out.mono ?_
  rintro e w1 ⟨⟨z, rfl, hz⟩, hb⟩
  have HB := Lib.hid hb
  have HZ := Lib.hid hz
  clear hb hz
  go_wp2
  go_ret
  exact ⟨ret_bool HZ.out, HB.out⟩
/-- a rule's name. -/
theorem rule1_any (y : Ru) (nm : ByteArray) (b : Nat) (w : World) (hb : w.heap[b]? = some (.cells #[.string nm] 9 (0, 0))) :
    Calls Tryz.prog 125 #[.agg #[.string y.name, .int .i64 y.body], .pointer (some ⟨b, 0, none⟩)] w fun e w' => e = .returned (.bool (y.name == nm)) ∧ Below w.heap.size w w' := by
  obtain ⟨s, bd⟩ := y
  have HB := Lib.hid hb
  simp only
  clear hb
  go_enter Tryz.func125, Tryz.ntmps125
  go_upto_region 1 with (fail)
  refine gen_world (S := fun u => Below w.heap.size w u ∧ u.heap[w.heap.size]? = some (.cells #[.string s, .int .i64 bd] 116 (0, 0))) (one_new w _) (fun u hu => ?_)
  obtain ⟨hb, h1⟩ := hu
  have HBe := Lib.hid hb
  obtain ⟨v0, v1, -⟩ := box_cells h1
  have g0 := (block_cell' ((hb.block _ (lt_of_block HB.out)).trans HB.out) 0).1
  simp at g0
  clear hb h1
  go_wp2
  go_ret
  exact ⟨ret_bool (beq_toListBytes s nm).symm, HBe.out⟩
theorem ruleOf_at (R : List Ru) (nm : ByteArray) (k : Nat) (hk : k < R.length) (h : (R.take k).all (fun r => !(r.name == nm)) = true) (he : (R[k].name == nm) = true) : ruleOf R nm = (k : Int) := by
  unfold ruleOf
  have : R.findIdx? (fun r => r.name == nm) = some k := by
    rw [List.findIdx?_eq_some_iff_getElem]
    refine ⟨hk, he, fun j hj => ?_⟩
    rw [List.all_eq_true] at h
    have := h R[j] (by rw [List.mem_take_iff_getElem]; exact ⟨j, by omega, rfl⟩)
    simpa using this
  rw [this]
theorem ruleOf_none (R : List Ru) (nm : ByteArray) (h : R.all (fun r => !(r.name == nm)) = true) : ruleOf R nm = -1 := by
  unfold ruleOf
  have : R.findIdx? (fun r => r.name == nm) = none := by
    rw [List.findIdx?_eq_none_iff]
    intro x hx
    rw [List.all_eq_true] at h
    have := h x hx
    simpa using this
  rw [this]
set_option maxRecDepth 100000 in
set_option maxHeartbeats 2000000 in
theorem indexR_any (v : Value) (R : List Ru) (nm : ByteArray) (b : Nat) (w : World) (h : RusAt w v R) (hb : w.heap[b]? = some (.cells #[.string nm] 9 (0, 0))) :
    Calls Tryz.prog 124 #[v, .func (.func 125) #[] #[.pointer (some ⟨b, 0, none⟩)]] w fun e w' => e = .returned (.int .i64 (ruleOf R nm)) ∧ Below w.heap.size w w' := by
  have H := Lib.hid h
  have HG := Lib.hid hb
  obtain ⟨ao, cap, rfl⟩ := h.val
  rw [List.length_map] at H ⊢
  have hm := H.out.cells.2.2.1
  have hlc := H.out.cells.2.1
  unfold maxLen at hm
  obtain ⟨n, hn⟩ : ∃ n, n = R.length := ⟨_, rfl⟩
  have HN := Lib.hid hn
  rw [← hn] at hlc H ⊢
  obtain ⟨rs, hrs⟩ : ∃ rs, rs = ruleOf R nm := ⟨_, rfl⟩
  have HRs := Lib.hid hrs
  rw [← hrs]
  clear h hb hn hrs
  go_enter Tryz.func124, Tryz.ntmps124
  go_upto_region 2 with (fail)
  go_loopw [8] (fun i wr => ∃ k : Nat, k ≤ n ∧ i = .int .i64 k ∧ Hid ((R.take k).all (fun r => !(r.name == nm)) = true) ∧ Hid (Below w.heap.size w wr)) (fun i _ => n - (intOf i).toNat)
  case atStart => exact ⟨0, Nat.zero_le _, rfl, Lib.hid (by simp), Lib.hid (Below.refl _ _)⟩
  case round =>
    obtain ⟨k, hk, rfl, HT, Hb⟩ := hrel
    by_cases hlt : k < n
    · have hlt2 : (k : Int) < n := by omega
      have hkN : k < R.length := by rw [← HN.out]; exact hlt
      obtain ⟨b2, off, rfl, hbl, hc0⟩ := H.out.cells.2.2.2 k hkN
      have hc := (show RusAt wr _ R from RowsAt.later H.out Hb.out).cells.2.2.2 k hkN
      obtain ⟨b', off', he', -, v0, v1⟩ := hc
      simp only [Option.some.injEq, Addr.mk.injEq, and_true] at he'
      obtain ⟨rfl, rfl⟩ := he'
      have HTk := Lib.hid (show (R.take (k + 1)).all (fun r => !(r.name == nm)) = !(R[k].name == nm) by rw [List.take_succ_eq_append_getElem hkN, List.all_append, HT.out]; simp)
      have HAt := Lib.hid (fun he => ruleOf_at R nm k hkN HT.out he)
      obtain ⟨x, hx⟩ : ∃ x, x = R[k] := ⟨_, rfl⟩
      rw [← hx] at v0 v1 HTk HAt
      have HP := Lib.hid (rule1_any x nm b wr ((Hb.out.block _ (lt_of_block HG.out)).trans HG.out))
      obtain ⟨q, hq⟩ : ∃ q, q = (x.name == nm) := ⟨_, rfl⟩
      rw [← hq] at HP HTk HAt
      clear hx hq hc0
      obtain ⟨s, bd⟩ := x
      simp only at v0 v1 HP
      cases q
      · go_wp2_with (refine HP.out.mono ?_; rintro e w1 ⟨rfl, hb1⟩; have HB1 := Lib.hid hb1; clear hb1 v0 v1)
        go_roundw
        case rel => exact ⟨k + 1, by omega, by go_num, Lib.hid (by rw [HTk.out]; simp), Lib.hid (Hb.out.trans (HB1.out.mono Hb.out.size))⟩
        case measure => simp [intOf]; omega
      · go_wp2_with (refine HP.out.mono ?_; rintro e w1 ⟨rfl, hb1⟩; have HB1 := Lib.hid hb1; clear hb1 v0 v1)
        go_ret
        exact ⟨by rw [HRs.out, HAt.out (by first | rfl | trivial)]; rfl, Hb.out.trans (HB1.out.mono Hb.out.size)⟩
    · have hlt2 : ¬ (k : Int) < n := by omega
      have HA := Lib.hid (ruleOf_none R nm (by have := HT.out; rw [List.take_of_length_le (by rw [← HN.out]; omega)] at this; exact this))
      go_wp2
      go_ret
      exact ⟨by rw [HRs.out, HA.out]; rfl, Hb.out⟩
set_option maxRecDepth 100000 in
set_option maxHeartbeats 2000000 in
theorem ruleN_any (rv nv : Value) (R : List Ru) (nm : ByteArray) (w : World) (h : RusAt w rv R) (hn : ∃ a n c, nv = .slice a n c) :
    Calls Tryz.prog 95 #[.agg #[rv, nv], .string nm] w fun e w' => e = .returned (.int .i64 (ruleOf R nm)) ∧ Below w.heap.size w w' := by
  have H := Lib.hid h
  obtain ⟨ao, cap, rfl⟩ := h.val
  obtain ⟨a2, n2, c2, rfl⟩ := hn
  rw [List.length_map] at H ⊢
  obtain ⟨n, hn⟩ : ∃ n, n = R.length := ⟨_, rfl⟩
  rw [← hn] at H ⊢
  obtain ⟨rs, hrs⟩ : ∃ rs, rs = ruleOf R nm := ⟨_, rfl⟩
  have HRs := Lib.hid hrs
  rw [← hrs]
  clear h hn hrs
  go_enter Tryz.func95, Tryz.ntmps95
  go_upto_region 1 with (fail)
  refine gen_world (S := fun u => Below w.heap.size w u ∧ u.heap[w.heap.size]? = some (.cells #[.slice ao n cap, .slice a2 n2 c2] 25 (0, 0)) ∧ u.heap[w.heap.size + 1]? = some (.cells #[.string nm] 9 (0, 0))) (two_new w _ _) (fun u hu => ?_)
  obtain ⟨hb, h1, h2⟩ := hu
  have HB := Lib.hid hb
  have HP := Lib.hid (indexR_any _ R nm _ u (RowsAt.later H.out hb) h2)
  rw [← HRs.out] at HP
  obtain ⟨v0, v1, -⟩ := box_cells h1
  clear hb h1 h2
  go_wp2_with fail
  refine HP.out.mono ?_
  rintro e w1 ⟨rfl, hb⟩
  have HB1 := Lib.hid hb
  clear hb v0 v1
  go_wp2
  go_ret
  exact ⟨rfl, HB.out.trans (HB1.out.mono HB.out.size)⟩
end Go.Proofs.YtkimkghldilliaaGreat
