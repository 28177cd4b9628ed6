import Derived.Test.YtpchjpmkkiopiaaMmAm
namespace Go.Proofs.Ytpchjpmkkiopiaa
open Go.RowKit Go.Lib

/-- a slice of keys, read. -/
def KyAt (w : World) (v : Value) (S : List Ky) : Prop := RowsAt w 3 v (S.map kyc)
theorem KyAt.later {w w' : World} {v : Value} {S : List Ky} (h : KyAt w v S) (hb : Below w.heap.size w w') : KyAt w' v S := RowsAt.later h hb
theorem KyAt.val {w : World} {v : Value} {S : List Ky} (h : KyAt w v S) : ∃ ao cap, v = .slice ao S.length cap := by
  obtain ⟨ao, cap, h⟩ := RowsAt.val h
  exact ⟨ao, cap, by simpa using h⟩
theorem KyAt.cells {w : World} {ao : Option Addr} {n cap : Nat} {S : List Ky} (h : KyAt w (.slice ao n cap) S) : S.length ≤ cap ∧ cap ≤ maxLen ∧ ∀ i (hi : i < S.length), ∃ b off, ao = some ⟨b, off, none⟩ ∧ b < w.heap.size ∧
    w.cell? ⟨b, off + i * 3, none⟩ = some (.int .i64 S[i].rule) ∧ w.cell? ⟨b, off + i * 3 + 1, none⟩ = some (.int .i64 S[i].level) ∧ w.cell? ⟨b, off + i * 3 + 2, none⟩ = some (.int .i64 S[i].place) := by
  obtain ⟨ao', b, off, cap', he, hl, hm, hn, ha, _, hc⟩ := h
  simp only [Value.slice.injEq, List.length_map] at he hl hn ha hc
  obtain ⟨rfl, rfl, rfl⟩ := he
  refine ⟨hl, hm, fun i hi => ?_⟩
  obtain ⟨h1, h2⟩ := ha (by omega)
  refine ⟨b, off, h1, h2, ?_, ?_, ?_⟩
  · have := hc i hi 0 (by omega); simpa [kyc] using this
  · have := hc i hi 1 (by omega); simpa [kyc] using this
  · have := hc i hi 2 (by omega); simpa [kyc] using this
abbrev KyOwn (B : Nat) (w : World) (v : Value) (S : List Ky) : Prop := w.ownsRow B 31 3 v S.length (S.flatMap kyc)
theorem KyOwn.at {B : Nat} {w : World} {v : Value} {S : List Ky} (h : KyOwn B w v S) : KyAt w v S := own_rows kyc_len rfl h
theorem mem_take_snoc {S : List Ky} {k : Nat} (hk : k < S.length) (x : Ky) : x ∈ S.take (k + 1) ↔ x ∈ S.take k ∨ S[k] = x := by
  rw [List.take_succ_eq_append_getElem hk, List.mem_append, List.mem_singleton]
  exact ⟨fun h => h.imp id Eq.symm, fun h => h.imp id Eq.symm⟩
set_option maxRecDepth 100000 in
set_option maxHeartbeats 2000000 in
theorem has_any (v : Value) (S : List Ky) (x : Ky) (w : World) (h : KyAt w v S) (hl : S.length ≤ 1000000) :
    Calls Try.prog 11 #[v, kyv x] w fun e w' => e = .returned (.bool (decide (x ∈ S))) ∧ Below w.heap.size w w' := by
  have H := Lib.hid h
  obtain ⟨ao, cap, rfl⟩ := h.val
  obtain ⟨n, hn⟩ : ∃ n, n = S.length := ⟨_, rfl⟩
  have HN := Lib.hid hn
  rw [← hn] at H hl ⊢
  have HKe := Lib.hid ky_eql
  clear h hn
  go_enter Try.func11, Try.ntmps11
  go_upto_region 2 with (fail)
  refine gen_world (S := fun u => Below w.heap.size w u ∧ u.heap[w.heap.size]? = some (.cells #[.int .i64 x.rule, .int .i64 x.level, .int .i64 x.place] 31 (0, 0))) (one_new w _) (fun u hu => ?_)
  obtain ⟨hb, hx⟩ := hu
  obtain ⟨X, hX⟩ : ∃ X, X = w.heap.size := ⟨_, rfl⟩
  rw [← hX] at hx ⊢
  have HB := Lib.hid hb
  have HX := Lib.hid hx
  have Hu := Lib.hid (H.out.later hb)
  clear hX hb hx
  go_loopw [5] (fun i wr => ∃ k : Nat, k ≤ n ∧ i = .int .i64 k ∧ Hid (x ∉ S.take k) ∧ Hid (Below u.heap.size u wr)) (fun i _ => n - (intOf i).toNat)
  case atStart => exact ⟨0, Nat.zero_le _, rfl, Lib.hid (by simp), Lib.hid (Below.refl _ _)⟩
  case round =>
    obtain ⟨k, hk, rfl, Hn, Hb⟩ := hrel
    by_cases hlt : k < n
    · have hlt2 : (k : Int) < n := by omega
      have hkS : k < S.length := by rw [← HN.out]; exact hlt
      obtain ⟨b, off, rfl, hbl, -⟩ := Hu.out.cells.2.2 k hkS
      have HC := Lib.hid (show ∀ wS, Below wr.heap.size wr wS → wS.cell? ⟨b, off + k * 3, none⟩ = some (.int .i64 S[k].rule) ∧ wS.cell? ⟨b, off + k * 3 + 1, none⟩ = some (.int .i64 S[k].level) ∧ wS.cell? ⟨b, off + k * 3 + 2, none⟩ = some (.int .i64 S[k].place) from fun wS hw => by
        obtain ⟨b2, off2, e, -, h1⟩ := (Hu.out.later (Hb.out.trans (hw.mono Hb.out.size))).cells.2.2 k hkS
        simp only [Option.some.injEq, Addr.mk.injEq, and_true] at e
        obtain ⟨rfl, rfl⟩ := e
        exact h1)
      have hms := mem_take_snoc hkS x
      have HMs := Lib.hid hms
      obtain ⟨y, hy⟩ : ∃ y, y = S[k] := ⟨_, rfl⟩
      rw [← hy] at HC HMs
      have HYm := Lib.hid (show y ∈ S from by rw [hy]; exact List.getElem_mem hkS)
      replace HX := Lib.hid ((Hb.out.block _ (lt_of_block HX.out)).trans HX.out)
      clear hms hy hkS hbl
      by_cases he : y = x
      · have hd : decide (y = x) = true := by simpa using he
        have HE := Lib.hid he
        have hke := HKe.out y x
        rw [hd] at hke
        have HKy := Lib.hid hke
        clear he hd hke
        go_upto_region 4 with (fail)
        refine wp_region_held_drew (S := fun z => Below wr.heap.size wr z) (by kernel_rfl) (Below.refl wr.heap.size wr).drew (fun hS => ?_)
        refine wpAnyH_take (i := 0) (oi := ⟨_, _, _, _, _, _⟩) (v := ?v1) rfl (by kernel_rfl) (by kernel_rfl) (by kernel_rfl) (fun _ _ _ h => h) ?y1 hS ?_
        case y1 => first | (refine Or.inr ⟨by rfl, ?_⟩; with_reducible rfl) | (refine Or.inl ⟨by rfl, ?_⟩; intro wS hSw; obtain ⟨c0, c1, c2⟩ := HC.out wS hSw; obtain ⟨b0, b1, b2, -⟩ := three_box ((hSw.block _ (lt_of_block HX.out)).trans HX.out); go_simp; try with_reducible rfl)
        simp only [Act.put, List.setIfInBounds_toArray, List.set_cons_zero, List.set_cons_succ]
        refine wpAnyH_take (i := 1) (oi := ⟨_, _, _, _, _, _⟩) (v := ?v2) rfl (by kernel_rfl) (by kernel_rfl) (by kernel_rfl) (fun _ _ _ h => h) ?y2 hS ?_
        case y2 => first | (refine Or.inr ⟨by rfl, ?_⟩; with_reducible rfl) | (refine Or.inl ⟨by rfl, ?_⟩; intro wS hSw; obtain ⟨c0, c1, c2⟩ := HC.out wS hSw; obtain ⟨b0, b1, b2, -⟩ := three_box ((hSw.block _ (lt_of_block HX.out)).trans HX.out); go_simp; try with_reducible rfl)
        simp only [Act.put, List.setIfInBounds_toArray, List.set_cons_zero, List.set_cons_succ]
        refine wpAnyH_take (i := 2) (oi := ⟨_, _, _, _, _, _⟩) (v := ?v3) rfl (by kernel_rfl) (by kernel_rfl) (by kernel_rfl) (fun _ _ _ h => h) ?y3 hS ?_
        case y3 => first | (refine Or.inr ⟨by rfl, ?_⟩; with_reducible rfl) | (refine Or.inl ⟨by rfl, ?_⟩; intro wS hSw; obtain ⟨c0, c1, c2⟩ := HC.out wS hSw; obtain ⟨b0, b1, b2, -⟩ := three_box ((hSw.block _ (lt_of_block HX.out)).trans HX.out); go_simp; try with_reducible rfl)
        simp only [Act.put, List.setIfInBounds_toArray, List.set_cons_zero, List.set_cons_succ]
        refine wpAnyH_take (i := 3) (oi := ⟨_, _, _, _, _, _⟩) (v := ?v4) rfl (by kernel_rfl) (by kernel_rfl) (by kernel_rfl) (fun _ _ _ h => h) ?y4 hS ?_
        case y4 => first | (refine Or.inr ⟨by rfl, ?_⟩; with_reducible rfl) | (refine Or.inl ⟨by rfl, ?_⟩; intro wS hSw; obtain ⟨c0, c1, c2⟩ := HC.out wS hSw; obtain ⟨b0, b1, b2, -⟩ := three_box ((hSw.block _ (lt_of_block HX.out)).trans HX.out); go_simp; try with_reducible rfl)
        simp only [Act.put, List.setIfInBounds_toArray, List.set_cons_zero, List.set_cons_succ]
        refine wpAnyH_take (i := 4) (oi := ⟨_, _, _, _, _, _⟩) (v := ?v5) rfl (by kernel_rfl) (by kernel_rfl) (by kernel_rfl) (fun _ _ _ h => h) ?y5 hS ?_
        case y5 => first | (refine Or.inr ⟨by rfl, ?_⟩; with_reducible rfl) | (refine Or.inl ⟨by rfl, ?_⟩; intro wS hSw; obtain ⟨c0, c1, c2⟩ := HC.out wS hSw; obtain ⟨b0, b1, b2, -⟩ := three_box ((hSw.block _ (lt_of_block HX.out)).trans HX.out); go_simp; try with_reducible rfl)
        simp only [Act.put, List.setIfInBounds_toArray, List.set_cons_zero, List.set_cons_succ]
        refine wpAnyH_take (i := 5) (oi := ⟨_, _, _, _, _, _⟩) (v := ?v6) rfl (by kernel_rfl) (by kernel_rfl) (by kernel_rfl) (fun _ _ _ h => h) ?y6 hS ?_
        case y6 => first | (refine Or.inr ⟨by rfl, ?_⟩; with_reducible rfl) | (refine Or.inl ⟨by rfl, ?_⟩; intro wS hSw; have hke := HKy.out; go_simp; try with_reducible rfl)
        simp only [Act.put, List.setIfInBounds_toArray, List.set_cons_zero, List.set_cons_succ]
        refine wpAnyH_done (by kernel_rfl) ?_ _
        have HS := Lib.hid (HB.out.trans ((Hb.out.trans (hS.mono Hb.out.size)).mono HB.out.size))
        clear hS
        go_wp2
        go_ret
        exact ⟨by rw [show decide (x ∈ S) = true from by simpa using HE.out ▸ HYm.out]; rfl, HS.out⟩
      · have hd : decide (y = x) = false := by simpa using he
        have HE := Lib.hid he
        have hke := HKe.out y x
        rw [hd] at hke
        have HKy := Lib.hid hke
        clear he hd hke
        go_upto_region 4 with (fail)
        refine wp_region_held_drew (S := fun z => Below wr.heap.size wr z) (by kernel_rfl) (Below.refl wr.heap.size wr).drew (fun hS => ?_)
        refine wpAnyH_take (i := 0) (oi := ⟨_, _, _, _, _, _⟩) (v := ?v7) rfl (by kernel_rfl) (by kernel_rfl) (by kernel_rfl) (fun _ _ _ h => h) ?y7 hS ?_
        case y7 => first | (refine Or.inr ⟨by rfl, ?_⟩; with_reducible rfl) | (refine Or.inl ⟨by rfl, ?_⟩; intro wS hSw; obtain ⟨c0, c1, c2⟩ := HC.out wS hSw; obtain ⟨b0, b1, b2, -⟩ := three_box ((hSw.block _ (lt_of_block HX.out)).trans HX.out); go_simp; try with_reducible rfl)
        simp only [Act.put, List.setIfInBounds_toArray, List.set_cons_zero, List.set_cons_succ]
        refine wpAnyH_take (i := 1) (oi := ⟨_, _, _, _, _, _⟩) (v := ?v8) rfl (by kernel_rfl) (by kernel_rfl) (by kernel_rfl) (fun _ _ _ h => h) ?y8 hS ?_
        case y8 => first | (refine Or.inr ⟨by rfl, ?_⟩; with_reducible rfl) | (refine Or.inl ⟨by rfl, ?_⟩; intro wS hSw; obtain ⟨c0, c1, c2⟩ := HC.out wS hSw; obtain ⟨b0, b1, b2, -⟩ := three_box ((hSw.block _ (lt_of_block HX.out)).trans HX.out); go_simp; try with_reducible rfl)
        simp only [Act.put, List.setIfInBounds_toArray, List.set_cons_zero, List.set_cons_succ]
        refine wpAnyH_take (i := 2) (oi := ⟨_, _, _, _, _, _⟩) (v := ?v9) rfl (by kernel_rfl) (by kernel_rfl) (by kernel_rfl) (fun _ _ _ h => h) ?y9 hS ?_
        case y9 => first | (refine Or.inr ⟨by rfl, ?_⟩; with_reducible rfl) | (refine Or.inl ⟨by rfl, ?_⟩; intro wS hSw; obtain ⟨c0, c1, c2⟩ := HC.out wS hSw; obtain ⟨b0, b1, b2, -⟩ := three_box ((hSw.block _ (lt_of_block HX.out)).trans HX.out); go_simp; try with_reducible rfl)
        simp only [Act.put, List.setIfInBounds_toArray, List.set_cons_zero, List.set_cons_succ]
        refine wpAnyH_take (i := 3) (oi := ⟨_, _, _, _, _, _⟩) (v := ?v10) rfl (by kernel_rfl) (by kernel_rfl) (by kernel_rfl) (fun _ _ _ h => h) ?y10 hS ?_
        case y10 => first | (refine Or.inr ⟨by rfl, ?_⟩; with_reducible rfl) | (refine Or.inl ⟨by rfl, ?_⟩; intro wS hSw; obtain ⟨c0, c1, c2⟩ := HC.out wS hSw; obtain ⟨b0, b1, b2, -⟩ := three_box ((hSw.block _ (lt_of_block HX.out)).trans HX.out); go_simp; try with_reducible rfl)
        simp only [Act.put, List.setIfInBounds_toArray, List.set_cons_zero, List.set_cons_succ]
        refine wpAnyH_take (i := 4) (oi := ⟨_, _, _, _, _, _⟩) (v := ?v11) rfl (by kernel_rfl) (by kernel_rfl) (by kernel_rfl) (fun _ _ _ h => h) ?y11 hS ?_
        case y11 => first | (refine Or.inr ⟨by rfl, ?_⟩; with_reducible rfl) | (refine Or.inl ⟨by rfl, ?_⟩; intro wS hSw; obtain ⟨c0, c1, c2⟩ := HC.out wS hSw; obtain ⟨b0, b1, b2, -⟩ := three_box ((hSw.block _ (lt_of_block HX.out)).trans HX.out); go_simp; try with_reducible rfl)
        simp only [Act.put, List.setIfInBounds_toArray, List.set_cons_zero, List.set_cons_succ]
        refine wpAnyH_take (i := 5) (oi := ⟨_, _, _, _, _, _⟩) (v := ?v12) rfl (by kernel_rfl) (by kernel_rfl) (by kernel_rfl) (fun _ _ _ h => h) ?y12 hS ?_
        case y12 => first | (refine Or.inr ⟨by rfl, ?_⟩; with_reducible rfl) | (refine Or.inl ⟨by rfl, ?_⟩; intro wS hSw; have hke := HKy.out; go_simp; try with_reducible rfl)
        simp only [Act.put, List.setIfInBounds_toArray, List.set_cons_zero, List.set_cons_succ]
        refine wpAnyH_done (by kernel_rfl) ?_ _
        have HS := Lib.hid (Hb.out.trans (hS.mono Hb.out.size))
        clear hS
        go_wp2
        go_roundw
        case rel => exact ⟨k + 1, by omega, by go_num, Lib.hid (fun hm => (HMs.out.1 hm).elim Hn.out HE.out), HS⟩
        case measure => simp [intOf]; omega
    · obtain rfl : k = n := by omega
      have hlt2 : ¬ (k : Int) < k := by omega
      have HS := Lib.hid (HB.out.trans (Hb.out.mono HB.out.size))
      have HT := Lib.hid (show x ∉ S from by have := Hn.out; rw [HN.out, List.take_length] at this; exact this)
      go_wp2
      go_ret
      exact ⟨by rw [show decide (x ∈ S) = false from by simpa using HT.out]; rfl, HS.out⟩
end Go.Proofs.Ytpchjpmkkiopiaa
namespace Go.Proofs.Ytpchjpmkkiopiaa
open Go.RowKit Go.Lib

def outK (S : List Ky) (x : Ky) : List Ky := S.filter fun y => decide (y ≠ x)
theorem outK_snoc {S : List Ky} {k : Nat} (hk : k < S.length) (x : Ky) : outK (S.take (k + 1)) x = outK (S.take k) x ++ if S[k] ≠ x then [S[k]] else [] := by
  unfold outK
  rw [List.take_succ_eq_append_getElem hk, List.filter_append]
  by_cases h : S[k] = x <;> simp [h]
theorem outK_len (S : List Ky) (x : Ky) : (outK S x).length ≤ S.length := List.length_filter_le _ _
set_option maxRecDepth 100000 in
set_option maxHeartbeats 4000000 in
theorem without_any (v : Value) (S : List Ky) (x : Ky) (w : World) (h : KyAt w v S) (hl : S.length ≤ 1000000) :
    Calls Try.prog 12 #[v, kyv x] w fun e w' => ∃ v', e = .returned v' ∧ KyOwn w.heap.size w' v' (outK S x) ∧ Below w.heap.size w w' := by
  have H := Lib.hid h
  obtain ⟨ao, cap, rfl⟩ := h.val
  obtain ⟨n, hn⟩ : ∃ n, n = S.length := ⟨_, rfl⟩
  have HN := Lib.hid hn
  rw [← hn] at H hl ⊢
  have HKe := Lib.hid ky_neq
  clear h hn
  obtain ⟨i0, hi0, hz0, hz1, hz2⟩ := info_parts Try.infoKy
  go_enter Try.func12, Try.ntmps12
  go_upto_region 3 with (fail)
  refine gen_world (S := fun u => Below w.heap.size w u ∧ u.heap[w.heap.size]? = some (.cells #[.int .i64 x.rule, .int .i64 x.level, .int .i64 x.place] 31 (0, 0))) (one_new w _) (fun u hu => ?_)
  obtain ⟨hb, hx⟩ := hu
  obtain ⟨X, hX⟩ : ∃ X, X = w.heap.size := ⟨_, rfl⟩
  have HXe := Lib.hid hX
  rw [← hX] at hx ⊢
  have HB := Lib.hid hb
  have HX := Lib.hid hx
  clear hX hb hx
  go_loopw [5, 6] (fun c i wr => ∃ (k : Nat) (no : Nat) (ca : Option Addr) (cc : Nat), k ≤ n ∧ no ≤ k ∧ i = .int .i64 k ∧ c = .slice ca no cc ∧ Hid (no = (outK (S.take k) x).length ∧ wr.ownsRow (w.heap.size + 1) 31 3 (.slice ca no cc) no ((outK (S.take k) x).flatMap kyc) ∧ Below w.heap.size w wr ∧ wr.heap[X]? = some (.cells #[.int .i64 x.rule, .int .i64 x.level, .int .i64 x.place] 31 (0, 0)))) (fun _ i _ => n - (intOf i).toNat)
  case atStart => exact ⟨0, 0, none, 0, Nat.zero_le _, Nat.zero_le _, rfl, rfl, Lib.hid ⟨rfl, World.ownsRow_nil _ _ _ _, HB.out, HX.out⟩⟩
  case round =>
    obtain ⟨k, no, ca0, cc0, hk, hno, rfl, rfl, HR⟩ := hrel
    by_cases hlt : k < n
    · have hlt2 : (k : Int) < n := by omega
      have hkS : k < S.length := by rw [← HN.out]; exact hlt
      obtain ⟨b, off, rfl, hbl, -⟩ := H.out.cells.2.2 k hkS
      have HC := Lib.hid (show ∀ wS, Below w.heap.size w wS → wS.cell? ⟨b, off + k * 3, none⟩ = some (.int .i64 S[k].rule) ∧ wS.cell? ⟨b, off + k * 3 + 1, none⟩ = some (.int .i64 S[k].level) ∧ wS.cell? ⟨b, off + k * 3 + 2, none⟩ = some (.int .i64 S[k].place) from fun wS hw => by
        obtain ⟨b2, off2, e, -, h1⟩ := (H.out.later hw).cells.2.2 k hkS
        simp only [Option.some.injEq, Addr.mk.injEq, and_true] at e
        obtain ⟨rfl, rfl⟩ := e
        exact h1)
      have hos := outK_snoc hkS x
      have HOs := Lib.hid hos
      obtain ⟨y, hy⟩ : ∃ y, y = S[k] := ⟨_, rfl⟩
      rw [← hy] at HC HOs
      have HBr := Lib.hid HR.out.2.2.1
      have HXr := Lib.hid HR.out.2.2.2
      have hle := outK_len S x
      clear hos hy hkS hbl
      by_cases he : y = x
      · have hd : decide (y = x) = true := by simpa using he
        have HE := Lib.hid he
        have hke := HKe.out y x
        rw [hd] at hke
        simp only [Bool.not_true, Bool.not_false] at hke
        have HKy := Lib.hid hke
        clear he hd hke
        go_upto_region 5 with (fail)
        refine wp_region_held_drew (S := fun z => Below wr.heap.size wr z) (by kernel_rfl) (Below.refl wr.heap.size wr).drew (fun hS => ?_)
        refine wpAnyH_take (i := 0) (oi := ⟨_, _, _, _, _, _⟩) (v := ?v1) rfl (by kernel_rfl) (by kernel_rfl) (by kernel_rfl) (fun _ _ _ h => h) ?y1 hS ?_
        case y1 => first | (refine Or.inr ⟨by rfl, ?_⟩; with_reducible rfl) | (refine Or.inl ⟨by rfl, ?_⟩; intro wS hSw; obtain ⟨c0, c1, c2⟩ := HC.out wS (HBr.out.trans (hSw.mono HBr.out.size)); obtain ⟨b0, b1, b2, -⟩ := three_box ((hSw.block _ (lt_of_block HXr.out)).trans HXr.out); go_simp; try with_reducible rfl)
        simp only [Act.put, List.setIfInBounds_toArray, List.set_cons_zero, List.set_cons_succ]
        refine wpAnyH_take (i := 1) (oi := ⟨_, _, _, _, _, _⟩) (v := ?v2) rfl (by kernel_rfl) (by kernel_rfl) (by kernel_rfl) (fun _ _ _ h => h) ?y2 hS ?_
        case y2 => first | (refine Or.inr ⟨by rfl, ?_⟩; with_reducible rfl) | (refine Or.inl ⟨by rfl, ?_⟩; intro wS hSw; obtain ⟨c0, c1, c2⟩ := HC.out wS (HBr.out.trans (hSw.mono HBr.out.size)); obtain ⟨b0, b1, b2, -⟩ := three_box ((hSw.block _ (lt_of_block HXr.out)).trans HXr.out); go_simp; try with_reducible rfl)
        simp only [Act.put, List.setIfInBounds_toArray, List.set_cons_zero, List.set_cons_succ]
        refine wpAnyH_take (i := 2) (oi := ⟨_, _, _, _, _, _⟩) (v := ?v3) rfl (by kernel_rfl) (by kernel_rfl) (by kernel_rfl) (fun _ _ _ h => h) ?y3 hS ?_
        case y3 => first | (refine Or.inr ⟨by rfl, ?_⟩; with_reducible rfl) | (refine Or.inl ⟨by rfl, ?_⟩; intro wS hSw; obtain ⟨c0, c1, c2⟩ := HC.out wS (HBr.out.trans (hSw.mono HBr.out.size)); obtain ⟨b0, b1, b2, -⟩ := three_box ((hSw.block _ (lt_of_block HXr.out)).trans HXr.out); go_simp; try with_reducible rfl)
        simp only [Act.put, List.setIfInBounds_toArray, List.set_cons_zero, List.set_cons_succ]
        refine wpAnyH_take (i := 3) (oi := ⟨_, _, _, _, _, _⟩) (v := ?v4) rfl (by kernel_rfl) (by kernel_rfl) (by kernel_rfl) (fun _ _ _ h => h) ?y4 hS ?_
        case y4 => first | (refine Or.inr ⟨by rfl, ?_⟩; with_reducible rfl) | (refine Or.inl ⟨by rfl, ?_⟩; intro wS hSw; obtain ⟨c0, c1, c2⟩ := HC.out wS (HBr.out.trans (hSw.mono HBr.out.size)); obtain ⟨b0, b1, b2, -⟩ := three_box ((hSw.block _ (lt_of_block HXr.out)).trans HXr.out); go_simp; try with_reducible rfl)
        simp only [Act.put, List.setIfInBounds_toArray, List.set_cons_zero, List.set_cons_succ]
        refine wpAnyH_take (i := 4) (oi := ⟨_, _, _, _, _, _⟩) (v := ?v5) rfl (by kernel_rfl) (by kernel_rfl) (by kernel_rfl) (fun _ _ _ h => h) ?y5 hS ?_
        case y5 => first | (refine Or.inr ⟨by rfl, ?_⟩; with_reducible rfl) | (refine Or.inl ⟨by rfl, ?_⟩; intro wS hSw; obtain ⟨c0, c1, c2⟩ := HC.out wS (HBr.out.trans (hSw.mono HBr.out.size)); obtain ⟨b0, b1, b2, -⟩ := three_box ((hSw.block _ (lt_of_block HXr.out)).trans HXr.out); go_simp; try with_reducible rfl)
        simp only [Act.put, List.setIfInBounds_toArray, List.set_cons_zero, List.set_cons_succ]
        refine wpAnyH_take (i := 5) (oi := ⟨_, _, _, _, _, _⟩) (v := ?v6) rfl (by kernel_rfl) (by kernel_rfl) (by kernel_rfl) (fun _ _ _ h => h) ?y6 hS ?_
        case y6 => first | (refine Or.inr ⟨by rfl, ?_⟩; with_reducible rfl) | (refine Or.inl ⟨by rfl, ?_⟩; intro wS hSw; have hke := HKy.out; go_simp; try with_reducible rfl)
        simp only [Act.put, List.setIfInBounds_toArray, List.set_cons_zero, List.set_cons_succ]
        refine wpAnyH_done (by kernel_rfl) ?_ _
        have HBz := Lib.hid (HBr.out.trans (hS.mono HBr.out.size))
        have HO2 := Lib.hid (row_later HR.out.2.1 hS)
        have HXz := Lib.hid ((hS.block _ (lt_of_block HXr.out)).trans HXr.out)
        clear hS
        generalize wr.drew = wz at *
        go_wp2
        go_roundw
        case rel => exact ⟨k + 1, no, ca0, cc0, by omega, by omega, by go_num, rfl, Lib.hid ⟨by rw [HOs.out, if_neg (fun h => h HE.out), List.append_nil]; exact HR.out.1, by rw [HOs.out, if_neg (fun h => h HE.out), List.append_nil]; exact HO2.out, HBz.out, HXz.out⟩⟩
        case measure => simp [intOf]; omega
      · have hd : decide (y = x) = false := by simpa using he
        have HE := Lib.hid he
        have hke := HKe.out y x
        rw [hd] at hke
        simp only [Bool.not_true, Bool.not_false] at hke
        have HKy := Lib.hid hke
        clear he hd hke
        go_upto_region 5 with (fail)
        refine wp_region_held_drew (S := fun z => Below wr.heap.size wr z) (by kernel_rfl) (Below.refl wr.heap.size wr).drew (fun hS => ?_)
        refine wpAnyH_take (i := 0) (oi := ⟨_, _, _, _, _, _⟩) (v := ?v7) rfl (by kernel_rfl) (by kernel_rfl) (by kernel_rfl) (fun _ _ _ h => h) ?y7 hS ?_
        case y7 => first | (refine Or.inr ⟨by rfl, ?_⟩; with_reducible rfl) | (refine Or.inl ⟨by rfl, ?_⟩; intro wS hSw; obtain ⟨c0, c1, c2⟩ := HC.out wS (HBr.out.trans (hSw.mono HBr.out.size)); obtain ⟨b0, b1, b2, -⟩ := three_box ((hSw.block _ (lt_of_block HXr.out)).trans HXr.out); go_simp; try with_reducible rfl)
        simp only [Act.put, List.setIfInBounds_toArray, List.set_cons_zero, List.set_cons_succ]
        refine wpAnyH_take (i := 1) (oi := ⟨_, _, _, _, _, _⟩) (v := ?v8) rfl (by kernel_rfl) (by kernel_rfl) (by kernel_rfl) (fun _ _ _ h => h) ?y8 hS ?_
        case y8 => first | (refine Or.inr ⟨by rfl, ?_⟩; with_reducible rfl) | (refine Or.inl ⟨by rfl, ?_⟩; intro wS hSw; obtain ⟨c0, c1, c2⟩ := HC.out wS (HBr.out.trans (hSw.mono HBr.out.size)); obtain ⟨b0, b1, b2, -⟩ := three_box ((hSw.block _ (lt_of_block HXr.out)).trans HXr.out); go_simp; try with_reducible rfl)
        simp only [Act.put, List.setIfInBounds_toArray, List.set_cons_zero, List.set_cons_succ]
        refine wpAnyH_take (i := 2) (oi := ⟨_, _, _, _, _, _⟩) (v := ?v9) rfl (by kernel_rfl) (by kernel_rfl) (by kernel_rfl) (fun _ _ _ h => h) ?y9 hS ?_
        case y9 => first | (refine Or.inr ⟨by rfl, ?_⟩; with_reducible rfl) | (refine Or.inl ⟨by rfl, ?_⟩; intro wS hSw; obtain ⟨c0, c1, c2⟩ := HC.out wS (HBr.out.trans (hSw.mono HBr.out.size)); obtain ⟨b0, b1, b2, -⟩ := three_box ((hSw.block _ (lt_of_block HXr.out)).trans HXr.out); go_simp; try with_reducible rfl)
        simp only [Act.put, List.setIfInBounds_toArray, List.set_cons_zero, List.set_cons_succ]
        refine wpAnyH_take (i := 3) (oi := ⟨_, _, _, _, _, _⟩) (v := ?v10) rfl (by kernel_rfl) (by kernel_rfl) (by kernel_rfl) (fun _ _ _ h => h) ?y10 hS ?_
        case y10 => first | (refine Or.inr ⟨by rfl, ?_⟩; with_reducible rfl) | (refine Or.inl ⟨by rfl, ?_⟩; intro wS hSw; obtain ⟨c0, c1, c2⟩ := HC.out wS (HBr.out.trans (hSw.mono HBr.out.size)); obtain ⟨b0, b1, b2, -⟩ := three_box ((hSw.block _ (lt_of_block HXr.out)).trans HXr.out); go_simp; try with_reducible rfl)
        simp only [Act.put, List.setIfInBounds_toArray, List.set_cons_zero, List.set_cons_succ]
        refine wpAnyH_take (i := 4) (oi := ⟨_, _, _, _, _, _⟩) (v := ?v11) rfl (by kernel_rfl) (by kernel_rfl) (by kernel_rfl) (fun _ _ _ h => h) ?y11 hS ?_
        case y11 => first | (refine Or.inr ⟨by rfl, ?_⟩; with_reducible rfl) | (refine Or.inl ⟨by rfl, ?_⟩; intro wS hSw; obtain ⟨c0, c1, c2⟩ := HC.out wS (HBr.out.trans (hSw.mono HBr.out.size)); obtain ⟨b0, b1, b2, -⟩ := three_box ((hSw.block _ (lt_of_block HXr.out)).trans HXr.out); go_simp; try with_reducible rfl)
        simp only [Act.put, List.setIfInBounds_toArray, List.set_cons_zero, List.set_cons_succ]
        refine wpAnyH_take (i := 5) (oi := ⟨_, _, _, _, _, _⟩) (v := ?v12) rfl (by kernel_rfl) (by kernel_rfl) (by kernel_rfl) (fun _ _ _ h => h) ?y12 hS ?_
        case y12 => first | (refine Or.inr ⟨by rfl, ?_⟩; with_reducible rfl) | (refine Or.inl ⟨by rfl, ?_⟩; intro wS hSw; have hke := HKy.out; go_simp; try with_reducible rfl)
        simp only [Act.put, List.setIfInBounds_toArray, List.set_cons_zero, List.set_cons_succ]
        refine wpAnyH_done (by kernel_rfl) ?_ _
        have HBz := Lib.hid (HBr.out.trans (hS.mono HBr.out.size))
        have HO2 := Lib.hid (row_later HR.out.2.1 hS)
        have HXz := Lib.hid ((hS.block _ (lt_of_block HXr.out)).trans HXr.out)
        clear hS
        generalize wr.drew = wz at *
        obtain ⟨c0, c1, c2⟩ := HC.out wz HBz.out
        go_wp2_with (at_builtin; refine wpList_append_own _ rfl (.tmp 19) (.tmp 24) 22 rfl (w.heap.size + 1) 31 i0 _ 3 24 Try.underlying22 hi0 hz0 hz1 hz2 rfl (by decide) _ no _ rfl (HO2.out.alloc _) ⟨wz.heap.size, 0, none⟩ 1 1 [.int .i64 y.rule, .int .i64 y.level, .int .i64 y.place] rfl rfl (World.news_of_block (cs := #[.int .i64 y.rule, .int .i64 y.level, .int .i64 y.place]) (t := 31) (fr := (0, 0)) (heap_alloc_new wz _)) (by simp [Value.oneCell']) (by unfold maxLen; omega) (by omega) (by have := HBz.out.size; simp; omega) ?_; intro v' w1 hown hgrow _; obtain ⟨ca, cc, rfl⟩ := own_val hown; have hb1 : Below w.heap.size w w1 := HBz.out.trans (((Below.refl w.heap.size wz).alloc HBz.out.size _).grown hgrow (by have := HBz.out.size; simp; omega) (fun r hr => by have := (HO2.out.lt r hr).1; omega)))
        have HF := Lib.hid (show no + 1 = (outK (S.take (k + 1)) x).length ∧ w1.ownsRow (w.heap.size + 1) 31 3 (.slice ca (no + 1) cc) (no + 1) ((outK (S.take (k + 1)) x).flatMap kyc) ∧ Below w.heap.size w w1 ∧ w1.heap[X]? = some (.cells #[.int .i64 x.rule, .int .i64 x.level, .int .i64 x.place] 31 (0, 0)) from by
          rw [HOs.out, if_pos HE.out]
          refine ⟨by rw [List.length_append]; have := HR.out.1; simp; omega, by rw [List.flatMap_append]; simpa [kyc] using hown, hb1, ?_⟩
          have h1 : (wz.alloc (.cells #[.int .i64 y.rule, .int .i64 y.level, .int .i64 y.place] 31 (0, 0))).heap[X]? = some (.cells #[.int .i64 x.rule, .int .i64 x.level, .int .i64 x.place] 31 (0, 0)) := (heap_alloc_old _ _ (lt_of_block HXz.out)).trans HXz.out
          exact (hgrow.block X (lt_of_block h1) (fun e => by have := (HO2.out.lt X e.symm).1; have := HXe.out; omega)).trans h1)
        clear hown hgrow hb1 c0 c1 c2
        go_wp2
        go_roundw
        case rel => exact ⟨k + 1, no + 1, ca, cc, by omega, by omega, by go_num, rfl, HF⟩
        case measure => simp [intOf]; omega
    · obtain rfl : k = n := by omega
      have hlt2 : ¬ (k : Int) < k := by omega
      have HT := Lib.hid (show S.take k = S from by rw [HN.out, List.take_length])
      go_wp2
      go_ret
      obtain ⟨h1, h2, h3, -⟩ := HR.out
      rw [HT.out] at h1 h2
      exact ⟨_, rfl, by unfold KyOwn; rw [← h1]; exact ownsRow_base h2 (Nat.le_succ _), h3⟩
end Go.Proofs.Ytpchjpmkkiopiaa
