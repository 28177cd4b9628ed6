/-
  SpanEnds: the walk.
-/
import Derived.Test.YtndminmefacmnaaSoA
namespace Go.Proofs.Ytndminmefacmnaa
open Go.RowKit Go.Lib

/-- the row of spans under way. -/
structure EnS (w wr : World) (ta : Option Addr) (tn tc : Nat) (L : List Sg) : Prop where
  row : wr.ownsRow w.heap.size 23 2 (.slice ta tn tc) tn (L.flatMap sgc)
  len : tn = L.length
  ok : ∀ s ∈ L, s.to ≤ 4
  bel : Below w.heap.size w wr
theorem row_later2 {B n : Nat} {w w' : World} {v : Value} {xs : List Value} (h : w.ownsRow B 23 2 v n xs) (hb : Below w.heap.size w w') : w'.ownsRow B 23 2 v n xs := (Keeps.ofNew hb (fun _ => False)).row h (fun _ _ h => h)
theorem EnS.later {w wr w2 : World} {ta : Option Addr} {tn tc : Nat} {L : List Sg} (h : EnS w wr ta tn tc L) (hb : Below wr.heap.size wr w2) : EnS w w2 ta tn tc L :=
  ⟨row_later2 h.row hb, h.len, h.ok, h.bel.trans (hb.mono h.bel.size)⟩
theorem EnS.at {w wr : World} {ta : Option Addr} {tn tc : Nat} {L : List Sg} (h : EnS w wr ta tn tc L) : SgsAt wr (.slice ta tn tc) L := by
  have := h.row
  rw [h.len] at this ⊢
  exact SgOwn.at this
theorem gen_anyH {P : Program} {md : Region.Mode} {ops : Array Oper} {Q : Exit → Act → World → Prop} {S : World → Prop} {fuel : Nat} {listed : Array Bool} {a : Act} {w : World} (S2 : World → Prop) (h : S2 w)
    (k : ∀ w', S2 w' → wpAnyH P md ops Q S fuel listed a w') : wpAnyH P md ops Q S fuel listed a w := k w h
/-- a row of naughts, made. -/
def zerosB (m : Nat) : List UInt8 := List.replicate m 0
theorem make_bytes (m : Nat) (hm : m < 5) (w : World) : (Instr.makeSlice 35 (.int .i64 (m : Int)) (.int .i64 (m : Int))).run Try.prog w = .ok (.slice (some ⟨w.heap.size, 0, none⟩) m m) (w.alloc (.cells (bv (zerosB m)).toArray 5)) := by
  obtain ⟨i0, hi, hz0, hz1, hz2⟩ := info_parts Try.info5
  rw [run_makeSlice w 35 5 i0 (.int .u8 0) Try.underlying35 hi hz0 .i64 .i64 (m : Int) (m : Int) (by omega) (Int.le_refl _) (by rw [hz1]; omega) (by rw [hz2]; omega) (by omega)]
  rw [hz1]
  rcases (by omega : m = 0 ∨ m = 1 ∨ m = 2 ∨ m = 3 ∨ m = 4) with rfl | rfl | rfl | rfl | rfl <;> (simp [madeCells, zerosB, bv, Value.cells, Array.range_succ, Array.range_zero', List.replicate])
theorem bytes_block {w : World} {Z m : Nat} (t : List UInt8) (ht : t.length = m) (hm : m ≤ 1000000) (h : w.heap[Z]? = some (.cells (bv t).toArray 5 (0, 0))) : BytesAt w (.slice (some ⟨Z, 0, none⟩) m m) t := by
  subst ht
  refine bytes_own (B := 0) (own_shut (by simp [bv]) (Nat.zero_le _) h (Nat.le_refl _) (by unfold maxLen; omega) (by simp [bv]) ?_)
  rw [List.take_of_length_le (by simp [bv])]
def en5 : Nat → Int := fun i => if i = 0 then -9223372036854775808 else if i = 1 then -1 else if i = 2 then 0 else if i = 3 then 1 else 9223372036854775807
theorem en5_le (i : Nat) : en5 i ≤ 9223372036854775807 := by
  unfold en5
  split
  · omega
  · split
    · omega
    · split
      · omega
      · split <;> omega
theorem en5_cell {w : World} {x : Nat} (h : w.heap[x]? = some (.cells #[.int .i64 (-9223372036854775808), .int .i64 (-1), .int .i64 0, .int .i64 1, .int .i64 9223372036854775807] 3 (0, 0))) {i : Nat} (hi : i < 5) : w.cell? ⟨x, i, none⟩ = some (.int .i64 (en5 i)) := by
  rw [(block_cell' h i).1]
  rcases (by omega : i = 0 ∨ i = 1 ∨ i = 2 ∨ i = 3 ∨ i = 4) with rfl | rfl | rfl | rfl | rfl <;> rfl
theorem tmod_nat (n k : Nat) (hk : 0 < k) : ∃ m : Nat, (n : Int).tmod k = (m : Int) ∧ (n : Int) % k = (m : Int) ∧ m < k :=
  ⟨n % k, by rw [Int.tmod_eq_emod_of_nonneg (by omega)]; omega, by omega, Nat.mod_lt _ hk⟩
set_option maxRecDepth 100000 in
set_option maxHeartbeats 40000000 in
theorem spanEnds_main (w : World) : Calls Try.prog 7 #[] w fun e w' => e = .returned (.bool true) ∧ Below w.heap.size w w' := by
  have HT := Lib.hid (fun (a b c d pl : Int) (u : World) (h : b ≤ 9223372036854775807) => spanTells_main a b c d pl u h)
  have HR := Lib.hid (fun (fr tz : Int) (v vt : Value) (l : List Sg) (t : List UInt8) (u : World) (h : SgsAt u v l) (ht : BytesAt u vt t) (hto : ∀ s ∈ l, s.to ≤ 9223372036854775807) (htz : tz ≤ 9223372036854775807) (hln : l.length ≤ 1000000) (htn : t.length ≤ 1000000) => spanRows_main fr tz v vt l t u h ht hto hto htz (by omega) (by omega))
  have HAw := Lib.hid (fun u => awake_any u)
  obtain ⟨i0, hi0, hzz0, hz1, hz2⟩ := info_parts Try.infoSpan
  have HI := Lib.hid (And.intro hi0 (And.intro hzz0 (And.intro hz1 hz2)))
  clear hi0 hzz0 hz1 hz2
  go_enter Try.func7, Try.ntmps7
  go_wp2
  go_loopw [1, 2] (fun v y wr => ∃ (i tn tc : Nat) (ta : Option Addr) (x : Int) (L : List Sg), i ≤ 5 ∧ v = .slice ta tn tc ∧ y = .int .i64 x ∧ -1 ≤ x ∧ x ≤ 4 ∧ tn ≤ 25 ∧ Hid (x = i - 1) ∧ Hid (tn = 5 * i) ∧ Hid (EnS w wr ta tn tc L)) (fun _ y _ => (4 - intOf y).toNat)
  case atStart => exact ⟨0, 0, 0, none, -1, [], by omega, rfl, rfl, by omega, by omega, by omega, Lib.hid rfl, Lib.hid rfl, Lib.hid ⟨World.ownsRow_nil _ _ _ _, rfl, by simp, Below.refl _ _⟩⟩
  case round =>
    obtain ⟨i, tn, tc, ta, x, L, hi, rfl, rfl, hx0, hx4, htn, HX, HTn, HS⟩ := hrel
    by_cases hlt : x < 4
    · have hi5 : i < 5 := by have := HX.out; omega
      go_wp2
      go_loopw [1, 3] (fun v y wr => ∃ (j tn tc : Nat) (ta : Option Addr) (z : Int) (L : List Sg), j ≤ 5 ∧ v = .slice ta tn tc ∧ y = .int .i64 z ∧ -1 ≤ z ∧ z ≤ 4 ∧ tn ≤ 25 ∧ Hid (z = j - 1) ∧ Hid (tn = 5 * i + j) ∧ Hid (EnS w wr ta tn tc L)) (fun _ y _ => (4 - intOf y).toNat)
      case atStart => exact ⟨0, tn, tc, ta, -1, L, by omega, rfl, rfl, by omega, by omega, htn, Lib.hid rfl, Lib.hid HTn.out, HS⟩
      case round =>
        clear HS HTn htn
        obtain ⟨j, tn, tc, ta, z, L, hj, rfl, rfl, hz0, hz4, htn, HZ, HTn, HS⟩ := hrel
        by_cases hlz : z < 4
        · have htn2 : tn < 25 := by have h1 := HTn.out; have h2 := HZ.out; omega
          obtain ⟨hi0, hzz0, hz1, hz2⟩ := HI.out
          go_upto_region 7 with (at_builtin; refine wpList_append_own _ rfl (.tmp 19) (.tmp 23) 24 rfl w.heap.size 23 i0 _ 2 16 Try.underlying24 hi0 hzz0 hz1 hz2 rfl (by decide) _ tn _ rfl (HS.out.row.alloc _) ⟨wr.heap.size, 0, none⟩ 1 1 [.int .i64 x, .int .i64 z] rfl rfl (World.news_of_block (cs := #[.int .i64 x, .int .i64 z]) (t := 23) (fr := (0, 0)) (heap_alloc_new wr _)) (by simp [Value.oneCell']) (by unfold maxLen; omega) (by omega) (by have := HS.out.bel.size; simp; omega) ?_; intro v' w9 hown hgrow _; obtain ⟨ta4, tc4, rfl⟩ := own_val hown; have HS9 := Lib.hid (show EnS w w9 ta4 (tn + 1) tc4 (L ++ [(⟨x, z⟩ : Sg)]) from ⟨by rw [List.flatMap_append]; simpa [sgc] using hown, by simp [HS.out.len], fun s hs => by rcases List.mem_append.1 hs with hs | hs; exact HS.out.ok s hs; simp at hs; subst hs; exact hz4, (HS.out.bel.alloc HS.out.bel.size _).grown hgrow (by have := HS.out.bel.size; simp; omega) (fun r hr => (HS.out.row.lt r hr).1)⟩); clear hown hgrow hi0 hzz0 hz1 hz2)
          go_wp2
          go_roundw
          case rel => exact ⟨j + 1, tn + 1, tc4, ta4, z + 1, _, by have := HZ.out; omega, rfl, by go_num, by omega, by omega, by omega, Lib.hid (by have := HZ.out; omega), Lib.hid (by have := HTn.out; omega), HS9⟩
          case measure => have h1 : intOf (.int .i64 (z + 1)) = z + 1 := rfl; have h2 : intOf (.int .i64 z) = z := rfl; go_num
        · go_wp2
          go_roundw
          case rel => exact ⟨i + 1, tn, tc, ta, x + 1, L, by omega, rfl, by go_num, by omega, by omega, htn, Lib.hid (by have := HX.out; omega), Lib.hid (by have h1 := HTn.out; have h2 := HZ.out; omega), HS⟩
          case measure => have h1 : intOf (.int .i64 (x + 1)) = x + 1 := rfl; have h2 : intOf (.int .i64 x) = x := rfl; go_num
    · have HT25 := Lib.hid (show tn = 25 from by have h1 := HTn.out; have h2 := HX.out; omega)
      clear HTn HX hx0 hx4
      go_wp2
      go_loopw [4] (fun y wr => ∃ i : Nat, i ≤ tn ∧ y = .int .i64 i ∧ Hid (EnS w wr ta tn tc L)) (fun y _ => tn - (intOf y).toNat)
      case atStart => exact ⟨0, Nat.zero_le _, rfl, HS⟩
      case round =>
        clear HS
        obtain ⟨i, hi, rfl, HS⟩ := hrel
        by_cases hlt : i < tn
        · have hlt2 : (i : Int) < tn := by omega
          go_wp2
          go_loopw [5] (fun y wr => ∃ k : Nat, k ≤ tn ∧ y = .int .i64 k ∧ Hid (EnS w wr ta tn tc L)) (fun y _ => tn - (intOf y).toNat)
          case atStart => exact ⟨0, Nat.zero_le _, rfl, HS⟩
          case round =>
            clear HS
            obtain ⟨k, hk, rfl, HS⟩ := hrel
            by_cases hkl : k < tn
            · have hkl2 : (k : Int) < tn := by omega
              have hiL : i < L.length := by rw [← HS.out.len]; exact hlt
              have hkL : k < L.length := by rw [← HS.out.len]; exact hkl
              obtain ⟨b, off, rfl, -, -⟩ := HS.out.at.cells.2.2.2.2 i hiL
              obtain ⟨m1, hm1, hm1', hm1l⟩ := tmod_nat (i + k) 25 (by omega)
              obtain ⟨m2, hm2, hm2', hm2l⟩ := tmod_nat (i * 7 + k * 3) 25 (by omega)
              obtain ⟨m3, hm3, hm3', hm3l⟩ := tmod_nat k 6 (by omega)
              obtain ⟨m4, hm4, hm4', hm4l⟩ := tmod_nat k 5 (by omega)
              simp only [Int.natCast_add, Int.natCast_mul, Int.cast_ofNat_Int] at hm1 hm1' hm2 hm2' hm3 hm3' hm4 hm4'
              have hw1 : IntKind.i64.wrap ((i : Int) + k) = (i : Int) + k := IntWalk.i64_in _ (by omega)
              have hw2 : IntKind.i64.wrap ((i : Int) * 7) = (i : Int) * 7 := IntWalk.i64_in _ (by omega)
              have hw3 : IntKind.i64.wrap ((k : Int) * 3) = (k : Int) * 3 := IntWalk.i64_in _ (by omega)
              have hw4 : IntKind.i64.wrap ((i : Int) * 7 + (k : Int) * 3) = (i : Int) * 7 + (k : Int) * 3 := IntWalk.i64_in _ (by omega)
              have hw5 : IntKind.i64.wrap ((m3 : Int) - 1) = (m3 : Int) - 1 := IntWalk.i64_in _ (by omega)
              have h1t : m1 < tn := by rw [HT25.out]; exact hm1l
              have h2t : m2 < tn := by rw [HT25.out]; exact hm2l
              have h1t2 : (m1 : Int) < tn := by omega
              have h2t2 : (m2 : Int) < tn := by omega
              have HCs := Lib.hid (show ∀ wS, Below wr.heap.size wr wS → ∀ i (_ : i < L.length), wS.cell? ⟨b, off + i * 2, none⟩ = some (.int .i64 L[i].fr) ∧ wS.cell? ⟨b, off + i * 2 + 1, none⟩ = some (.int .i64 L[i].to) from fun wS hw i hi => by
                obtain ⟨b2, off2, e, -, h1⟩ := (HS.out.at.later hw).cells.2.2.2.2 i hi
                simp only [Option.some.injEq, Addr.mk.injEq, and_true] at e
                obtain ⟨rfl, rfl⟩ := e
                exact h1)
              have h1L : m1 < L.length := by rw [← HS.out.len]; exact h1t
              have h2L : m2 < L.length := by rw [← HS.out.len]; exact h2t
              obtain ⟨si, hsi⟩ : ∃ s, s = L[i] := ⟨_, rfl⟩
              obtain ⟨sk, hsk⟩ : ∃ s, s = L[k] := ⟨_, rfl⟩
              obtain ⟨s1, hs1⟩ : ∃ s, s = L[m1] := ⟨_, rfl⟩
              obtain ⟨s2, hs2⟩ : ∃ s, s = L[m2] := ⟨_, rfl⟩
              have HC := Lib.hid (show ∀ wS, Below wr.heap.size wr wS → (wS.cell? ⟨b, off + i * 2, none⟩ = some (.int .i64 si.fr) ∧ wS.cell? ⟨b, off + i * 2 + 1, none⟩ = some (.int .i64 si.to)) ∧ (wS.cell? ⟨b, off + k * 2, none⟩ = some (.int .i64 sk.fr) ∧ wS.cell? ⟨b, off + k * 2 + 1, none⟩ = some (.int .i64 sk.to)) ∧ (wS.cell? ⟨b, off + m1 * 2, none⟩ = some (.int .i64 s1.fr) ∧ wS.cell? ⟨b, off + m1 * 2 + 1, none⟩ = some (.int .i64 s1.to)) ∧ (wS.cell? ⟨b, off + m2 * 2, none⟩ = some (.int .i64 s2.fr) ∧ wS.cell? ⟨b, off + m2 * 2 + 1, none⟩ = some (.int .i64 s2.to)) from fun wS hw => by
                rw [hsi, hsk, hs1, hs2]
                exact ⟨HCs.out wS hw i hiL, HCs.out wS hw k hkL, HCs.out wS hw m1 h1L, HCs.out wS hw m2 h2L⟩)
              have HO := Lib.hid (show si.to ≤ 4 ∧ sk.to ≤ 4 ∧ s1.to ≤ 4 ∧ s2.to ≤ 4 from by
                rw [hsi, hsk, hs1, hs2]
                exact ⟨HS.out.ok _ (List.getElem_mem hiL), HS.out.ok _ (List.getElem_mem hkL), HS.out.ok _ (List.getElem_mem h1L), HS.out.ok _ (List.getElem_mem h2L)⟩)
              have HMk := Lib.hid (make_bytes m4 hm4l)
              clear hsi hsk hs1 hs2 hiL hkL h1L h2L HCs hm1l hm2l
              go_upto_region 15 with (fail)
              refine wp_region_held_drew (S := fun z => Below wr.heap.size wr z) (by kernel_rfl) (Below.refl _ _).drew (fun hS => ?_)
              refine wpAnyH_take (i := 0) (oi := ⟨_, _, _, _, _, _⟩) (v := ?v1) rfl (by kernel_rfl) (by kernel_rfl) (by kernel_rfl) (fun _ _ _ h => h) ?y1 hS ?_
              case y1 => first | (refine Or.inr ⟨by rfl, ?_⟩; with_reducible rfl) | (refine Or.inl ⟨by rfl, ?_⟩; intro wS hSw; obtain ⟨⟨c0, c1⟩, ⟨d0, d1⟩, ⟨e0, e1⟩, f0, f1⟩ := HC.out wS hSw; go_simp; try with_reducible rfl)
              simp only [Act.put, List.setIfInBounds_toArray, List.set_cons_zero, List.set_cons_succ]
              refine wpAnyH_take (i := 1) (oi := ⟨_, _, _, _, _, _⟩) (v := ?v2) rfl (by kernel_rfl) (by kernel_rfl) (by kernel_rfl) (fun _ _ _ h => h) ?y2 hS ?_
              case y2 => first | (refine Or.inr ⟨by rfl, ?_⟩; with_reducible rfl) | (refine Or.inl ⟨by rfl, ?_⟩; intro wS hSw; obtain ⟨⟨c0, c1⟩, ⟨d0, d1⟩, ⟨e0, e1⟩, f0, f1⟩ := HC.out wS hSw; go_simp; try with_reducible rfl)
              simp only [Act.put, List.setIfInBounds_toArray, List.set_cons_zero, List.set_cons_succ]
              refine wpAnyH_take (i := 2) (oi := ⟨_, _, _, _, _, _⟩) (v := ?v3) rfl (by kernel_rfl) (by kernel_rfl) (by kernel_rfl) (fun _ _ _ h => h) ?y3 hS ?_
              case y3 => first | (refine Or.inr ⟨by rfl, ?_⟩; with_reducible rfl) | (refine Or.inl ⟨by rfl, ?_⟩; intro wS hSw; obtain ⟨⟨c0, c1⟩, ⟨d0, d1⟩, ⟨e0, e1⟩, f0, f1⟩ := HC.out wS hSw; go_simp; try with_reducible rfl)
              simp only [Act.put, List.setIfInBounds_toArray, List.set_cons_zero, List.set_cons_succ]
              refine wpAnyH_take (i := 3) (oi := ⟨_, _, _, _, _, _⟩) (v := ?v4) rfl (by kernel_rfl) (by kernel_rfl) (by kernel_rfl) (fun _ _ _ h => h) ?y4 hS ?_
              case y4 => first | (refine Or.inr ⟨by rfl, ?_⟩; with_reducible rfl) | (refine Or.inl ⟨by rfl, ?_⟩; intro wS hSw; obtain ⟨⟨c0, c1⟩, ⟨d0, d1⟩, ⟨e0, e1⟩, f0, f1⟩ := HC.out wS hSw; go_simp; try with_reducible rfl)
              simp only [Act.put, List.setIfInBounds_toArray, List.set_cons_zero, List.set_cons_succ]
              refine wpAnyH_take (i := 4) (oi := ⟨_, _, _, _, _, _⟩) (v := ?v5) rfl (by kernel_rfl) (by kernel_rfl) (by kernel_rfl) (fun _ _ _ h => h) ?y5 hS ?_
              case y5 => first | (refine Or.inr ⟨by rfl, ?_⟩; with_reducible rfl) | (refine Or.inl ⟨by rfl, ?_⟩; intro wS hSw; obtain ⟨⟨c0, c1⟩, ⟨d0, d1⟩, ⟨e0, e1⟩, f0, f1⟩ := HC.out wS hSw; go_simp; try with_reducible rfl)
              simp only [Act.put, List.setIfInBounds_toArray, List.set_cons_zero, List.set_cons_succ]
              refine wpAnyH_take (i := 5) (oi := ⟨_, _, _, _, _, _⟩) (v := ?v6) rfl (by kernel_rfl) (by kernel_rfl) (by kernel_rfl) (fun _ _ _ h => h) ?y6 hS ?_
              case y6 => first | (refine Or.inr ⟨by rfl, ?_⟩; with_reducible rfl) | (refine Or.inl ⟨by rfl, ?_⟩; intro wS hSw; obtain ⟨⟨c0, c1⟩, ⟨d0, d1⟩, ⟨e0, e1⟩, f0, f1⟩ := HC.out wS hSw; go_simp; try with_reducible rfl)
              simp only [Act.put, List.setIfInBounds_toArray, List.set_cons_zero, List.set_cons_succ]
              refine wpAnyH_take (i := 6) (oi := ⟨_, _, _, _, _, _⟩) (v := ?v7) rfl (by kernel_rfl) (by kernel_rfl) (by kernel_rfl) (fun _ _ _ h => h) ?y7 hS ?_
              case y7 => first | (refine Or.inr ⟨by rfl, ?_⟩; with_reducible rfl) | (refine Or.inl ⟨by rfl, ?_⟩; intro wS hSw; obtain ⟨⟨c0, c1⟩, ⟨d0, d1⟩, ⟨e0, e1⟩, f0, f1⟩ := HC.out wS hSw; go_simp; try with_reducible rfl)
              simp only [Act.put, List.setIfInBounds_toArray, List.set_cons_zero, List.set_cons_succ]
              refine wpAnyH_take (i := 7) (oi := ⟨_, _, _, _, _, _⟩) (v := ?v8) rfl (by kernel_rfl) (by kernel_rfl) (by kernel_rfl) (fun _ _ _ h => h) ?y8 hS ?_
              case y8 => first | (refine Or.inr ⟨by rfl, ?_⟩; with_reducible rfl) | (refine Or.inl ⟨by rfl, ?_⟩; intro wS hSw; obtain ⟨⟨c0, c1⟩, ⟨d0, d1⟩, ⟨e0, e1⟩, f0, f1⟩ := HC.out wS hSw; go_simp; try with_reducible rfl)
              simp only [Act.put, List.setIfInBounds_toArray, List.set_cons_zero, List.set_cons_succ]
              refine wpAnyH_take (i := 8) (oi := ⟨_, _, _, _, _, _⟩) (v := ?v9) rfl (by kernel_rfl) (by kernel_rfl) (by kernel_rfl) (fun _ _ _ h => h) ?y9 hS ?_
              case y9 => first | (refine Or.inr ⟨by rfl, ?_⟩; with_reducible rfl) | (refine Or.inl ⟨by rfl, ?_⟩; intro wS hSw; obtain ⟨⟨c0, c1⟩, ⟨d0, d1⟩, ⟨e0, e1⟩, f0, f1⟩ := HC.out wS hSw; go_simp; try with_reducible rfl)
              simp only [Act.put, List.setIfInBounds_toArray, List.set_cons_zero, List.set_cons_succ]
              refine wpAnyH_take (i := 9) (oi := ⟨_, _, _, _, _, _⟩) (v := ?v10) rfl (by kernel_rfl) (by kernel_rfl) (by kernel_rfl) (fun _ _ _ h => h) ?y10 hS ?_
              case y10 => first | (refine Or.inr ⟨by rfl, ?_⟩; with_reducible rfl) | (refine Or.inl ⟨by rfl, ?_⟩; intro wS hSw; obtain ⟨⟨c0, c1⟩, ⟨d0, d1⟩, ⟨e0, e1⟩, f0, f1⟩ := HC.out wS hSw; go_simp; try with_reducible rfl)
              simp only [Act.put, List.setIfInBounds_toArray, List.set_cons_zero, List.set_cons_succ]
              refine wpAnyH_take (i := 10) (oi := ⟨_, _, _, _, _, _⟩) (v := ?v11) rfl (by kernel_rfl) (by kernel_rfl) (by kernel_rfl) (fun _ _ _ h => h) ?y11 hS ?_
              case y11 => first | (refine Or.inr ⟨by rfl, ?_⟩; with_reducible rfl) | (refine Or.inl ⟨by rfl, ?_⟩; intro wS hSw; obtain ⟨⟨c0, c1⟩, ⟨d0, d1⟩, ⟨e0, e1⟩, f0, f1⟩ := HC.out wS hSw; go_simp; try with_reducible rfl)
              simp only [Act.put, List.setIfInBounds_toArray, List.set_cons_zero, List.set_cons_succ]
              refine wpAnyH_take (i := 11) (oi := ⟨_, _, _, _, _, _⟩) (v := ?v12) rfl (by kernel_rfl) (by kernel_rfl) (by kernel_rfl) (fun _ _ _ h => h) ?y12 hS ?_
              case y12 => first | (refine Or.inr ⟨by rfl, ?_⟩; with_reducible rfl) | (refine Or.inl ⟨by rfl, ?_⟩; intro wS hSw; obtain ⟨⟨c0, c1⟩, ⟨d0, d1⟩, ⟨e0, e1⟩, f0, f1⟩ := HC.out wS hSw; go_simp; try with_reducible rfl)
              simp only [Act.put, List.setIfInBounds_toArray, List.set_cons_zero, List.set_cons_succ]
              refine wpAnyH_take (i := 12) (oi := ⟨_, _, _, _, _, _⟩) (v := ?v13) rfl (by kernel_rfl) (by kernel_rfl) (by kernel_rfl) (fun _ _ _ h => h) ?y13 hS ?_
              case y13 => first | (refine Or.inr ⟨by rfl, ?_⟩; with_reducible rfl) | (refine Or.inl ⟨by rfl, ?_⟩; intro wS hSw; obtain ⟨⟨c0, c1⟩, ⟨d0, d1⟩, ⟨e0, e1⟩, f0, f1⟩ := HC.out wS hSw; go_simp; try with_reducible rfl)
              simp only [Act.put, List.setIfInBounds_toArray, List.set_cons_zero, List.set_cons_succ]
              refine wpAnyH_take (i := 13) (oi := ⟨_, _, _, _, _, _⟩) (v := ?v14) rfl (by kernel_rfl) (by kernel_rfl) (by kernel_rfl) (fun _ _ _ h => h) ?y14 hS ?_
              case y14 => first | (refine Or.inr ⟨by rfl, ?_⟩; with_reducible rfl) | (refine Or.inl ⟨by rfl, ?_⟩; intro wS hSw; obtain ⟨⟨c0, c1⟩, ⟨d0, d1⟩, ⟨e0, e1⟩, f0, f1⟩ := HC.out wS hSw; go_simp; try with_reducible rfl)
              simp only [Act.put, List.setIfInBounds_toArray, List.set_cons_zero, List.set_cons_succ]
              refine wpAnyH_take (i := 14) (oi := ⟨_, _, _, _, _, _⟩) (v := ?v15) rfl (by kernel_rfl) (by kernel_rfl) (by kernel_rfl) (fun _ _ _ h => h) ?y15 hS ?_
              case y15 => first | (refine Or.inr ⟨by rfl, ?_⟩; with_reducible rfl) | (refine Or.inl ⟨by rfl, ?_⟩; intro wS hSw; obtain ⟨⟨c0, c1⟩, ⟨d0, d1⟩, ⟨e0, e1⟩, f0, f1⟩ := HC.out wS hSw; go_simp; try with_reducible rfl)
              simp only [Act.put, List.setIfInBounds_toArray, List.set_cons_zero, List.set_cons_succ]
              refine wpAnyH_take (i := 15) (oi := ⟨_, _, _, _, _, _⟩) (v := ?v16) rfl (by kernel_rfl) (by kernel_rfl) (by kernel_rfl) (fun _ _ _ h => h) ?y16 hS ?_
              case y16 => first | (refine Or.inr ⟨by rfl, ?_⟩; with_reducible rfl) | (refine Or.inl ⟨by rfl, ?_⟩; intro wS hSw; obtain ⟨⟨c0, c1⟩, ⟨d0, d1⟩, ⟨e0, e1⟩, f0, f1⟩ := HC.out wS hSw; go_simp; try with_reducible rfl)
              simp only [Act.put, List.setIfInBounds_toArray, List.set_cons_zero, List.set_cons_succ]
              refine wpAnyH_take (i := 16) (oi := ⟨_, _, _, _, _, _⟩) (v := ?v17) rfl (by kernel_rfl) (by kernel_rfl) (by kernel_rfl) (fun _ _ _ h => h) ?y17 hS ?_
              case y17 => first | (refine Or.inr ⟨by rfl, ?_⟩; with_reducible rfl) | (refine Or.inl ⟨by rfl, ?_⟩; intro wS hSw; obtain ⟨⟨c0, c1⟩, ⟨d0, d1⟩, ⟨e0, e1⟩, f0, f1⟩ := HC.out wS hSw; go_simp; try with_reducible rfl)
              simp only [Act.put, List.setIfInBounds_toArray, List.set_cons_zero, List.set_cons_succ]
              refine wpAnyH_take (i := 17) (oi := ⟨_, _, _, _, _, _⟩) (v := ?v18) rfl (by kernel_rfl) (by kernel_rfl) (by kernel_rfl) (fun _ _ _ h => h) ?y18 hS ?_
              case y18 => first | (refine Or.inr ⟨by rfl, ?_⟩; with_reducible rfl) | (refine Or.inl ⟨by rfl, ?_⟩; intro wS hSw; obtain ⟨⟨c0, c1⟩, ⟨d0, d1⟩, ⟨e0, e1⟩, f0, f1⟩ := HC.out wS hSw; go_simp; try with_reducible rfl)
              simp only [Act.put, List.setIfInBounds_toArray, List.set_cons_zero, List.set_cons_succ]
              refine wpAnyH_take (i := 18) (oi := ⟨_, _, _, _, _, _⟩) (v := ?v19) rfl (by kernel_rfl) (by kernel_rfl) (by kernel_rfl) (fun _ _ _ h => h) ?y19 hS ?_
              case y19 => first | (refine Or.inr ⟨by rfl, ?_⟩; with_reducible rfl) | (refine Or.inl ⟨by rfl, ?_⟩; intro wS hSw; obtain ⟨⟨c0, c1⟩, ⟨d0, d1⟩, ⟨e0, e1⟩, f0, f1⟩ := HC.out wS hSw; go_simp; try with_reducible rfl)
              simp only [Act.put, List.setIfInBounds_toArray, List.set_cons_zero, List.set_cons_succ]
              refine wpAnyH_take (i := 19) (oi := ⟨_, _, _, _, _, _⟩) (v := ?v20) rfl (by kernel_rfl) (by kernel_rfl) (by kernel_rfl) (fun _ _ _ h => h) ?y20 hS ?_
              case y20 => first | (refine Or.inr ⟨by rfl, ?_⟩; with_reducible rfl) | (refine Or.inl ⟨by rfl, ?_⟩; intro wS hSw; obtain ⟨⟨c0, c1⟩, ⟨d0, d1⟩, ⟨e0, e1⟩, f0, f1⟩ := HC.out wS hSw; go_simp; try with_reducible rfl)
              simp only [Act.put, List.setIfInBounds_toArray, List.set_cons_zero, List.set_cons_succ]
              refine wpAnyH_ready (rs := [20]) (by kernel_rfl) (by simp) ?_
              refine AllReadyH.cons (o := ⟨_, _, _, _, _, _⟩) rfl (fun K hK => ?_) AllReadyH.nil
              go_simp
              refine hK.out _ _ (hS.alloc hS.size _) (fun hS1 => ?_)
              clear hK K
              try simp only [Act.put, List.setIfInBounds_toArray, List.set_cons_zero, List.set_cons_succ]
              refine gen_anyH (S2 := fun z => Below wr.heap.size wr z ∧ z.heap[wr.heap.size]? = some (.cells #[.int .i64 sk.fr, .int .i64 sk.to, .int .i64 s1.fr, .int .i64 s1.to, .int .i64 s2.fr, .int .i64 s2.to] 23 (0, 0))) ⟨hS1, (one_new wr _).2⟩ (fun u hu => ?_)
              clear hS hS1
              obtain ⟨hS, hy⟩ := hu
              have HB0 := Lib.hid hS
              refine wpAnyH_take (i := 21) (oi := ⟨_, _, _, _, _, _⟩) (v := ?v21) rfl (by kernel_rfl) (by kernel_rfl) (by kernel_rfl) (fun _ _ _ h => h) ?y21 hS ?_
              case y21 => first | (refine Or.inr ⟨by rfl, ?_⟩; with_reducible rfl) | (refine Or.inl ⟨by rfl, ?_⟩; intro wS hSw; go_simp; try with_reducible rfl)
              simp only [Act.put, List.setIfInBounds_toArray, List.set_cons_zero, List.set_cons_succ]
              refine wpAnyH_done (by kernel_rfl) ?_ _
              obtain ⟨Y, hY⟩ : ∃ Y, Y = wr.heap.size := ⟨_, rfl⟩
              rw [← hY] at hy ⊢
              have HY := Lib.hid hy
              clear hy hY hS
              go_upto_region 16 with (fail)
              refine wp_region_held_drew (S := fun z => Below wr.heap.size wr z ∧ z.heap[Y]? = some (.cells #[.int .i64 sk.fr, .int .i64 sk.to, .int .i64 s1.fr, .int .i64 s1.to, .int .i64 s2.fr, .int .i64 s2.to] 23 (0, 0))) (by kernel_rfl) ⟨HB0.out.drew, HY.out⟩ (fun hS => ?_)
              refine wpAnyH_take (i := 0) (oi := ⟨_, _, _, _, _, _⟩) (v := ?v22) rfl (by kernel_rfl) (by kernel_rfl) (by kernel_rfl) (fun _ _ _ h => h) ?y22 hS ?_
              case y22 => first | (refine Or.inr ⟨by rfl, ?_⟩; with_reducible rfl) | (refine Or.inl ⟨by rfl, ?_⟩; intro wS hSw; obtain ⟨hB, hy⟩ := hSw; obtain ⟨⟨c0, c1⟩, ⟨d0, d1⟩, ⟨e0, e1⟩, f0, f1⟩ := HC.out wS hB; go_simp; try with_reducible rfl)
              simp only [Act.put, List.setIfInBounds_toArray, List.set_cons_zero, List.set_cons_succ]
              refine wpAnyH_take (i := 1) (oi := ⟨_, _, _, _, _, _⟩) (v := ?v23) rfl (by kernel_rfl) (by kernel_rfl) (by kernel_rfl) (fun _ _ _ h => h) ?y23 hS ?_
              case y23 => first | (refine Or.inr ⟨by rfl, ?_⟩; with_reducible rfl) | (refine Or.inl ⟨by rfl, ?_⟩; intro wS hSw; obtain ⟨hB, hy⟩ := hSw; obtain ⟨⟨c0, c1⟩, ⟨d0, d1⟩, ⟨e0, e1⟩, f0, f1⟩ := HC.out wS hB; go_simp; try with_reducible rfl)
              simp only [Act.put, List.setIfInBounds_toArray, List.set_cons_zero, List.set_cons_succ]
              refine wpAnyH_take (i := 2) (oi := ⟨_, _, _, _, _, _⟩) (v := ?v24) rfl (by kernel_rfl) (by kernel_rfl) (by kernel_rfl) (fun _ _ _ h => h) ?y24 hS ?_
              case y24 => first | (refine Or.inr ⟨by rfl, ?_⟩; with_reducible rfl) | (refine Or.inl ⟨by rfl, ?_⟩; intro wS hSw; obtain ⟨hB, hy⟩ := hSw; obtain ⟨⟨c0, c1⟩, ⟨d0, d1⟩, ⟨e0, e1⟩, f0, f1⟩ := HC.out wS hB; go_simp; try with_reducible rfl)
              simp only [Act.put, List.setIfInBounds_toArray, List.set_cons_zero, List.set_cons_succ]
              refine wpAnyH_take (i := 3) (oi := ⟨_, _, _, _, _, _⟩) (v := ?v25) rfl (by kernel_rfl) (by kernel_rfl) (by kernel_rfl) (fun _ _ _ h => h) ?y25 hS ?_
              case y25 => first | (refine Or.inr ⟨by rfl, ?_⟩; with_reducible rfl) | (refine Or.inl ⟨by rfl, ?_⟩; intro wS hSw; obtain ⟨hB, hy⟩ := hSw; obtain ⟨⟨c0, c1⟩, ⟨d0, d1⟩, ⟨e0, e1⟩, f0, f1⟩ := HC.out wS hB; go_simp; try with_reducible rfl)
              simp only [Act.put, List.setIfInBounds_toArray, List.set_cons_zero, List.set_cons_succ]
              refine wpAnyH_take (i := 4) (oi := ⟨_, _, _, _, _, _⟩) (v := ?v26) rfl (by kernel_rfl) (by kernel_rfl) (by kernel_rfl) (fun _ _ _ h => h) ?y26 hS ?_
              case y26 => first | (refine Or.inr ⟨by rfl, ?_⟩; with_reducible rfl) | (refine Or.inl ⟨by rfl, ?_⟩; intro wS hSw; obtain ⟨hB, hy⟩ := hSw; obtain ⟨⟨c0, c1⟩, ⟨d0, d1⟩, ⟨e0, e1⟩, f0, f1⟩ := HC.out wS hB; go_simp; try with_reducible rfl)
              simp only [Act.put, List.setIfInBounds_toArray, List.set_cons_zero, List.set_cons_succ]
              refine wpAnyH_take (i := 5) (oi := ⟨_, _, _, _, _, _⟩) (v := ?v27) rfl (by kernel_rfl) (by kernel_rfl) (by kernel_rfl) (fun _ _ _ h => h) ?y27 hS ?_
              case y27 => first | (refine Or.inr ⟨by rfl, ?_⟩; with_reducible rfl) | (refine Or.inl ⟨by rfl, ?_⟩; intro wS hSw; obtain ⟨hB, hy⟩ := hSw; obtain ⟨⟨c0, c1⟩, ⟨d0, d1⟩, ⟨e0, e1⟩, f0, f1⟩ := HC.out wS hB; go_simp; try with_reducible rfl)
              simp only [Act.put, List.setIfInBounds_toArray, List.set_cons_zero, List.set_cons_succ]
              refine wpAnyH_take (i := 6) (oi := ⟨_, _, _, _, _, _⟩) (v := ?v28) rfl (by kernel_rfl) (by kernel_rfl) (by kernel_rfl) (fun _ _ _ h => h) ?y28 hS ?_
              case y28 => first | (refine Or.inr ⟨by rfl, ?_⟩; with_reducible rfl) | (refine Or.inl ⟨by rfl, ?_⟩; intro wS hSw; obtain ⟨hB, hy⟩ := hSw; obtain ⟨⟨c0, c1⟩, ⟨d0, d1⟩, ⟨e0, e1⟩, f0, f1⟩ := HC.out wS hB; go_simp; try with_reducible rfl)
              simp only [Act.put, List.setIfInBounds_toArray, List.set_cons_zero, List.set_cons_succ]
              refine wpAnyH_take (i := 7) (oi := ⟨_, _, _, _, _, _⟩) (v := ?v29) rfl (by kernel_rfl) (by kernel_rfl) (by kernel_rfl) (fun _ _ _ h => h) ?y29 hS ?_
              case y29 => first | (refine Or.inr ⟨by rfl, ?_⟩; with_reducible rfl) | (refine Or.inl ⟨by rfl, ?_⟩; intro wS hSw; obtain ⟨hB, hy⟩ := hSw; obtain ⟨⟨c0, c1⟩, ⟨d0, d1⟩, ⟨e0, e1⟩, f0, f1⟩ := HC.out wS hB; go_simp; try with_reducible rfl)
              simp only [Act.put, List.setIfInBounds_toArray, List.set_cons_zero, List.set_cons_succ]
              refine wpAnyH_take (i := 8) (oi := ⟨_, _, _, _, _, _⟩) (v := ?v30) rfl (by kernel_rfl) (by kernel_rfl) (by kernel_rfl) (fun _ _ _ h => h) ?y30 hS ?_
              case y30 => first | (refine Or.inr ⟨by rfl, ?_⟩; with_reducible rfl) | (refine Or.inl ⟨by rfl, ?_⟩; intro wS hSw; obtain ⟨hB, hy⟩ := hSw; obtain ⟨⟨c0, c1⟩, ⟨d0, d1⟩, ⟨e0, e1⟩, f0, f1⟩ := HC.out wS hB; go_simp; try with_reducible rfl)
              simp only [Act.put, List.setIfInBounds_toArray, List.set_cons_zero, List.set_cons_succ]
              refine wpAnyH_take (i := 9) (oi := ⟨_, _, _, _, _, _⟩) (v := ?v31) rfl (by kernel_rfl) (by kernel_rfl) (by kernel_rfl) (fun _ _ _ h => h) ?y31 hS ?_
              case y31 => first | (refine Or.inr ⟨by rfl, ?_⟩; with_reducible rfl) | (refine Or.inl ⟨by rfl, ?_⟩; intro wS hSw; obtain ⟨hB, hy⟩ := hSw; obtain ⟨⟨c0, c1⟩, ⟨d0, d1⟩, ⟨e0, e1⟩, f0, f1⟩ := HC.out wS hB; go_simp; try with_reducible rfl)
              simp only [Act.put, List.setIfInBounds_toArray, List.set_cons_zero, List.set_cons_succ]
              refine wpAnyH_take (i := 10) (oi := ⟨_, _, _, _, _, _⟩) (v := ?v32) rfl (by kernel_rfl) (by kernel_rfl) (by kernel_rfl) (fun _ _ _ h => h) ?y32 hS ?_
              case y32 => first | (refine Or.inr ⟨by rfl, ?_⟩; with_reducible rfl) | (refine Or.inl ⟨by rfl, ?_⟩; intro wS hSw; obtain ⟨hB, hy⟩ := hSw; obtain ⟨⟨c0, c1⟩, ⟨d0, d1⟩, ⟨e0, e1⟩, f0, f1⟩ := HC.out wS hB; go_simp; try with_reducible rfl)
              simp only [Act.put, List.setIfInBounds_toArray, List.set_cons_zero, List.set_cons_succ]
              refine wpAnyH_ready (rs := [11]) (by kernel_rfl) (by simp) ?_
              refine AllReadyH.cons (o := ⟨_, _, _, _, _, _⟩) rfl (fun K hK => ?_) AllReadyH.nil
              go_simp
              refine (HT.out _ _ _ _ _ _ (by have := HO.out.1; omega)).mono ?_
              rintro e u1 ⟨rfl, hb⟩
              go_wp2_with fail
              have hS1 := show Below wr.heap.size wr u1 ∧ u1.heap[Y]? = some (.cells #[.int .i64 sk.fr, .int .i64 sk.to, .int .i64 s1.fr, .int .i64 s1.to, .int .i64 s2.fr, .int .i64 s2.to] 23 (0, 0)) from ⟨hS.1.trans (hb.mono hS.1.size), (hb.block _ (lt_of_block hS.2)).trans hS.2⟩
              refine hK.out _ _ hS1 (fun _ => ?_)
              clear hK K hb hS
              try simp only [Act.put, List.setIfInBounds_toArray, List.set_cons_zero, List.set_cons_succ]
              have hS := hS1
              clear hS1
              refine wpAnyH_take (i := 12) (oi := ⟨_, _, _, _, _, _⟩) (v := ?v33) rfl (by kernel_rfl) (by kernel_rfl) (by kernel_rfl) (fun _ _ _ h => h) ?y33 hS ?_
              case y33 => first | (refine Or.inr ⟨by rfl, ?_⟩; with_reducible rfl) | (refine Or.inl ⟨by rfl, ?_⟩; intro wS hSw; obtain ⟨hB, hy⟩ := hSw; obtain ⟨⟨c0, c1⟩, ⟨d0, d1⟩, ⟨e0, e1⟩, f0, f1⟩ := HC.out wS hB; go_simp; try with_reducible rfl)
              simp only [Act.put, List.setIfInBounds_toArray, List.set_cons_zero, List.set_cons_succ]
              refine wpAnyH_take (i := 13) (oi := ⟨_, _, _, _, _, _⟩) (v := ?v34) rfl (by kernel_rfl) (by kernel_rfl) (by kernel_rfl) (fun _ _ _ h => h) ?y34 hS ?_
              case y34 => first | (refine Or.inr ⟨by rfl, ?_⟩; with_reducible rfl) | (refine Or.inl ⟨by rfl, ?_⟩; intro wS hSw; obtain ⟨hB, hy⟩ := hSw; obtain ⟨⟨c0, c1⟩, ⟨d0, d1⟩, ⟨e0, e1⟩, f0, f1⟩ := HC.out wS hB; go_simp; try with_reducible rfl)
              simp only [Act.put, List.setIfInBounds_toArray, List.set_cons_zero, List.set_cons_succ]
              refine wpAnyH_take (i := 14) (oi := ⟨_, _, _, _, _, _⟩) (v := ?v35) rfl (by kernel_rfl) (by kernel_rfl) (by kernel_rfl) (fun _ _ _ h => h) ?y35 hS ?_
              case y35 => first | (refine Or.inr ⟨by rfl, ?_⟩; with_reducible rfl) | (refine Or.inl ⟨by rfl, ?_⟩; intro wS hSw; obtain ⟨hB, hy⟩ := hSw; obtain ⟨⟨c0, c1⟩, ⟨d0, d1⟩, ⟨e0, e1⟩, f0, f1⟩ := HC.out wS hB; go_simp; try with_reducible rfl)
              simp only [Act.put, List.setIfInBounds_toArray, List.set_cons_zero, List.set_cons_succ]
              refine wpAnyH_take (i := 15) (oi := ⟨_, _, _, _, _, _⟩) (v := ?v36) rfl (by kernel_rfl) (by kernel_rfl) (by kernel_rfl) (fun _ _ _ h => h) ?y36 hS ?_
              case y36 => first | (refine Or.inr ⟨by rfl, ?_⟩; with_reducible rfl) | (refine Or.inl ⟨by rfl, ?_⟩; intro wS hSw; obtain ⟨hB, hy⟩ := hSw; obtain ⟨⟨c0, c1⟩, ⟨d0, d1⟩, ⟨e0, e1⟩, f0, f1⟩ := HC.out wS hB; go_simp; try with_reducible rfl)
              simp only [Act.put, List.setIfInBounds_toArray, List.set_cons_zero, List.set_cons_succ]
              refine wpAnyH_take (i := 16) (oi := ⟨_, _, _, _, _, _⟩) (v := ?v37) rfl (by kernel_rfl) (by kernel_rfl) (by kernel_rfl) (fun _ _ _ h => h) ?y37 hS ?_
              case y37 => first | (refine Or.inr ⟨by rfl, ?_⟩; with_reducible rfl) | (refine Or.inl ⟨by rfl, ?_⟩; intro wS hSw; obtain ⟨hB, hy⟩ := hSw; obtain ⟨⟨c0, c1⟩, ⟨d0, d1⟩, ⟨e0, e1⟩, f0, f1⟩ := HC.out wS hB; go_simp; try with_reducible rfl)
              simp only [Act.put, List.setIfInBounds_toArray, List.set_cons_zero, List.set_cons_succ]
              refine wpAnyH_take (i := 17) (oi := ⟨_, _, _, _, _, _⟩) (v := ?v38) rfl (by kernel_rfl) (by kernel_rfl) (by kernel_rfl) (fun _ _ _ h => h) ?y38 hS ?_
              case y38 => first | (refine Or.inr ⟨by rfl, ?_⟩; with_reducible rfl) | (refine Or.inl ⟨by rfl, ?_⟩; intro wS hSw; obtain ⟨hB, hy⟩ := hSw; obtain ⟨⟨c0, c1⟩, ⟨d0, d1⟩, ⟨e0, e1⟩, f0, f1⟩ := HC.out wS hB; go_simp; try with_reducible rfl)
              simp only [Act.put, List.setIfInBounds_toArray, List.set_cons_zero, List.set_cons_succ]
              refine wpAnyH_take (i := 18) (oi := ⟨_, _, _, _, _, _⟩) (v := ?v39) rfl (by kernel_rfl) (by kernel_rfl) (by kernel_rfl) (fun _ _ _ h => h) ?y39 hS ?_
              case y39 => first | (refine Or.inr ⟨by rfl, ?_⟩; with_reducible rfl) | (refine Or.inl ⟨by rfl, ?_⟩; intro wS hSw; obtain ⟨hB, hy⟩ := hSw; obtain ⟨⟨c0, c1⟩, ⟨d0, d1⟩, ⟨e0, e1⟩, f0, f1⟩ := HC.out wS hB; go_simp; try with_reducible rfl)
              simp only [Act.put, List.setIfInBounds_toArray, List.set_cons_zero, List.set_cons_succ]
              refine wpAnyH_take (i := 19) (oi := ⟨_, _, _, _, _, _⟩) (v := ?v40) rfl (by kernel_rfl) (by kernel_rfl) (by kernel_rfl) (fun _ _ _ h => h) ?y40 hS ?_
              case y40 => first | (refine Or.inr ⟨by rfl, ?_⟩; with_reducible rfl) | (refine Or.inl ⟨by rfl, ?_⟩; intro wS hSw; obtain ⟨hB, hy⟩ := hSw; obtain ⟨⟨c0, c1⟩, ⟨d0, d1⟩, ⟨e0, e1⟩, f0, f1⟩ := HC.out wS hB; go_simp; try with_reducible rfl)
              simp only [Act.put, List.setIfInBounds_toArray, List.set_cons_zero, List.set_cons_succ]
              refine wpAnyH_take (i := 20) (oi := ⟨_, _, _, _, _, _⟩) (v := ?v41) rfl (by kernel_rfl) (by kernel_rfl) (by kernel_rfl) (fun _ _ _ h => h) ?y41 hS ?_
              case y41 => first | (refine Or.inr ⟨by rfl, ?_⟩; with_reducible rfl) | (refine Or.inl ⟨by rfl, ?_⟩; intro wS hSw; obtain ⟨hB, hy⟩ := hSw; obtain ⟨⟨c0, c1⟩, ⟨d0, d1⟩, ⟨e0, e1⟩, f0, f1⟩ := HC.out wS hB; go_simp; try with_reducible rfl)
              simp only [Act.put, List.setIfInBounds_toArray, List.set_cons_zero, List.set_cons_succ]
              refine wpAnyH_ready (rs := [21]) (by kernel_rfl) (by simp) ?_
              refine AllReadyH.cons (o := ⟨_, _, _, _, _, _⟩) rfl (fun K hK => ?_) AllReadyH.nil
              go_simp
              rw [HMk.out]
              go_simp
              refine hK.out _ _ ⟨hS.1.alloc hS.1.size _, (heap_alloc_old _ _ (lt_of_block hS.2)).trans hS.2⟩ (fun _ => ?_)
              clear hK K
              try simp only [Act.put, List.setIfInBounds_toArray, List.set_cons_zero, List.set_cons_succ]
              refine gen_anyH (S2 := fun z => (Below wr.heap.size wr z ∧ z.heap[Y]? = some (.cells #[.int .i64 sk.fr, .int .i64 sk.to, .int .i64 s1.fr, .int .i64 s1.to, .int .i64 s2.fr, .int .i64 s2.to] 23 (0, 0))) ∧ z.heap[u1.heap.size]? = some (.cells (bv (zerosB m4)).toArray 5 (0, 0))) ⟨⟨hS.1.alloc hS.1.size _, (heap_alloc_old _ _ (lt_of_block hS.2)).trans hS.2⟩, heap_alloc_new u1 _⟩ (fun u2 hu => ?_)
              clear hS
              obtain ⟨hS, hz⟩ := hu
              have HZ2 := Lib.hid hz
              clear hz
              refine wpAnyH_ready (rs := [22]) (by kernel_rfl) (by simp) ?_
              refine AllReadyH.cons (o := ⟨_, _, _, _, _, _⟩) rfl (fun K hK => ?_) AllReadyH.nil
              go_simp
              refine (HR.out _ _ _ _ [sk, s1, s2] (zerosB m4) _ (new_row sgc_len hS.2 (by simp) rfl) (bytes_block _ (by simp [zerosB]) (by omega) HZ2.out) (by have := HO.out; simp; omega) (by have := HO.out.1; omega) (by simp) (by simp [zerosB]; omega)).mono ?_
              rintro e u3 ⟨rfl, hb⟩
              go_wp2_with fail
              have hS1 := show Below wr.heap.size wr u3 ∧ u3.heap[Y]? = some (.cells #[.int .i64 sk.fr, .int .i64 sk.to, .int .i64 s1.fr, .int .i64 s1.to, .int .i64 s2.fr, .int .i64 s2.to] 23 (0, 0)) from ⟨hS.1.trans (hb.mono hS.1.size), (hb.block _ (lt_of_block hS.2)).trans hS.2⟩
              refine hK.out _ _ hS1 (fun _ => ?_)
              clear hK K hb hS
              try simp only [Act.put, List.setIfInBounds_toArray, List.set_cons_zero, List.set_cons_succ]
              have hS := hS1
              clear hS1
              refine wpAnyH_take (i := 23) (oi := ⟨_, _, _, _, _, _⟩) (v := ?v42) rfl (by kernel_rfl) (by kernel_rfl) (by kernel_rfl) (fun _ _ _ h => h) ?y42 hS ?_
              case y42 => first | (refine Or.inr ⟨by rfl, ?_⟩; with_reducible rfl) | (refine Or.inl ⟨by rfl, ?_⟩; intro wS hSw; obtain ⟨hB, hy⟩ := hSw; obtain ⟨⟨c0, c1⟩, ⟨d0, d1⟩, ⟨e0, e1⟩, f0, f1⟩ := HC.out wS hB; go_simp; try with_reducible rfl)
              simp only [Act.put, List.setIfInBounds_toArray, List.set_cons_zero, List.set_cons_succ]
              refine wpAnyH_take (i := 24) (oi := ⟨_, _, _, _, _, _⟩) (v := ?v43) rfl (by kernel_rfl) (by kernel_rfl) (by kernel_rfl) (fun _ _ _ h => h) ?y43 hS ?_
              case y43 => first | (refine Or.inr ⟨by rfl, ?_⟩; with_reducible rfl) | (refine Or.inl ⟨by rfl, ?_⟩; intro wS hSw; obtain ⟨hB, hy⟩ := hSw; obtain ⟨⟨c0, c1⟩, ⟨d0, d1⟩, ⟨e0, e1⟩, f0, f1⟩ := HC.out wS hB; go_simp; try with_reducible rfl)
              simp only [Act.put, List.setIfInBounds_toArray, List.set_cons_zero, List.set_cons_succ]
              refine wpAnyH_take (i := 25) (oi := ⟨_, _, _, _, _, _⟩) (v := ?v44) rfl (by kernel_rfl) (by kernel_rfl) (by kernel_rfl) (fun _ _ _ h => h) ?y44 hS ?_
              case y44 => first | (refine Or.inr ⟨by rfl, ?_⟩; with_reducible rfl) | (refine Or.inl ⟨by rfl, ?_⟩; intro wS hSw; obtain ⟨hB, hy⟩ := hSw; obtain ⟨⟨c0, c1⟩, ⟨d0, d1⟩, ⟨e0, e1⟩, f0, f1⟩ := HC.out wS hB; go_simp; try with_reducible rfl)
              simp only [Act.put, List.setIfInBounds_toArray, List.set_cons_zero, List.set_cons_succ]
              refine wpAnyH_take (i := 26) (oi := ⟨_, _, _, _, _, _⟩) (v := ?v45) rfl (by kernel_rfl) (by kernel_rfl) (by kernel_rfl) (fun _ _ _ h => h) ?y45 hS ?_
              case y45 => first | (refine Or.inr ⟨by rfl, ?_⟩; with_reducible rfl) | (refine Or.inl ⟨by rfl, ?_⟩; intro wS hSw; obtain ⟨hB, hy⟩ := hSw; obtain ⟨⟨c0, c1⟩, ⟨d0, d1⟩, ⟨e0, e1⟩, f0, f1⟩ := HC.out wS hB; go_simp; try with_reducible rfl)
              simp only [Act.put, List.setIfInBounds_toArray, List.set_cons_zero, List.set_cons_succ]
              refine wpAnyH_take (i := 27) (oi := ⟨_, _, _, _, _, _⟩) (v := ?v46) rfl (by kernel_rfl) (by kernel_rfl) (by kernel_rfl) (fun _ _ _ h => h) ?y46 hS ?_
              case y46 => first | (refine Or.inr ⟨by rfl, ?_⟩; with_reducible rfl) | (refine Or.inl ⟨by rfl, ?_⟩; intro wS hSw; obtain ⟨hB, hy⟩ := hSw; obtain ⟨⟨c0, c1⟩, ⟨d0, d1⟩, ⟨e0, e1⟩, f0, f1⟩ := HC.out wS hB; go_simp; try with_reducible rfl)
              simp only [Act.put, List.setIfInBounds_toArray, List.set_cons_zero, List.set_cons_succ]
              refine wpAnyH_ready (rs := [28]) (by kernel_rfl) (by simp) ?_
              refine AllReadyH.cons (o := ⟨_, _, _, _, _, _⟩) rfl (fun K hK => ?_) AllReadyH.nil
              go_simp
              refine (HR.out _ _ _ _ [sk, s1, s2] [] _ (new_row sgc_len hS.2 (by simp) rfl) (bytes_nil _) (by have := HO.out; simp; omega) (by omega) (by simp) (by simp)).mono ?_
              rintro e u4 ⟨rfl, hb⟩
              go_wp2_with fail
              have hS1 := show Below wr.heap.size wr u4 ∧ u4.heap[Y]? = some (.cells #[.int .i64 sk.fr, .int .i64 sk.to, .int .i64 s1.fr, .int .i64 s1.to, .int .i64 s2.fr, .int .i64 s2.to] 23 (0, 0)) from ⟨hS.1.trans (hb.mono hS.1.size), (hb.block _ (lt_of_block hS.2)).trans hS.2⟩
              refine hK.out _ _ hS1 (fun _ => ?_)
              clear hK K hb hS
              try simp only [Act.put, List.setIfInBounds_toArray, List.set_cons_zero, List.set_cons_succ]
              have hS := hS1
              clear hS1
              refine wpAnyH_take (i := 29) (oi := ⟨_, _, _, _, _, _⟩) (v := ?v47) rfl (by kernel_rfl) (by kernel_rfl) (by kernel_rfl) (fun _ _ _ h => h) ?y47 hS ?_
              case y47 => first | (refine Or.inr ⟨by rfl, ?_⟩; with_reducible rfl) | (refine Or.inl ⟨by rfl, ?_⟩; intro wS hSw; obtain ⟨hB, hy⟩ := hSw; obtain ⟨⟨c0, c1⟩, ⟨d0, d1⟩, ⟨e0, e1⟩, f0, f1⟩ := HC.out wS hB; go_simp; try with_reducible rfl)
              simp only [Act.put, List.setIfInBounds_toArray, List.set_cons_zero, List.set_cons_succ]
              refine wpAnyH_take (i := 30) (oi := ⟨_, _, _, _, _, _⟩) (v := ?v48) rfl (by kernel_rfl) (by kernel_rfl) (by kernel_rfl) (fun _ _ _ h => h) ?y48 hS ?_
              case y48 => first | (refine Or.inr ⟨by rfl, ?_⟩; with_reducible rfl) | (refine Or.inl ⟨by rfl, ?_⟩; intro wS hSw; obtain ⟨hB, hy⟩ := hSw; obtain ⟨⟨c0, c1⟩, ⟨d0, d1⟩, ⟨e0, e1⟩, f0, f1⟩ := HC.out wS hB; go_simp; try with_reducible rfl)
              simp only [Act.put, List.setIfInBounds_toArray, List.set_cons_zero, List.set_cons_succ]
              refine wpAnyH_done (by kernel_rfl) ?_ _
              have HSn := Lib.hid (HS.out.later hS.1)
              clear hS
              go_wp2
              go_roundw
              case rel => exact ⟨k + 1, by omega, by go_num, HSn⟩
              case measure => simp [intOf]; omega
            · obtain rfl : k = tn := by omega
              have hlt3 : ¬ (k : Int) < k := by omega
              go_wp2
              go_roundw
              case rel => exact ⟨i + 1, by omega, by go_num, HS⟩
              case measure => simp [intOf]; omega
        · obtain rfl : i = tn := by omega
          have hlt3 : ¬ (i : Int) < i := by omega
          go_upto_region 19 with (fail)
          refine gen_world (S := fun z => Below wr.heap.size wr z ∧ z.heap[wr.heap.size]? = some (.cells #[.int .i64 (-9223372036854775808), .int .i64 (-1), .int .i64 0, .int .i64 1, .int .i64 9223372036854775807] 3 (0, 0))) (one_new wr _) (fun u hu => ?_)
          obtain ⟨hb, hx⟩ := hu
          obtain ⟨E, hE⟩ : ∃ E, E = wr.heap.size := ⟨_, rfl⟩
          rw [← hE] at hx ⊢
          have HBu := Lib.hid (HS.out.bel.trans (hb.mono HS.out.bel.size))
          have HEu := Lib.hid hx
          clear hb hx hE HS
          go_wp2
          go_loopw [8] (fun y wr => ∃ i : Nat, i ≤ 5 ∧ y = .int .i64 i ∧ Hid (Below u.heap.size u wr)) (fun y _ => 5 - (intOf y).toNat)
          case atStart => exact ⟨0, by omega, rfl, Lib.hid (Below.refl _ _)⟩
          case round =>
            obtain ⟨i, hi, rfl, HW⟩ := hrel
            by_cases hi5 : i < 5
            · have hi52 : (i : Int) < 5 := by omega
              go_wp2
              go_loopw [9] (fun y wr => ∃ k : Nat, k ≤ 5 ∧ y = .int .i64 k ∧ Hid (Below u.heap.size u wr)) (fun y _ => 5 - (intOf y).toNat)
              case atStart => exact ⟨0, by omega, rfl, HW⟩
              case round =>
                clear HW
                obtain ⟨k, hk, rfl, HW⟩ := hrel
                by_cases hk5 : k < 5
                · have hk52 : (k : Int) < 5 := by omega
                  obtain ⟨xa, hxa⟩ : ∃ x, x = en5 i := ⟨_, rfl⟩
                  obtain ⟨xb, hxb⟩ : ∃ x, x = en5 k := ⟨_, rfl⟩
                  have HC := Lib.hid (show ∀ wS, Below u.heap.size u wS → wS.cell? ⟨E, i, none⟩ = some (.int .i64 xa) ∧ wS.cell? ⟨E, k, none⟩ = some (.int .i64 xb) from fun wS hw => by
                    rw [hxa, hxb]
                    exact ⟨en5_cell ((hw.block _ (lt_of_block HEu.out)).trans HEu.out) hi5, en5_cell ((hw.block _ (lt_of_block HEu.out)).trans HEu.out) hk5⟩)
                  have HXb := Lib.hid (show xb ≤ 9223372036854775807 from hxb ▸ en5_le k)
                  clear hxa hxb
                  go_upto_region 25 with (fail)
                  refine wp_region_held_drew (S := fun z => Below u.heap.size u z) (by kernel_rfl) HW.out.drew (fun hS => ?_)
                  refine wpAnyH_take (i := 0) (oi := ⟨_, _, _, _, _, _⟩) (v := ?v49) rfl (by kernel_rfl) (by kernel_rfl) (by kernel_rfl) (fun _ _ _ h => h) ?y49 hS ?_
                  case y49 => first | (refine Or.inr ⟨by rfl, ?_⟩; with_reducible rfl) | (refine Or.inl ⟨by rfl, ?_⟩; intro wS hSw; obtain ⟨c0, d0⟩ := HC.out wS hSw; go_simp; try with_reducible rfl)
                  simp only [Act.put, List.setIfInBounds_toArray, List.set_cons_zero, List.set_cons_succ]
                  refine wpAnyH_take (i := 1) (oi := ⟨_, _, _, _, _, _⟩) (v := ?v50) rfl (by kernel_rfl) (by kernel_rfl) (by kernel_rfl) (fun _ _ _ h => h) ?y50 hS ?_
                  case y50 => first | (refine Or.inr ⟨by rfl, ?_⟩; with_reducible rfl) | (refine Or.inl ⟨by rfl, ?_⟩; intro wS hSw; obtain ⟨c0, d0⟩ := HC.out wS hSw; go_simp; try with_reducible rfl)
                  simp only [Act.put, List.setIfInBounds_toArray, List.set_cons_zero, List.set_cons_succ]
                  refine wpAnyH_take (i := 2) (oi := ⟨_, _, _, _, _, _⟩) (v := ?v51) rfl (by kernel_rfl) (by kernel_rfl) (by kernel_rfl) (fun _ _ _ h => h) ?y51 hS ?_
                  case y51 => first | (refine Or.inr ⟨by rfl, ?_⟩; with_reducible rfl) | (refine Or.inl ⟨by rfl, ?_⟩; intro wS hSw; obtain ⟨c0, d0⟩ := HC.out wS hSw; go_simp; try with_reducible rfl)
                  simp only [Act.put, List.setIfInBounds_toArray, List.set_cons_zero, List.set_cons_succ]
                  refine wpAnyH_take (i := 3) (oi := ⟨_, _, _, _, _, _⟩) (v := ?v52) rfl (by kernel_rfl) (by kernel_rfl) (by kernel_rfl) (fun _ _ _ h => h) ?y52 hS ?_
                  case y52 => first | (refine Or.inr ⟨by rfl, ?_⟩; with_reducible rfl) | (refine Or.inl ⟨by rfl, ?_⟩; intro wS hSw; obtain ⟨c0, d0⟩ := HC.out wS hSw; go_simp; try with_reducible rfl)
                  simp only [Act.put, List.setIfInBounds_toArray, List.set_cons_zero, List.set_cons_succ]
                  refine wpAnyH_take (i := 4) (oi := ⟨_, _, _, _, _, _⟩) (v := ?v53) rfl (by kernel_rfl) (by kernel_rfl) (by kernel_rfl) (fun _ _ _ h => h) ?y53 hS ?_
                  case y53 => first | (refine Or.inr ⟨by rfl, ?_⟩; with_reducible rfl) | (refine Or.inl ⟨by rfl, ?_⟩; intro wS hSw; obtain ⟨c0, d0⟩ := HC.out wS hSw; go_simp; try with_reducible rfl)
                  simp only [Act.put, List.setIfInBounds_toArray, List.set_cons_zero, List.set_cons_succ]
                  refine wpAnyH_take (i := 5) (oi := ⟨_, _, _, _, _, _⟩) (v := ?v54) rfl (by kernel_rfl) (by kernel_rfl) (by kernel_rfl) (fun _ _ _ h => h) ?y54 hS ?_
                  case y54 => first | (refine Or.inr ⟨by rfl, ?_⟩; with_reducible rfl) | (refine Or.inl ⟨by rfl, ?_⟩; intro wS hSw; obtain ⟨c0, d0⟩ := HC.out wS hSw; go_simp; try with_reducible rfl)
                  simp only [Act.put, List.setIfInBounds_toArray, List.set_cons_zero, List.set_cons_succ]
                  refine wpAnyH_take (i := 6) (oi := ⟨_, _, _, _, _, _⟩) (v := ?v55) rfl (by kernel_rfl) (by kernel_rfl) (by kernel_rfl) (fun _ _ _ h => h) ?y55 hS ?_
                  case y55 => first | (refine Or.inr ⟨by rfl, ?_⟩; with_reducible rfl) | (refine Or.inl ⟨by rfl, ?_⟩; intro wS hSw; obtain ⟨c0, d0⟩ := HC.out wS hSw; go_simp; try with_reducible rfl)
                  simp only [Act.put, List.setIfInBounds_toArray, List.set_cons_zero, List.set_cons_succ]
                  refine wpAnyH_take (i := 7) (oi := ⟨_, _, _, _, _, _⟩) (v := ?v56) rfl (by kernel_rfl) (by kernel_rfl) (by kernel_rfl) (fun _ _ _ h => h) ?y56 hS ?_
                  case y56 => first | (refine Or.inr ⟨by rfl, ?_⟩; with_reducible rfl) | (refine Or.inl ⟨by rfl, ?_⟩; intro wS hSw; obtain ⟨c0, d0⟩ := HC.out wS hSw; go_simp; try with_reducible rfl)
                  simp only [Act.put, List.setIfInBounds_toArray, List.set_cons_zero, List.set_cons_succ]
                  refine wpAnyH_take (i := 8) (oi := ⟨_, _, _, _, _, _⟩) (v := ?v57) rfl (by kernel_rfl) (by kernel_rfl) (by kernel_rfl) (fun _ _ _ h => h) ?y57 hS ?_
                  case y57 => first | (refine Or.inr ⟨by rfl, ?_⟩; with_reducible rfl) | (refine Or.inl ⟨by rfl, ?_⟩; intro wS hSw; obtain ⟨c0, d0⟩ := HC.out wS hSw; go_simp; try with_reducible rfl)
                  simp only [Act.put, List.setIfInBounds_toArray, List.set_cons_zero, List.set_cons_succ]
                  refine wpAnyH_ready (rs := [9]) (by kernel_rfl) (by simp) ?_
                  refine AllReadyH.cons (o := ⟨_, _, _, _, _, _⟩) rfl (fun K hK => ?_) AllReadyH.nil
                  go_simp
                  refine hK.out _ _ (hS.alloc hS.size _) (fun hSd => ?_)
                  clear hSd hK K
                  try simp only [Act.put, List.setIfInBounds_toArray, List.set_cons_zero, List.set_cons_succ]
                  refine wpAnyH_ready (rs := [10]) (by kernel_rfl) (by simp) ?_
                  refine AllReadyH.cons (o := ⟨_, _, _, _, _, _⟩) rfl (fun K hK => ?_) AllReadyH.nil
                  go_simp
                  refine hK.out _ _ (hS.alloc hS.size _) (fun hS3 => ?_)
                  clear hK K
                  try simp only [Act.put, List.setIfInBounds_toArray, List.set_cons_zero, List.set_cons_succ]
                  refine gen_anyH (S2 := fun z => Below u.heap.size u z ∧ z.heap[wr.heap.size]? = some (.cells #[.int .i64 xa, .int .i64 xb] 23 (0, 0))) ⟨hS3, (one_new wr _).2⟩ (fun u0 hu => ?_)
                  refine wpAnyH_done (by kernel_rfl) ?_ _
                  clear hS hS3
                  obtain ⟨hb, hx⟩ := hu
                  obtain ⟨X, hX⟩ : ∃ X, X = wr.heap.size := ⟨_, rfl⟩
                  rw [← hX] at hx ⊢
                  have HB0 := Lib.hid hb
                  have HX0 := Lib.hid hx
                  clear hb hx hX HW
                  go_upto_region 26 with (fail)
                  refine wp_region_held_drew (S := fun z => Below u.heap.size u z ∧ z.heap[X]? = some (.cells #[.int .i64 xa, .int .i64 xb] 23 (0, 0))) (by kernel_rfl) ⟨HB0.out.drew, HX0.out⟩ (fun hS => ?_)
                  refine wpAnyH_take (i := 0) (oi := ⟨_, _, _, _, _, _⟩) (v := ?v58) rfl (by kernel_rfl) (by kernel_rfl) (by kernel_rfl) (fun _ _ _ h => h) ?y58 hS ?_
                  case y58 => first | (refine Or.inr ⟨by rfl, ?_⟩; with_reducible rfl) | (refine Or.inl ⟨by rfl, ?_⟩; intro wS hSw; obtain ⟨hB, hx⟩ := hSw; obtain ⟨c0, d0⟩ := HC.out wS hB; obtain ⟨e0, e1⟩ := two_box hx; go_simp; try with_reducible rfl)
                  simp only [Act.put, List.setIfInBounds_toArray, List.set_cons_zero, List.set_cons_succ]
                  refine wpAnyH_take (i := 1) (oi := ⟨_, _, _, _, _, _⟩) (v := ?v59) rfl (by kernel_rfl) (by kernel_rfl) (by kernel_rfl) (fun _ _ _ h => h) ?y59 hS ?_
                  case y59 => first | (refine Or.inr ⟨by rfl, ?_⟩; with_reducible rfl) | (refine Or.inl ⟨by rfl, ?_⟩; intro wS hSw; obtain ⟨hB, hx⟩ := hSw; obtain ⟨c0, d0⟩ := HC.out wS hB; obtain ⟨e0, e1⟩ := two_box hx; go_simp; try with_reducible rfl)
                  simp only [Act.put, List.setIfInBounds_toArray, List.set_cons_zero, List.set_cons_succ]
                  refine wpAnyH_take (i := 2) (oi := ⟨_, _, _, _, _, _⟩) (v := ?v60) rfl (by kernel_rfl) (by kernel_rfl) (by kernel_rfl) (fun _ _ _ h => h) ?y60 hS ?_
                  case y60 => first | (refine Or.inr ⟨by rfl, ?_⟩; with_reducible rfl) | (refine Or.inl ⟨by rfl, ?_⟩; intro wS hSw; obtain ⟨hB, hx⟩ := hSw; obtain ⟨c0, d0⟩ := HC.out wS hB; obtain ⟨e0, e1⟩ := two_box hx; go_simp; try with_reducible rfl)
                  simp only [Act.put, List.setIfInBounds_toArray, List.set_cons_zero, List.set_cons_succ]
                  refine wpAnyH_take (i := 3) (oi := ⟨_, _, _, _, _, _⟩) (v := ?v61) rfl (by kernel_rfl) (by kernel_rfl) (by kernel_rfl) (fun _ _ _ h => h) ?y61 hS ?_
                  case y61 => first | (refine Or.inr ⟨by rfl, ?_⟩; with_reducible rfl) | (refine Or.inl ⟨by rfl, ?_⟩; intro wS hSw; obtain ⟨hB, hx⟩ := hSw; obtain ⟨c0, d0⟩ := HC.out wS hB; obtain ⟨e0, e1⟩ := two_box hx; go_simp; try with_reducible rfl)
                  simp only [Act.put, List.setIfInBounds_toArray, List.set_cons_zero, List.set_cons_succ]
                  refine wpAnyH_take (i := 4) (oi := ⟨_, _, _, _, _, _⟩) (v := ?v62) rfl (by kernel_rfl) (by kernel_rfl) (by kernel_rfl) (fun _ _ _ h => h) ?y62 hS ?_
                  case y62 => first | (refine Or.inr ⟨by rfl, ?_⟩; with_reducible rfl) | (refine Or.inl ⟨by rfl, ?_⟩; intro wS hSw; obtain ⟨hB, hx⟩ := hSw; obtain ⟨c0, d0⟩ := HC.out wS hB; obtain ⟨e0, e1⟩ := two_box hx; go_simp; try with_reducible rfl)
                  simp only [Act.put, List.setIfInBounds_toArray, List.set_cons_zero, List.set_cons_succ]
                  refine wpAnyH_take (i := 5) (oi := ⟨_, _, _, _, _, _⟩) (v := ?v63) rfl (by kernel_rfl) (by kernel_rfl) (by kernel_rfl) (fun _ _ _ h => h) ?y63 hS ?_
                  case y63 => first | (refine Or.inr ⟨by rfl, ?_⟩; with_reducible rfl) | (refine Or.inl ⟨by rfl, ?_⟩; intro wS hSw; obtain ⟨hB, hx⟩ := hSw; obtain ⟨c0, d0⟩ := HC.out wS hB; obtain ⟨e0, e1⟩ := two_box hx; go_simp; try with_reducible rfl)
                  simp only [Act.put, List.setIfInBounds_toArray, List.set_cons_zero, List.set_cons_succ]
                  refine wpAnyH_ready (rs := [6]) (by kernel_rfl) (by simp) ?_
                  refine AllReadyH.cons (o := ⟨_, _, _, _, _, _⟩) rfl (fun K hK => ?_) AllReadyH.nil
                  go_simp
                  refine (HT.out _ _ _ _ _ _ HXb.out).mono ?_
                  rintro e u1 ⟨rfl, hb⟩
                  go_wp2_with fail
                  have hS1 := show Below u.heap.size u u1 ∧ u1.heap[X]? = some (.cells #[.int .i64 xa, .int .i64 xb] 23 (0, 0)) from ⟨hS.1.trans (hb.mono hS.1.size), (hb.block _ (lt_of_block hS.2)).trans hS.2⟩
                  refine hK.out _ _ hS1 (fun _ => ?_)
                  clear hK K hb hS
                  try simp only [Act.put, List.setIfInBounds_toArray, List.set_cons_zero, List.set_cons_succ]
                  have hS := hS1
                  clear hS1
                  refine wpAnyH_take (i := 7) (oi := ⟨_, _, _, _, _, _⟩) (v := ?v64) rfl (by kernel_rfl) (by kernel_rfl) (by kernel_rfl) (fun _ _ _ h => h) ?y64 hS ?_
                  case y64 => first | (refine Or.inr ⟨by rfl, ?_⟩; with_reducible rfl) | (refine Or.inl ⟨by rfl, ?_⟩; intro wS hSw; obtain ⟨hB, hx⟩ := hSw; obtain ⟨c0, d0⟩ := HC.out wS hB; obtain ⟨e0, e1⟩ := two_box hx; go_simp; try with_reducible rfl)
                  simp only [Act.put, List.setIfInBounds_toArray, List.set_cons_zero, List.set_cons_succ]
                  refine wpAnyH_take (i := 8) (oi := ⟨_, _, _, _, _, _⟩) (v := ?v65) rfl (by kernel_rfl) (by kernel_rfl) (by kernel_rfl) (fun _ _ _ h => h) ?y65 hS ?_
                  case y65 => first | (refine Or.inr ⟨by rfl, ?_⟩; with_reducible rfl) | (refine Or.inl ⟨by rfl, ?_⟩; intro wS hSw; obtain ⟨hB, hx⟩ := hSw; obtain ⟨c0, d0⟩ := HC.out wS hB; obtain ⟨e0, e1⟩ := two_box hx; go_simp; try with_reducible rfl)
                  simp only [Act.put, List.setIfInBounds_toArray, List.set_cons_zero, List.set_cons_succ]
                  refine wpAnyH_take (i := 9) (oi := ⟨_, _, _, _, _, _⟩) (v := ?v66) rfl (by kernel_rfl) (by kernel_rfl) (by kernel_rfl) (fun _ _ _ h => h) ?y66 hS ?_
                  case y66 => first | (refine Or.inr ⟨by rfl, ?_⟩; with_reducible rfl) | (refine Or.inl ⟨by rfl, ?_⟩; intro wS hSw; obtain ⟨hB, hx⟩ := hSw; obtain ⟨c0, d0⟩ := HC.out wS hB; obtain ⟨e0, e1⟩ := two_box hx; go_simp; try with_reducible rfl)
                  simp only [Act.put, List.setIfInBounds_toArray, List.set_cons_zero, List.set_cons_succ]
                  refine wpAnyH_take (i := 10) (oi := ⟨_, _, _, _, _, _⟩) (v := ?v67) rfl (by kernel_rfl) (by kernel_rfl) (by kernel_rfl) (fun _ _ _ h => h) ?y67 hS ?_
                  case y67 => first | (refine Or.inr ⟨by rfl, ?_⟩; with_reducible rfl) | (refine Or.inl ⟨by rfl, ?_⟩; intro wS hSw; obtain ⟨hB, hx⟩ := hSw; obtain ⟨c0, d0⟩ := HC.out wS hB; obtain ⟨e0, e1⟩ := two_box hx; go_simp; try with_reducible rfl)
                  simp only [Act.put, List.setIfInBounds_toArray, List.set_cons_zero, List.set_cons_succ]
                  refine wpAnyH_take (i := 11) (oi := ⟨_, _, _, _, _, _⟩) (v := ?v68) rfl (by kernel_rfl) (by kernel_rfl) (by kernel_rfl) (fun _ _ _ h => h) ?y68 hS ?_
                  case y68 => first | (refine Or.inr ⟨by rfl, ?_⟩; with_reducible rfl) | (refine Or.inl ⟨by rfl, ?_⟩; intro wS hSw; obtain ⟨hB, hx⟩ := hSw; obtain ⟨c0, d0⟩ := HC.out wS hB; obtain ⟨e0, e1⟩ := two_box hx; go_simp; try with_reducible rfl)
                  simp only [Act.put, List.setIfInBounds_toArray, List.set_cons_zero, List.set_cons_succ]
                  refine wpAnyH_take (i := 12) (oi := ⟨_, _, _, _, _, _⟩) (v := ?v69) rfl (by kernel_rfl) (by kernel_rfl) (by kernel_rfl) (fun _ _ _ h => h) ?y69 hS ?_
                  case y69 => first | (refine Or.inr ⟨by rfl, ?_⟩; with_reducible rfl) | (refine Or.inl ⟨by rfl, ?_⟩; intro wS hSw; obtain ⟨hB, hx⟩ := hSw; obtain ⟨c0, d0⟩ := HC.out wS hB; obtain ⟨e0, e1⟩ := two_box hx; go_simp; try with_reducible rfl)
                  simp only [Act.put, List.setIfInBounds_toArray, List.set_cons_zero, List.set_cons_succ]
                  refine wpAnyH_take (i := 13) (oi := ⟨_, _, _, _, _, _⟩) (v := ?v70) rfl (by kernel_rfl) (by kernel_rfl) (by kernel_rfl) (fun _ _ _ h => h) ?y70 hS ?_
                  case y70 => first | (refine Or.inr ⟨by rfl, ?_⟩; with_reducible rfl) | (refine Or.inl ⟨by rfl, ?_⟩; intro wS hSw; obtain ⟨hB, hx⟩ := hSw; obtain ⟨c0, d0⟩ := HC.out wS hB; obtain ⟨e0, e1⟩ := two_box hx; go_simp; try with_reducible rfl)
                  simp only [Act.put, List.setIfInBounds_toArray, List.set_cons_zero, List.set_cons_succ]
                  refine wpAnyH_take (i := 14) (oi := ⟨_, _, _, _, _, _⟩) (v := ?v71) rfl (by kernel_rfl) (by kernel_rfl) (by kernel_rfl) (fun _ _ _ h => h) ?y71 hS ?_
                  case y71 => first | (refine Or.inr ⟨by rfl, ?_⟩; with_reducible rfl) | (refine Or.inl ⟨by rfl, ?_⟩; intro wS hSw; obtain ⟨hB, hx⟩ := hSw; obtain ⟨c0, d0⟩ := HC.out wS hB; obtain ⟨e0, e1⟩ := two_box hx; go_simp; try with_reducible rfl)
                  simp only [Act.put, List.setIfInBounds_toArray, List.set_cons_zero, List.set_cons_succ]
                  refine wpAnyH_ready (rs := [15]) (by kernel_rfl) (by simp) ?_
                  refine AllReadyH.cons (o := ⟨_, _, _, _, _, _⟩) rfl (fun K hK => ?_) AllReadyH.nil
                  go_simp
                  refine (HT.out _ _ _ _ _ _ (by omega)).mono ?_
                  rintro e u2 ⟨rfl, hb⟩
                  go_wp2_with fail
                  have hS1 := show Below u.heap.size u u2 ∧ u2.heap[X]? = some (.cells #[.int .i64 xa, .int .i64 xb] 23 (0, 0)) from ⟨hS.1.trans (hb.mono hS.1.size), (hb.block _ (lt_of_block hS.2)).trans hS.2⟩
                  refine hK.out _ _ hS1 (fun _ => ?_)
                  clear hK K hb hS
                  try simp only [Act.put, List.setIfInBounds_toArray, List.set_cons_zero, List.set_cons_succ]
                  have hS := hS1
                  clear hS1
                  refine wpAnyH_take (i := 16) (oi := ⟨_, _, _, _, _, _⟩) (v := ?v72) rfl (by kernel_rfl) (by kernel_rfl) (by kernel_rfl) (fun _ _ _ h => h) ?y72 hS ?_
                  case y72 => first | (refine Or.inr ⟨by rfl, ?_⟩; with_reducible rfl) | (refine Or.inl ⟨by rfl, ?_⟩; intro wS hSw; obtain ⟨hB, hx⟩ := hSw; obtain ⟨c0, d0⟩ := HC.out wS hB; obtain ⟨e0, e1⟩ := two_box hx; go_simp; try with_reducible rfl)
                  simp only [Act.put, List.setIfInBounds_toArray, List.set_cons_zero, List.set_cons_succ]
                  refine wpAnyH_take (i := 17) (oi := ⟨_, _, _, _, _, _⟩) (v := ?v73) rfl (by kernel_rfl) (by kernel_rfl) (by kernel_rfl) (fun _ _ _ h => h) ?y73 hS ?_
                  case y73 => first | (refine Or.inr ⟨by rfl, ?_⟩; with_reducible rfl) | (refine Or.inl ⟨by rfl, ?_⟩; intro wS hSw; obtain ⟨hB, hx⟩ := hSw; obtain ⟨c0, d0⟩ := HC.out wS hB; obtain ⟨e0, e1⟩ := two_box hx; go_simp; try with_reducible rfl)
                  simp only [Act.put, List.setIfInBounds_toArray, List.set_cons_zero, List.set_cons_succ]
                  refine wpAnyH_take (i := 18) (oi := ⟨_, _, _, _, _, _⟩) (v := ?v74) rfl (by kernel_rfl) (by kernel_rfl) (by kernel_rfl) (fun _ _ _ h => h) ?y74 hS ?_
                  case y74 => first | (refine Or.inr ⟨by rfl, ?_⟩; with_reducible rfl) | (refine Or.inl ⟨by rfl, ?_⟩; intro wS hSw; obtain ⟨hB, hx⟩ := hSw; obtain ⟨c0, d0⟩ := HC.out wS hB; obtain ⟨e0, e1⟩ := two_box hx; go_simp; try with_reducible rfl)
                  simp only [Act.put, List.setIfInBounds_toArray, List.set_cons_zero, List.set_cons_succ]
                  refine wpAnyH_take (i := 19) (oi := ⟨_, _, _, _, _, _⟩) (v := ?v75) rfl (by kernel_rfl) (by kernel_rfl) (by kernel_rfl) (fun _ _ _ h => h) ?y75 hS ?_
                  case y75 => first | (refine Or.inr ⟨by rfl, ?_⟩; with_reducible rfl) | (refine Or.inl ⟨by rfl, ?_⟩; intro wS hSw; obtain ⟨hB, hx⟩ := hSw; obtain ⟨c0, d0⟩ := HC.out wS hB; obtain ⟨e0, e1⟩ := two_box hx; go_simp; try with_reducible rfl)
                  simp only [Act.put, List.setIfInBounds_toArray, List.set_cons_zero, List.set_cons_succ]
                  refine wpAnyH_take (i := 20) (oi := ⟨_, _, _, _, _, _⟩) (v := ?v76) rfl (by kernel_rfl) (by kernel_rfl) (by kernel_rfl) (fun _ _ _ h => h) ?y76 hS ?_
                  case y76 => first | (refine Or.inr ⟨by rfl, ?_⟩; with_reducible rfl) | (refine Or.inl ⟨by rfl, ?_⟩; intro wS hSw; obtain ⟨hB, hx⟩ := hSw; obtain ⟨c0, d0⟩ := HC.out wS hB; obtain ⟨e0, e1⟩ := two_box hx; go_simp; try with_reducible rfl)
                  simp only [Act.put, List.setIfInBounds_toArray, List.set_cons_zero, List.set_cons_succ]
                  refine wpAnyH_take (i := 21) (oi := ⟨_, _, _, _, _, _⟩) (v := ?v77) rfl (by kernel_rfl) (by kernel_rfl) (by kernel_rfl) (fun _ _ _ h => h) ?y77 hS ?_
                  case y77 => first | (refine Or.inr ⟨by rfl, ?_⟩; with_reducible rfl) | (refine Or.inl ⟨by rfl, ?_⟩; intro wS hSw; obtain ⟨hB, hx⟩ := hSw; obtain ⟨c0, d0⟩ := HC.out wS hB; obtain ⟨e0, e1⟩ := two_box hx; go_simp; try with_reducible rfl)
                  simp only [Act.put, List.setIfInBounds_toArray, List.set_cons_zero, List.set_cons_succ]
                  refine wpAnyH_ready (rs := [22]) (by kernel_rfl) (by simp) ?_
                  refine AllReadyH.cons (o := ⟨_, _, _, _, _, _⟩) rfl (fun K hK => ?_) AllReadyH.nil
                  go_simp
                  refine hK.out _ _ ⟨hS.1.alloc hS.1.size _, (heap_alloc_old _ _ (lt_of_block hS.2)).trans hS.2⟩ (fun _ => ?_)
                  clear hK K
                  try simp only [Act.put, List.setIfInBounds_toArray, List.set_cons_zero, List.set_cons_succ]
                  obtain ⟨g1, hg1⟩ : ∃ n, n = u2.heap.size := ⟨_, rfl⟩
                  refine gen_anyH (S2 := fun z => (Below u.heap.size u z ∧ z.heap[X]? = some (.cells #[.int .i64 xa, .int .i64 xb] 23 (0, 0))) ∧ z.heap[g1]? = some (.cells #[.int .i64 3, .int .i64 5, .int .i64 xa, .int .i64 xb] 23 (0, 0))) ⟨⟨hS.1.alloc hS.1.size _, (heap_alloc_old _ _ (lt_of_block hS.2)).trans hS.2⟩, by rw [hg1]; exact heap_alloc_new u2 _⟩ (fun vg1 hu => ?_)
                  clear hS
                  rw [← hg1]
                  clear hg1
                  obtain ⟨hS, hg1⟩ := hu
                  have Hg1 := Lib.hid hg1
                  clear hg1
                  refine wpAnyH_ready (rs := [23]) (by kernel_rfl) (by simp) ?_
                  refine AllReadyH.cons (o := ⟨_, _, _, _, _, _⟩) rfl (fun K hK => ?_) AllReadyH.nil
                  go_simp
                  refine (HR.out _ _ _ _ [⟨3, 5⟩, ⟨xa, xb⟩] [] _ (new_row sgc_len Hg1.out (by simp) rfl) (bytes_nil _) (by have := HXb.out; simp; omega) HXb.out (by simp) (by simp)).mono ?_
                  rintro e u3 ⟨rfl, hb⟩
                  go_wp2_with fail
                  have hS1 := show Below u.heap.size u u3 ∧ u3.heap[X]? = some (.cells #[.int .i64 xa, .int .i64 xb] 23 (0, 0)) from ⟨hS.1.trans (hb.mono hS.1.size), (hb.block _ (lt_of_block hS.2)).trans hS.2⟩
                  refine hK.out _ _ hS1 (fun _ => ?_)
                  clear hK K hb hS
                  try simp only [Act.put, List.setIfInBounds_toArray, List.set_cons_zero, List.set_cons_succ]
                  have hS := hS1
                  clear hS1
                  refine wpAnyH_take (i := 24) (oi := ⟨_, _, _, _, _, _⟩) (v := ?v78) rfl (by kernel_rfl) (by kernel_rfl) (by kernel_rfl) (fun _ _ _ h => h) ?y78 hS ?_
                  case y78 => first | (refine Or.inr ⟨by rfl, ?_⟩; with_reducible rfl) | (refine Or.inl ⟨by rfl, ?_⟩; intro wS hSw; obtain ⟨hB, hx⟩ := hSw; obtain ⟨c0, d0⟩ := HC.out wS hB; obtain ⟨e0, e1⟩ := two_box hx; go_simp; try with_reducible rfl)
                  simp only [Act.put, List.setIfInBounds_toArray, List.set_cons_zero, List.set_cons_succ]
                  refine wpAnyH_take (i := 25) (oi := ⟨_, _, _, _, _, _⟩) (v := ?v79) rfl (by kernel_rfl) (by kernel_rfl) (by kernel_rfl) (fun _ _ _ h => h) ?y79 hS ?_
                  case y79 => first | (refine Or.inr ⟨by rfl, ?_⟩; with_reducible rfl) | (refine Or.inl ⟨by rfl, ?_⟩; intro wS hSw; obtain ⟨hB, hx⟩ := hSw; obtain ⟨c0, d0⟩ := HC.out wS hB; obtain ⟨e0, e1⟩ := two_box hx; go_simp; try with_reducible rfl)
                  simp only [Act.put, List.setIfInBounds_toArray, List.set_cons_zero, List.set_cons_succ]
                  refine wpAnyH_take (i := 26) (oi := ⟨_, _, _, _, _, _⟩) (v := ?v80) rfl (by kernel_rfl) (by kernel_rfl) (by kernel_rfl) (fun _ _ _ h => h) ?y80 hS ?_
                  case y80 => first | (refine Or.inr ⟨by rfl, ?_⟩; with_reducible rfl) | (refine Or.inl ⟨by rfl, ?_⟩; intro wS hSw; obtain ⟨hB, hx⟩ := hSw; obtain ⟨c0, d0⟩ := HC.out wS hB; obtain ⟨e0, e1⟩ := two_box hx; go_simp; try with_reducible rfl)
                  simp only [Act.put, List.setIfInBounds_toArray, List.set_cons_zero, List.set_cons_succ]
                  refine wpAnyH_take (i := 27) (oi := ⟨_, _, _, _, _, _⟩) (v := ?v81) rfl (by kernel_rfl) (by kernel_rfl) (by kernel_rfl) (fun _ _ _ h => h) ?y81 hS ?_
                  case y81 => first | (refine Or.inr ⟨by rfl, ?_⟩; with_reducible rfl) | (refine Or.inl ⟨by rfl, ?_⟩; intro wS hSw; obtain ⟨hB, hx⟩ := hSw; obtain ⟨c0, d0⟩ := HC.out wS hB; obtain ⟨e0, e1⟩ := two_box hx; go_simp; try with_reducible rfl)
                  simp only [Act.put, List.setIfInBounds_toArray, List.set_cons_zero, List.set_cons_succ]
                  refine wpAnyH_take (i := 28) (oi := ⟨_, _, _, _, _, _⟩) (v := ?v82) rfl (by kernel_rfl) (by kernel_rfl) (by kernel_rfl) (fun _ _ _ h => h) ?y82 hS ?_
                  case y82 => first | (refine Or.inr ⟨by rfl, ?_⟩; with_reducible rfl) | (refine Or.inl ⟨by rfl, ?_⟩; intro wS hSw; obtain ⟨hB, hx⟩ := hSw; obtain ⟨c0, d0⟩ := HC.out wS hB; obtain ⟨e0, e1⟩ := two_box hx; go_simp; try with_reducible rfl)
                  simp only [Act.put, List.setIfInBounds_toArray, List.set_cons_zero, List.set_cons_succ]
                  refine wpAnyH_take (i := 29) (oi := ⟨_, _, _, _, _, _⟩) (v := ?v83) rfl (by kernel_rfl) (by kernel_rfl) (by kernel_rfl) (fun _ _ _ h => h) ?y83 hS ?_
                  case y83 => first | (refine Or.inr ⟨by rfl, ?_⟩; with_reducible rfl) | (refine Or.inl ⟨by rfl, ?_⟩; intro wS hSw; obtain ⟨hB, hx⟩ := hSw; obtain ⟨c0, d0⟩ := HC.out wS hB; obtain ⟨e0, e1⟩ := two_box hx; go_simp; try with_reducible rfl)
                  simp only [Act.put, List.setIfInBounds_toArray, List.set_cons_zero, List.set_cons_succ]
                  refine wpAnyH_ready (rs := [30, 31]) (by kernel_rfl) (by simp) ?_
                  refine AllReadyH.cons (o := ⟨_, _, _, _, _, _⟩) rfl (fun K hK => ?_) (AllReadyH.cons (o := ⟨_, _, _, _, _, _⟩) rfl (fun K hK => ?_) AllReadyH.nil)
                  · skip
                    go_simp
                    refine hK.out _ _ ⟨hS.1.alloc hS.1.size _, (heap_alloc_old _ _ (lt_of_block hS.2)).trans hS.2⟩ (fun _ => ?_)
                    clear hK K
                    try simp only [Act.put, List.setIfInBounds_toArray, List.set_cons_zero, List.set_cons_succ]
                    obtain ⟨g2, hg2⟩ : ∃ n, n = u3.heap.size := ⟨_, rfl⟩
                    refine gen_anyH (S2 := fun z => (Below u.heap.size u z ∧ z.heap[X]? = some (.cells #[.int .i64 xa, .int .i64 xb] 23 (0, 0))) ∧ z.heap[g2]? = some (.cells #[.int .i64 xa, .int .i64 xb, .int .i64 2, .int .i64 3] 23 (0, 0))) ⟨⟨hS.1.alloc hS.1.size _, (heap_alloc_old _ _ (lt_of_block hS.2)).trans hS.2⟩, by rw [hg2]; exact heap_alloc_new u3 _⟩ (fun vg2 hu => ?_)
                    clear hS
                    rw [← hg2]
                    clear hg2
                    obtain ⟨hS, hg2⟩ := hu
                    have Hg2 := Lib.hid hg2
                    clear hg2
                    refine wpAnyH_ready (rs := [31]) (by kernel_rfl) (by simp) ?_
                    refine AllReadyH.cons (o := ⟨_, _, _, _, _, _⟩) rfl (fun K hK => ?_) AllReadyH.nil
                    go_simp
                    refine hK.out _ _ ⟨hS.1.alloc hS.1.size _, (heap_alloc_old _ _ (lt_of_block hS.2)).trans hS.2⟩ (fun _ => ?_)
                    clear hK K
                    try simp only [Act.put, List.setIfInBounds_toArray, List.set_cons_zero, List.set_cons_succ]
                    obtain ⟨g3, hg3⟩ : ∃ n, n = vg2.heap.size := ⟨_, rfl⟩
                    refine gen_anyH (S2 := fun z => (Below u.heap.size u z ∧ z.heap[X]? = some (.cells #[.int .i64 xa, .int .i64 xb] 23 (0, 0))) ∧ z.heap[g2]? = some (.cells #[.int .i64 xa, .int .i64 xb, .int .i64 2, .int .i64 3] 23 (0, 0)) ∧ z.heap[g3]? = some (.cells (bv [1]).toArray 5 (0, 0))) ⟨⟨hS.1.alloc hS.1.size _, (heap_alloc_old _ _ (lt_of_block hS.2)).trans hS.2⟩, (heap_alloc_old _ _ (lt_of_block Hg2.out)).trans Hg2.out, by rw [hg3]; exact heap_alloc_new vg2 _⟩ (fun vg3 hu => ?_)
                    clear hS Hg2
                    rw [← hg3]
                    clear hg3
                    obtain ⟨hS, hg2, hg3⟩ := hu
                    have Hg2 := Lib.hid hg2
                    clear hg2
                    have Hg3 := Lib.hid hg3
                    clear hg3
                    refine wpAnyH_ready (rs := [32]) (by kernel_rfl) (by simp) ?_
                    refine AllReadyH.cons (o := ⟨_, _, _, _, _, _⟩) rfl (fun K hK => ?_) AllReadyH.nil
                    go_simp
                    refine (HR.out _ _ _ _ [⟨xa, xb⟩, ⟨2, 3⟩] [1] _ (new_row sgc_len Hg2.out (by simp) rfl) (bytes_block [1] rfl (by simp) Hg3.out) (by have := HXb.out; simp; omega) (by omega) (by simp) (by simp)).mono ?_
                    rintro e u4 ⟨rfl, hb⟩
                    go_wp2_with fail
                    have hS1 := show Below u.heap.size u u4 ∧ u4.heap[X]? = some (.cells #[.int .i64 xa, .int .i64 xb] 23 (0, 0)) from ⟨hS.1.trans (hb.mono hS.1.size), (hb.block _ (lt_of_block hS.2)).trans hS.2⟩
                    refine hK.out _ _ hS1 (fun _ => ?_)
                    clear hK K hb hS
                    try simp only [Act.put, List.setIfInBounds_toArray, List.set_cons_zero, List.set_cons_succ]
                    have hS := hS1
                    clear hS1
                    refine wpAnyH_take (i := 33) (oi := ⟨_, _, _, _, _, _⟩) (v := ?v84) rfl (by kernel_rfl) (by kernel_rfl) (by kernel_rfl) (fun _ _ _ h => h) ?y84 hS ?_
                    case y84 => first | (refine Or.inr ⟨by rfl, ?_⟩; with_reducible rfl) | (refine Or.inl ⟨by rfl, ?_⟩; intro wS hSw; obtain ⟨hB, hx⟩ := hSw; obtain ⟨c0, d0⟩ := HC.out wS hB; obtain ⟨e0, e1⟩ := two_box hx; go_simp; try with_reducible rfl)
                    simp only [Act.put, List.setIfInBounds_toArray, List.set_cons_zero, List.set_cons_succ]
                    refine wpAnyH_take (i := 34) (oi := ⟨_, _, _, _, _, _⟩) (v := ?v85) rfl (by kernel_rfl) (by kernel_rfl) (by kernel_rfl) (fun _ _ _ h => h) ?y85 hS ?_
                    case y85 => first | (refine Or.inr ⟨by rfl, ?_⟩; with_reducible rfl) | (refine Or.inl ⟨by rfl, ?_⟩; intro wS hSw; obtain ⟨hB, hx⟩ := hSw; obtain ⟨c0, d0⟩ := HC.out wS hB; obtain ⟨e0, e1⟩ := two_box hx; go_simp; try with_reducible rfl)
                    simp only [Act.put, List.setIfInBounds_toArray, List.set_cons_zero, List.set_cons_succ]
                    refine wpAnyH_done (by kernel_rfl) ?_ _
                    have HWn := Lib.hid hS.1
                    clear hS
                    go_wp2
                    go_roundw
                    case rel => exact ⟨k + 1, by omega, by go_num, HWn⟩
                    case measure => simp [intOf]; omega
                  · skip
                    go_simp
                    refine hK.out _ _ ⟨hS.1.alloc hS.1.size _, (heap_alloc_old _ _ (lt_of_block hS.2)).trans hS.2⟩ (fun _ => ?_)
                    clear hK K
                    try simp only [Act.put, List.setIfInBounds_toArray, List.set_cons_zero, List.set_cons_succ]
                    obtain ⟨g3, hg3⟩ : ∃ n, n = u3.heap.size := ⟨_, rfl⟩
                    refine gen_anyH (S2 := fun z => (Below u.heap.size u z ∧ z.heap[X]? = some (.cells #[.int .i64 xa, .int .i64 xb] 23 (0, 0))) ∧ z.heap[g3]? = some (.cells (bv [1]).toArray 5 (0, 0))) ⟨⟨hS.1.alloc hS.1.size _, (heap_alloc_old _ _ (lt_of_block hS.2)).trans hS.2⟩, by rw [hg3]; exact heap_alloc_new u3 _⟩ (fun vg3 hu => ?_)
                    clear hS
                    rw [← hg3]
                    clear hg3
                    obtain ⟨hS, hg3⟩ := hu
                    have Hg3 := Lib.hid hg3
                    clear hg3
                    refine wpAnyH_ready (rs := [30]) (by kernel_rfl) (by simp) ?_
                    refine AllReadyH.cons (o := ⟨_, _, _, _, _, _⟩) rfl (fun K hK => ?_) AllReadyH.nil
                    go_simp
                    refine hK.out _ _ ⟨hS.1.alloc hS.1.size _, (heap_alloc_old _ _ (lt_of_block hS.2)).trans hS.2⟩ (fun _ => ?_)
                    clear hK K
                    try simp only [Act.put, List.setIfInBounds_toArray, List.set_cons_zero, List.set_cons_succ]
                    obtain ⟨g2, hg2⟩ : ∃ n, n = vg3.heap.size := ⟨_, rfl⟩
                    refine gen_anyH (S2 := fun z => (Below u.heap.size u z ∧ z.heap[X]? = some (.cells #[.int .i64 xa, .int .i64 xb] 23 (0, 0))) ∧ z.heap[g3]? = some (.cells (bv [1]).toArray 5 (0, 0)) ∧ z.heap[g2]? = some (.cells #[.int .i64 xa, .int .i64 xb, .int .i64 2, .int .i64 3] 23 (0, 0))) ⟨⟨hS.1.alloc hS.1.size _, (heap_alloc_old _ _ (lt_of_block hS.2)).trans hS.2⟩, (heap_alloc_old _ _ (lt_of_block Hg3.out)).trans Hg3.out, by rw [hg2]; exact heap_alloc_new vg3 _⟩ (fun vg2 hu => ?_)
                    clear hS Hg3
                    rw [← hg2]
                    clear hg2
                    obtain ⟨hS, hg3, hg2⟩ := hu
                    have Hg3 := Lib.hid hg3
                    clear hg3
                    have Hg2 := Lib.hid hg2
                    clear hg2
                    refine wpAnyH_ready (rs := [32]) (by kernel_rfl) (by simp) ?_
                    refine AllReadyH.cons (o := ⟨_, _, _, _, _, _⟩) rfl (fun K hK => ?_) AllReadyH.nil
                    go_simp
                    refine (HR.out _ _ _ _ [⟨xa, xb⟩, ⟨2, 3⟩] [1] _ (new_row sgc_len Hg2.out (by simp) rfl) (bytes_block [1] rfl (by simp) Hg3.out) (by have := HXb.out; simp; omega) (by omega) (by simp) (by simp)).mono ?_
                    rintro e u4 ⟨rfl, hb⟩
                    go_wp2_with fail
                    have hS1 := show Below u.heap.size u u4 ∧ u4.heap[X]? = some (.cells #[.int .i64 xa, .int .i64 xb] 23 (0, 0)) from ⟨hS.1.trans (hb.mono hS.1.size), (hb.block _ (lt_of_block hS.2)).trans hS.2⟩
                    refine hK.out _ _ hS1 (fun _ => ?_)
                    clear hK K hb hS
                    try simp only [Act.put, List.setIfInBounds_toArray, List.set_cons_zero, List.set_cons_succ]
                    have hS := hS1
                    clear hS1
                    refine wpAnyH_take (i := 33) (oi := ⟨_, _, _, _, _, _⟩) (v := ?v86) rfl (by kernel_rfl) (by kernel_rfl) (by kernel_rfl) (fun _ _ _ h => h) ?y86 hS ?_
                    case y86 => first | (refine Or.inr ⟨by rfl, ?_⟩; with_reducible rfl) | (refine Or.inl ⟨by rfl, ?_⟩; intro wS hSw; obtain ⟨hB, hx⟩ := hSw; obtain ⟨c0, d0⟩ := HC.out wS hB; obtain ⟨e0, e1⟩ := two_box hx; go_simp; try with_reducible rfl)
                    simp only [Act.put, List.setIfInBounds_toArray, List.set_cons_zero, List.set_cons_succ]
                    refine wpAnyH_take (i := 34) (oi := ⟨_, _, _, _, _, _⟩) (v := ?v87) rfl (by kernel_rfl) (by kernel_rfl) (by kernel_rfl) (fun _ _ _ h => h) ?y87 hS ?_
                    case y87 => first | (refine Or.inr ⟨by rfl, ?_⟩; with_reducible rfl) | (refine Or.inl ⟨by rfl, ?_⟩; intro wS hSw; obtain ⟨hB, hx⟩ := hSw; obtain ⟨c0, d0⟩ := HC.out wS hB; obtain ⟨e0, e1⟩ := two_box hx; go_simp; try with_reducible rfl)
                    simp only [Act.put, List.setIfInBounds_toArray, List.set_cons_zero, List.set_cons_succ]
                    refine wpAnyH_done (by kernel_rfl) ?_ _
                    have HWn := Lib.hid hS.1
                    clear hS
                    go_wp2
                    go_roundw
                    case rel => exact ⟨k + 1, by omega, by go_num, HWn⟩
                    case measure => simp [intOf]; omega
                · obtain rfl : k = 5 := by omega
                  go_wp2
                  go_roundw
                  case rel => exact ⟨i + 1, by omega, by go_num, HW⟩
                  case measure => simp [intOf]; omega
            · obtain rfl : i = 5 := by omega
              have HBf := Lib.hid (HBu.out.trans (HW.out.mono HBu.out.size))
              clear HW
              go_upto_region 28 with (fail)
              have HEq := Lib.hid (sg_eql 0 0)
              go_wp2_with fail
              refine (sNested_any (.slice none 0 0) [] _ (SgOwn.at (B := 0) (World.ownsRow_nil _ _ _ _)) (by simp) (by simp)).mono ?_
              rw [show nestS [] = true from rfl]
              rintro e z1 ⟨rfl, hb⟩
              have HB1 := Lib.hid (HBf.out.trans (hb.mono HBf.out.size))
              clear hb
              go_wp2_with fail
              refine (sJoin_any (.slice none 0 0) [] _ (SgOwn.at (B := 0) (World.ownsRow_nil _ _ _ _)) (by simp)).mono ?_
              rw [show joinS [] = ⟨0, 0⟩ from rfl]
              rintro e z2 ⟨rfl, hb⟩
              have HB2 := Lib.hid (HB1.out.trans (hb.mono HB1.out.size))
              clear hb
              go_wp2_with fail
              refine (HAw.out _).mono ?_
              rintro e z3 ⟨rfl, hb⟩
              have HB3 := Lib.hid (HB2.out.trans (hb.mono HB2.out.size))
              clear hb
              go_wp2
              go_ret
              exact ⟨rfl, HB3.out⟩
end Go.Proofs.Ytndminmefacmnaa
