/-
  Lists of numbers that are lent, looked at again, written over.
-/
import Derived.Test.YtkimkghldilliaaGreatKeep
import Derived.SizedLaws
namespace Go.Proofs.YtkimkghldilliaaGreat
open Go.RowKit

theorem Tryz.infoInt : (Tryz.prog.info? 3).map (fun i => (i.zero, i.size, i.bytes)) = some (some (.int .i64 0), 1, 8) := by kernel_rfl

set_option maxRecDepth 100000 in
set_option maxHeartbeats 400000 in
theorem imark_any (k i : Int) (w : World) (hk : 0 ≤ k ∧ k ≤ 10) (hi : 0 ≤ i ∧ i ≤ 4000000) :
    Calls Tryz.prog 50 #[.int .i64 k, .int .i64 i] w fun e w' => e = .returned (.int .i64 (1000003 * (k + 7) + i)) ∧ w = w' := by
  obtain ⟨h1, h2⟩ := hk
  obtain ⟨h3, h4⟩ := hi
  go_enter Tryz.func50, Tryz.ntmps50
  go_wp2
  go_ret
  exact ⟨rfl, rfl⟩

abbrev iv (zs : List Int) : List Value := zs.map (Value.int .i64)
def imk (t : List Int) (k : Nat) : List Int := t ++ (List.range k).map fun i : Nat => 8000024 + (i : Int)
theorem imk_succ (t : List Int) (k : Nat) : iv (imk t (k + 1)) = iv (imk t k) ++ [.int .i64 (8000024 + (k : Int))] := by
  simp [imk, List.range_succ]
theorem imk_len (t : List Int) (k : Nat) : (imk t k).length = t.length + k := by simp [imk]
theorem iv_oneCell (t : List Int) : ∀ u ∈ iv t, u.oneCell' = true := by
  intro u hu
  obtain ⟨_, _, rfl⟩ := List.mem_map.1 hu
  rfl

/-- the list of numbers that was lent: its block. -/
def ILentAt (w : World) (g : Nat) (t : List Int) : Prop := w.heap[g]? = some (.cells (iv (imk t 12)).toArray 3 (0, 0))

theorem ilent_of {w : World} {base g n : Nat} {t : List Int} (hn : n = t.length) (h : w.ownsRow base 3 1 (.slice (some ⟨g, 0, none⟩) (n + 12) (n + 12)) (n + 12) (iv (imk t 12))) : ILentAt w g t := by
  rcases h.2 with ⟨h0, _⟩ | ⟨g', cap, cur, hv, _, hg, _, _, hs, ht⟩
  · simp at h0
  · simp only [Value.slice.injEq, Option.some.injEq, Addr.mk.injEq, and_true, true_and] at hv
    obtain ⟨rfl, rfl⟩ := hv
    unfold ILentAt
    rw [hg, ← ht]
    congr 2
    rw [List.take_of_length_le (by simp [hs])]

theorem ILentAt.cell {w : World} {g : Nat} {t : List Int} (h : ILentAt w g t) (j : Nat) (hj : j < t.length + 12) : w.cell? ⟨g, j, none⟩ = some (.int .i64 ((imk t 12)[j]'(by rw [imk_len]; exact hj))) := by
  have hl : j < (imk t 12).length := by rw [imk_len]; exact hj
  rw [(block_cell' h j).1]
  simp [hl]
theorem ILentAt.cells {w : World} {g : Nat} {t : List Int} (h : ILentAt w g t) (hl : t.length ≤ 1000000) : CellsAt w (.slice (some ⟨g, 0, none⟩) t.length (t.length + 12)) (iv t) := by
  refine ⟨_, g, 0, t.length + 12, by simp, by simp, by unfold maxLen; omega, fun h => by simp at h, fun _ => rfl, iv_oneCell t, fun k hk => ?_⟩
  simp only [List.length_map] at hk
  simp only [Nat.zero_add]
  rw [h.cell k (by omega)]
  simp only [imk, List.getElem_map]
  rw [List.getElem_append_left]
theorem ILentAt.later {w w' : World} {g : Nat} {t : List Int} (h : ILentAt w g t) (hb : Below w.heap.size w w') : ILentAt w' g t := by
  unfold ILentAt at *
  rw [hb.block g (lt_of_block h), h]

set_option maxRecDepth 100000 in
set_option maxHeartbeats 1000000 in
theorem lentInts_any (v : Value) (t : List Int) (w : World) (ht : CellsAt w v (iv t)) (hl : t.length ≤ 1000000) :
    Calls Tryz.prog 89 #[v] w fun e w' => e = .returned (.slice (some ⟨w.heap.size, 0, none⟩) t.length (t.length + 12)) ∧ ILentAt w' w.heap.size t ∧ Below w.heap.size w w' := by
  obtain ⟨ao, b, off, cap, rfl, hlc, hm, hnil, hao, _, hc⟩ := ht
  simp only [List.length_map] at *
  have hc' : ∀ k (h : k < t.length), w.cell? ⟨b, off + k, none⟩ = some (.int .i64 t[k]) := fun k hk => by have := hc k hk; simpa using this
  have Hc := Lib.hid hc'
  have Hao := Lib.hid hao
  have Hnil := Lib.hid hnil
  have hlt : 0 < t.length → b < w.heap.size := fun h => World.block_lt_of_cell? _ _ (hc' 0 h)
  have Hlt := Lib.hid hlt
  clear hc hc' hao hm hnil hlt
  obtain ⟨n, hn⟩ : ∃ n, n = t.length := ⟨_, rfl⟩
  have Hn := Lib.hid hn
  rw [← hn] at hl hlc ⊢
  clear hn
  obtain ⟨i0, hi, hz0, hz1, hz2⟩ := info_parts Tryz.infoInt
  go_enter Tryz.func89, Tryz.ntmps89
  go_wp2_with (first
    | (at_make; refine wpList_make_own _ rfl _ _ 52 rfl w.heap.size 3 i0 (.int .i64 0) 1 Tryz.underlying52 hi hz0 hz1 .i64 .i64 _ (n + 12) rfl rfl (by omega) (by rw [hz2]; omega) (by unfold maxLen; omega) (Nat.le_refl _) ?_; intro w1 hown1 hg1; have hb1 := (Below.refl w.heap.size w).grown hg1 (Nat.le_refl _) (fun k hk => by simp at hk))
    | (at_builtin; refine wpList_append_fits_any _ rfl (.tmp 9) (.tmp 10) 52 rfl w.heap.size 3 i0 1 Tryz.underlying52 hi hz1 w.heap.size 0 (n + 12) [] rfl hown1 ao n cap (iv t) rfl (by simp [Hn.out]) (fun h => by have h' := Hnil.out h; have h2 := Hn.out; omega) (cells_news (by simpa using Hao.out) fun k hk => by simp only [List.length_map] at hk; exact ((hb1.cell (p := ⟨b, off + k, none⟩) (Hlt.out (by omega))).trans (Hc.out k hk)).trans (by simp)) (iv_oneCell t) (by omega) ?_; intro w2 hown2 hg2; have hb2 := hb1.grown hg2 hb1.size (fun k hk => by simp at hk; omega)))
  simp only [Nat.zero_add, List.nil_append] at hown2
  go_loopw [3, 4] (fun v i wr => ∃ k : Nat, k ≤ 12 ∧ i = .int .i64 k ∧ v = .slice (some ⟨w.heap.size, 0, none⟩) (n + k) (n + 12) ∧ wr.ownsRow w.heap.size 3 1 (.slice (some ⟨w.heap.size, 0, none⟩) (n + k) (n + 12)) (n + k) (iv (imk t k)) ∧ Below w.heap.size w wr) (fun _ i _ => 12 - (intOf i).toNat)
  case atStart => exact ⟨0, by omega, rfl, by simp, by simpa [imk] using hown2, hb2⟩
  case round =>
    obtain ⟨k, hk, rfl, rfl, hown, hbel⟩ := hrel
    by_cases hlt : k < 12
    · have hsz := hbel.size
      have Hmk := Lib.hid (fun wq => imark_any 1 k wq (by omega) (by omega))
      simp only [show (1000003 : Int) * (1 + 7) = 8000024 from rfl] at Hmk
      go_wp2_with (first
        | (go_at_call 50; refine (Hmk.out _).mono ?_; rintro e w' ⟨rfl, rfl⟩)
        | (at_builtin; refine wpList_append_fits _ rfl (.tmp 16) (.tmp 19) 52 rfl w.heap.size 3 i0 1 Tryz.underlying52 hi hz1 w.heap.size (n + k) (n + 12) (iv (imk t k)) rfl (hown.alloc _) ⟨wr.heap.size, 0, none⟩ 1 1 [.int .i64 (8000024 + (k : Int))] rfl rfl (cell_one_new _ _ _) (by intro u hu; simp at hu; subst hu; rfl) (by omega) ?_; intro w3 hown3 hg3; have hb3 := (hbel.alloc hsz _).grown hg3 (by simp; omega) (fun k hk => by simp at hk; omega)))
      go_roundw
      case rel => exact ⟨k + 1, by omega, by go_num, by rw [Nat.add_assoc], by rw [imk_succ]; exact hown3, hb3⟩
      case measure => simp [intOf]; omega
    · obtain rfl : k = 12 := by omega
      go_wp2
      go_ret
      exact ⟨rfl, ilent_of Hn.out hown, hbel⟩

set_option maxRecDepth 100000 in
set_option maxHeartbeats 1000000 in
theorem keptInts_any (v : Value) (t : List Int) (g : Nat) (w : World) (ht : CellsAt w v (iv t)) (hL : ILentAt w g t) (hl : t.length ≤ 1000000) :
    Calls Tryz.prog 106 #[.slice (some ⟨g, 0, none⟩) t.length (t.length + 12), v] w fun e w' => e = .returned (.bool true) ∧ Below w.heap.size w w' := by
  obtain ⟨ao, b, off, cap, rfl, hlc, hm, hnil, hao, _, hc⟩ := ht
  simp only [List.length_map] at *
  have hc' : ∀ k (h : k < t.length), w.cell? ⟨b, off + k, none⟩ = some (.int .i64 t[k]) := fun k hk => by have := hc k hk; simpa using this
  have Hc := Lib.hid hc'
  have Hao := Lib.hid hao
  have HL := Lib.hid hL
  clear hc hc' hao hm hnil hL
  obtain ⟨n, hn⟩ : ∃ n, n = t.length := ⟨_, rfl⟩
  have Hn := Lib.hid hn
  rw [← hn] at hl hlc Hao ⊢
  clear hn
  go_enter Tryz.func106, Tryz.ntmps106
  go_wp2
  go_loopw [6] (fun i wr => ∃ k : Nat, k ≤ n + 12 ∧ i = .int .i64 k ∧ Below w.heap.size w wr) (fun i _ => n + 12 - (intOf i).toNat)
  case atStart => exact ⟨0, by omega, rfl, Below.refl _ _⟩
  case round =>
    obtain ⟨k, hk, rfl, hbel⟩ := hrel
    by_cases hlt : k < n + 12
    · have hlt' : (k : Int) < n + 12 := by omega
      have hg := cell_later hbel (HL.out.cell k (by rw [← Hn.out]; exact hlt))
      by_cases hkn : k < n
      · obtain rfl := Hao.out (by omega)
        have hcell := cell_later hbel (Hc.out k (by rw [← Hn.out]; exact hkn))
        have he : (imk t 12)[k]'(by rw [imk_len, ← Hn.out]; exact hlt) = t[k]'(by rw [← Hn.out]; exact hkn) := by
          simp only [imk]; rw [List.getElem_append_left]
        rw [he] at hg
        clear he
        obtain ⟨cb, hcb⟩ : ∃ cb, cb = t[k]'(by rw [← Hn.out]; exact hkn) := ⟨_, rfl⟩
        rw [← hcb] at hg hcell
        clear hcb
        have hkn' : (k : Int) < n := by omega
        have hnge : decide (n ≤ k) = false := by simp; omega
        go_wp2_with fail
        go_quiet (fail)
        go_wp2
        go_roundw
        case rel => exact ⟨k + 1, by omega, by go_num, below_draws hbel _⟩
        case measure => simp [intOf]; omega
      · have he : (imk t 12)[k]'(by rw [imk_len, ← Hn.out]; exact hlt) = 8000024 + ((k : Int) - n) := by
          have hge : t.length ≤ k := by rw [← Hn.out]; omega
          simp only [imk]; rw [List.getElem_append_right hge]
          simp only [List.getElem_map, List.getElem_range]
          rw [← Hn.out]; omega
        rw [he] at hg
        clear he
        have hkn' : ¬ (k : Int) < n := by omega
        have hnge : decide (n ≤ k) = true := by simp; omega
        have hnge2 : decide (k < n) = false := by simp; omega
        have hw1 : IntKind.i64.wrap ((k : Int) - n) = (k : Int) - n := IntWalk.i64_in _ (by omega)
        have h0k : 0 ≤ (k : Int) - n ∧ (k : Int) - n ≤ 4000000 := by omega
        have Hmk := Lib.hid (fun wq => imark_any 1 ((k : Int) - n) wq (by omega) h0k)
        simp only [show (1000003 : Int) * (1 + 7) = 8000024 from rfl] at Hmk
        obtain ⟨m, hm⟩ : ∃ m, m = 8000024 + ((k : Int) - n) := ⟨_, rfl⟩
        rw [← hm] at hg Hmk
        clear hm h0k
        go_wp2_with fail
        go_quiet ((go_at_call 50; exact Calls.quiet_of_same ((Hmk.out _).mono fun _ _ ⟨he, hw⟩ => ⟨he, hw.symm⟩)))
        go_wp2
        go_roundw
        case rel => exact ⟨k + 1, by omega, by go_num, below_draws hbel _⟩
        case measure => simp [intOf]; omega
    · have hlt' : ¬ (k : Int) < n + 12 := by omega
      go_wp2
      go_ret
      exact ⟨rfl, hbel⟩

open Go.ChangeShapes Go.WideShapes Go.ChangeAt in
/-- an argument that is a list of numbers; its size. -/
theorem open_intl {H : Type} {enc : TypeId × Value → H} {P : Program} {W : World} {base : Nat} {t e : TypeId} {v : Value} {d : DataW H} {p : List MemPlace}
    (ht : P.underlying t = some (.slice e)) (he : P.underlying e = some (.int .i64)) (hc : P.cellsOf e = 1) (hby : P.bytesOf e = 8)
    (hval : Value.okWide P W .any base t v) (h : DataW.Trod enc P W 0 (fun _ => true) true t v d p) :
    ∃ zs : List Int, CellsAt W v (iv zs) ∧ (∀ z ∈ zs, (Lit.int .i64 z).wf = true) ∧ ∀ (ts : List TypeId) (ds : List (DataW H)) (j : Nat), (DataW.weightsEach P ts ds).all (· ≤ reachBytes) = true → ts[j]? = some t → ds[j]? = some d → zs.length ≤ 17592186044416 := by
  obtain ⟨a0, len, cap, rfl⟩ := okWide_slice ht hval
  obtain ⟨fuel, hf⟩ := h
  rcases open_ints ht he hc hf with ⟨hcs, _⟩ | ⟨a, len', cap', zs, hcs, _, hl, hm, hz, hx, hcell, hwz⟩
  · simp [Value.cells] at hcs
    obtain ⟨rfl, rfl, rfl⟩ := hcs
    exact ⟨[], ⟨none, 0, 0, 0, rfl, Nat.le_refl _, by unfold maxLen; omega, fun _ => ⟨rfl, rfl⟩, fun h => by simp at h, by simp, fun k hk => by simp at hk⟩, by simp, fun _ _ _ _ _ _ => by simp⟩
  · simp [Value.cells] at hcs
    obtain ⟨rfl, rfl, rfl⟩ := hcs
    simp only [if_true] at hz
    simp only [Prod.mk.injEq] at hx
    obtain ⟨rfl, rfl⟩ := hx
    have hlen : (zs.take len).length = len := by simp; omega
    have hspot : 0 < zs.length → a.spot = none := by
      intro hp
      cases hs : a.spot with
      | none => rfl
      | some s =>
        have h0 := hcell 0 hp
        simp [Addr.add, World.cell?, hs] at h0
        split at h0 <;> simp at h0
    refine ⟨zs.take len, ⟨some a, a.block, a.off, cap, by rw [List.length_map, hlen], by rw [List.length_map, hlen]; exact hl, hm, fun h => by simp at h, ?_, iv_oneCell _, fun k hk => ?_⟩, fun z hzm => hwz z (List.mem_of_mem_take hzm), ?_⟩
    · intro hp
      rw [List.length_map, hlen] at hp
      have := hspot (by omega)
      obtain ⟨b, off, sp⟩ := a
      simp only at this
      subst this
      rfl
    · rw [List.length_map, hlen] at hk
      have hck := hcell k (by omega)
      have := hspot (by omega)
      obtain ⟨b, off, sp⟩ := a
      simp only at this
      subst this
      have hadd : (⟨b, off, none⟩ : Addr).add k = ⟨b, off + k, none⟩ := by
        unfold Addr.add; split
        · simp_all
        · rfl
      rw [hadd] at hck
      rw [hck]
      simp [show k < zs.length by omega]
    · intro ts ds j hsz h1 h2
      have := sized_slice hsz h1 h2 ht
      rw [hby] at this
      simp only [lits, List.length_map, List.length_take, List.length_drop, reachBytes] at this
      rw [hlen]
      omega

end Go.Proofs.YtkimkghldilliaaGreat
