/-
  Place: lists of bytes that are lent, looked at again, written over.
-/
import Derived.Test.YtndminmefacmnaaLib
namespace Go.Proofs.Ytndminmefacmnaa
open Go.RowKit

theorem Try.info5 : (Try.prog.info? 5).map (fun i => (i.zero, i.size, i.bytes)) = some (some (.int .u8 0), 1, 1) := by kernel_rfl

set_option maxHeartbeats 400000 in
theorem mark_any (k i : Int) (w : World) (hk : 0 ≤ k ∧ k ≤ 10) (hi : 0 ≤ i ∧ i ≤ 4000000) :
    Calls Try.prog 53 #[.int .i64 k, .int .i64 i] w fun e w' => e = .returned (.int .i64 (1000003 * (k + 7) + i)) ∧ w = w' := by
  obtain ⟨h1, h2⟩ := hk
  obtain ⟨h3, h4⟩ := hi
  go_enter Try.func53, Try.ntmps53
  go_wp2
  go_ret
  exact ⟨rfl, rfl⟩

/-- the byte that marks a place. -/
def mkb (k i : Int) : UInt8 := UInt8.ofNat (IntKind.u64.wrap ((1000003 * (k + 7) + i) * 11400714819323198485) / 72057594037927936 % 256).toNat

theorem byte_toNat (z : Int) : ((UInt8.ofNat (z % 256).toNat).toNat : Int) = z % 256 := by
  rw [UInt8.toNat_ofNat']
  omega

set_option maxHeartbeats 400000 in
theorem markByte_any (k i : Int) (w : World) (hk : 0 ≤ k ∧ k ≤ 10) (hi : 0 ≤ i ∧ i ≤ 4000000) :
    Calls Try.prog 43 #[.int .i64 k, .int .i64 i] w fun e w' => e = .returned (.int .u8 ((mkb k i).toNat : Int)) ∧ w = w' := by
  go_enter Try.func43, Try.ntmps43
  go_wp2_with (go_at_call 53; refine (mark_any _ _ _ hk hi).mono ?_; rintro e w' ⟨rfl, rfl⟩)
  go_ret
  unfold mkb
  rw [byte_toNat]
  exact ⟨rfl, rfl⟩

def bv (t : List UInt8) : List Value := t.map fun c => Value.int .u8 (c.toNat : Int)
def bmk (t : List UInt8) (k : Nat) : List UInt8 := t ++ (List.range k).map fun i : Nat => mkb 1 i
theorem bmk_succ (t : List UInt8) (k : Nat) : bv (bmk t (k + 1)) = bv (bmk t k) ++ [.int .u8 ((mkb 1 k).toNat : Int)] := by
  simp [bmk, bv, List.range_succ]
theorem bmk_len (t : List UInt8) (k : Nat) : (bmk t k).length = t.length + k := by simp [bmk]

theorem bytes_news {w : World} {ao : Option Addr} {b off : Nat} {t : List UInt8} (hao : 0 < t.length → ao = some ⟨b, off, none⟩) (hc : ∀ k (h : k < t.length), w.cell? ⟨b, off + k, none⟩ = some (.int .u8 (t[k].toNat : Int))) :
    ∀ ad, ao = some ad → ∀ j u, (bv t)[j]? = some u → w.cell? (ad.add j) = some u := by
  intro ad had j u hj
  have hjl : j < t.length := by
    have := (List.getElem?_eq_some_iff.1 hj).1
    simpa [bv] using this
  have := hao (by omega)
  rw [this] at had
  simp only [Option.some.injEq] at had
  subst had
  have hadd : (⟨b, off, none⟩ : Addr).add j = ⟨b, off + j, none⟩ := by
    unfold Addr.add; split
    · simp_all
    · rfl
  rw [hadd, hc j hjl]
  simp [bv, hjl] at hj
  rw [hj]
theorem bv_oneCell (t : List UInt8) : ∀ u ∈ bv t, u.oneCell' = true := by
  intro u hu
  obtain ⟨_, _, rfl⟩ := List.mem_map.1 hu
  rfl

/-- the list of bytes that was lent: its block. -/
def LentAt (w : World) (g : Nat) (t : List UInt8) : Prop := w.heap[g]? = some (.cells (bv (bmk t 12)).toArray 5 (0, 0))

theorem lent_of {w : World} {base g n : Nat} {t : List UInt8} (hn : n = t.length) (h : w.ownsRow base 5 1 (.slice (some ⟨g, 0, none⟩) (n + 12) (n + 12)) (n + 12) (bv (bmk t 12))) : LentAt w g t := by
  rcases h.2 with ⟨h0, _⟩ | ⟨g', cap, cur, hv, _, hg, _, _, hs, ht⟩
  · simp at h0
  · simp only [Value.slice.injEq, Option.some.injEq, Addr.mk.injEq, and_true, true_and] at hv
    obtain ⟨rfl, rfl⟩ := hv
    unfold LentAt
    rw [hg, ← ht]
    congr 2
    rw [List.take_of_length_le (by simp [hs])]

set_option maxHeartbeats 1000000 in
theorem lentBytes_any (v : Value) (t : List UInt8) (w : World) (ht : BytesAt w v t) (hl : t.length ≤ 1000000) :
    Calls Try.prog 25 #[v] w fun e w' => e = .returned (.slice (some ⟨w.heap.size, 0, none⟩) t.length (t.length + 12)) ∧ LentAt w' w.heap.size t ∧ Below w.heap.size w w' := by
  obtain ⟨ao, b, off, cap, rfl, hlc, hm, hnil, hao, hc⟩ := ht
  have Hc := Lib.hid hc
  have Hao := Lib.hid hao
  have Hnil := Lib.hid hnil
  have hlt : 0 < t.length → b < w.heap.size := fun h => World.block_lt_of_cell? _ _ (hc 0 h)
  have Hlt := Lib.hid hlt
  clear hc hao hm hnil hlt
  obtain ⟨n, hn⟩ : ∃ n, n = t.length := ⟨_, rfl⟩
  have Hn := Lib.hid hn
  rw [← hn] at hl hlc ⊢
  clear hn
  obtain ⟨i0, hi, hz0, hz1, hz2⟩ := info_parts Try.info5
  go_enter Try.func25, Try.ntmps25
  go_wp2_with (first
    | (at_make; refine wpList_make_own _ rfl _ _ 35 rfl w.heap.size 5 i0 (.int .u8 0) 1 Try.underlying35 hi hz0 hz1 .i64 .i64 _ (n + 12) rfl rfl (by omega) (by rw [hz2]; omega) (by unfold maxLen; omega) (Nat.le_refl _) ?_; intro w1 hown1 hg1; have hb1 := (Below.refl w.heap.size w).grown hg1 (Nat.le_refl _) (fun k hk => by simp at hk))
    | (at_builtin; refine wpList_append_fits_any _ rfl (.tmp 9) (.tmp 10) 35 rfl w.heap.size 5 i0 1 Try.underlying35 hi hz1 w.heap.size 0 (n + 12) [] rfl hown1 ao n cap (bv t) rfl (by simp [bv, Hn.out]) (fun h => by have h' := Hnil.out h; have h2 := Hn.out; omega) (bytes_news Hao.out fun k hk => (hb1.cell (p := ⟨b, off + k, none⟩) (Hlt.out (by omega))).trans (Hc.out k hk)) (bv_oneCell t) (by omega) ?_; intro w2 hown2 hg2; have hb2 := hb1.grown hg2 hb1.size (fun k hk => by simp at hk; omega)))
  simp only [Nat.zero_add, List.nil_append] at hown2
  go_loopw [3, 4] (fun v i wr => ∃ k : Nat, k ≤ 12 ∧ i = .int .i64 k ∧ v = .slice (some ⟨w.heap.size, 0, none⟩) (n + k) (n + 12) ∧ wr.ownsRow w.heap.size 5 1 (.slice (some ⟨w.heap.size, 0, none⟩) (n + k) (n + 12)) (n + k) (bv (bmk t k)) ∧ Below w.heap.size w wr) (fun _ i _ => 12 - (intOf i).toNat)
  case atStart => exact ⟨0, by omega, rfl, by simp, by simpa [bmk] using hown2, hb2⟩
  case round =>
    obtain ⟨k, hk, rfl, rfl, hown, hbel⟩ := hrel
    by_cases hlt : k < 12
    · have hsz := hbel.size
      go_wp2_with (first
        | (go_at_call 43; refine (markByte_any 1 k _ (by omega) (by omega)).mono ?_; rintro e w' ⟨rfl, rfl⟩)
        | (at_builtin; refine wpList_append_fits _ rfl (.tmp 16) (.tmp 19) 35 rfl w.heap.size 5 i0 1 Try.underlying35 hi hz1 w.heap.size (n + k) (n + 12) (bv (bmk t k)) rfl (hown.alloc _) ⟨wr.heap.size, 0, none⟩ 1 1 [.int .u8 ((mkb 1 k).toNat : Int)] rfl rfl (cell_one_new _ _ _) (by intro u hu; simp at hu; subst hu; rfl) (by omega) ?_; intro w3 hown3 hg3; have hb3 := (hbel.alloc hsz _).grown hg3 (by simp; omega) (fun k hk => by simp at hk; omega)))
      go_roundw
      case rel => exact ⟨k + 1, by omega, by go_num, by rw [Nat.add_assoc], by rw [bmk_succ]; exact hown3, hb3⟩
      case measure => simp [intOf]; omega
    · obtain rfl : k = 12 := by omega
      go_wp2
      go_ret
      exact ⟨rfl, lent_of Hn.out hown, hbel⟩

theorem LentAt.cell {w : World} {g : Nat} {t : List UInt8} (h : LentAt w g t) (j : Nat) (hj : j < t.length + 12) : w.cell? ⟨g, j, none⟩ = some (.int .u8 ((bmk t 12)[j]'(by rw [bmk_len]; exact hj)).toNat) := by
  unfold LentAt at h
  have hl : j < (bmk t 12).length := by rw [bmk_len]; exact hj
  unfold World.cell?
  simp only [h]
  simp [bv, hl]

set_option maxRecDepth 100000 in
set_option maxHeartbeats 1000000 in
theorem keptBytes_any (v : Value) (t : List UInt8) (g : Nat) (w : World) (ht : BytesAt w v t) (hL : LentAt w g t) (hl : t.length ≤ 1000000) :
    Calls Try.prog 33 #[.slice (some ⟨g, 0, none⟩) t.length (t.length + 12), v] w fun e w' => e = .returned (.bool true) ∧ Below w.heap.size w w' := by
  obtain ⟨ao, b, off, cap, rfl, hlc, hm, hnil, hao, hc⟩ := ht
  have Hc := Lib.hid hc
  have Hao := Lib.hid hao
  have HL := Lib.hid hL
  clear hc hao hm hnil hL
  obtain ⟨n, hn⟩ : ∃ n, n = t.length := ⟨_, rfl⟩
  have Hn := Lib.hid hn
  rw [← hn] at hl hlc Hao ⊢
  clear hn
  go_enter Try.func33, Try.ntmps33
  go_wp2
  go_loopw [6] (fun i wr => ∃ k : Nat, k ≤ n + 12 ∧ i = .int .i64 k ∧ Below w.heap.size w wr) (fun i _ => n + 12 - (intOf i).toNat)
  case atStart => exact ⟨0, by omega, rfl, Below.refl _ _⟩
  case round =>
    obtain ⟨k, hk, rfl, hbel⟩ := hrel
    by_cases hlt : k < n + 12
    · have hlt' : (k : Int) < n + 12 := by omega
      have hg := cell_later hbel (HL.out.cell k (by rw [← Hn.out]; exact hlt))
      by_cases hkn : k < n
      · obtain rfl := Hao.out (by omega)
        have hcell := cell_later hbel (Hc.out k (by rw [← Hn.out]; exact hkn))
        have he : (bmk t 12)[k]'(by rw [bmk_len, ← Hn.out]; exact hlt) = t[k]'(by rw [← Hn.out]; exact hkn) := by
          simp only [bmk]; rw [List.getElem_append_left]
        rw [he] at hg
        clear he
        obtain ⟨cb, hcb⟩ : ∃ cb, cb = t[k]'(by rw [← Hn.out]; exact hkn) := ⟨_, rfl⟩
        rw [← hcb] at hg hcell
        clear hcb
        have hkn' : (k : Int) < n := by omega
        have hnge : decide (n ≤ k) = false := by simp; omega
        go_wp2_with fail
        go_quiet (fail)
        go_wp2
        go_roundw
        case rel => exact ⟨k + 1, by omega, by go_num, below_draws hbel _⟩
        case measure => simp [intOf]; omega
      · have he : (bmk t 12)[k]'(by rw [bmk_len, ← Hn.out]; exact hlt) = mkb 1 ((k : Int) - n) := by
          have hge : t.length ≤ k := by rw [← Hn.out]; omega
          simp only [bmk]; rw [List.getElem_append_right hge]
          simp only [List.getElem_map, List.getElem_range]
          rw [← Hn.out]; congr 1; omega
        rw [he] at hg
        clear he
        have hkn' : ¬ (k : Int) < n := by omega
        have hnge : decide (n ≤ k) = true := by simp; omega
        have hnge2 : decide (k < n) = false := by simp; omega
        have hw1 : IntKind.i64.wrap ((k : Int) - n) = (k : Int) - n := IntWalk.i64_in _ (by omega)
        have h0k : 0 ≤ (k : Int) - n ∧ (k : Int) - n ≤ 4000000 := by omega
        obtain ⟨m, hm⟩ : ∃ m, m = mkb 1 ((k : Int) - n) := ⟨_, rfl⟩
        have Hmk := Lib.hid (fun wq => markByte_any 1 ((k : Int) - n) wq (by omega) h0k)
        rw [← hm] at hg Hmk
        clear hm h0k
        go_wp2_with fail
        go_quiet ((go_at_call 43; exact Calls.quiet_of_same ((Hmk.out _).mono fun _ _ ⟨he, hw⟩ => ⟨he, hw.symm⟩)))
        go_wp2
        go_roundw
        case rel => exact ⟨k + 1, by omega, by go_num, below_draws hbel _⟩
        case measure => simp [intOf]; omega
    · have hlt' : ¬ (k : Int) < n + 12 := by omega
      go_wp2
      go_ret
      exact ⟨rfl, hbel⟩

theorem block_setCell {w : World} {g k : Nat} {cur : Array Value} {e : TypeId} {u : Value} (h : w.heap[g]? = some (.cells cur e (0, 0))) : (w.setCell ⟨g, k, none⟩ u).heap[g]? = some (.cells (cur.setIfInBounds k u) e (0, 0)) := by
  simp [World.setCell, Array.getElem?_modify, h]
theorem block_cell {w : World} {g k : Nat} {cur : Array Value} {e : TypeId} (h : w.heap[g]? = some (.cells cur e (0, 0))) (hk : k < cur.size) : w.cell? ⟨g, k, none⟩ = some cur[k] ∧ w.frozen? ⟨g, k, none⟩ = false := by
  unfold World.cell? World.frozen?
  simp only [h]
  simp [hk]
theorem grown_setCell {w wr : World} {g k : Nat} {u : Value} (h : w.grownBy wr (some g)) : w.grownBy (wr.setCell ⟨g, k, none⟩ u) (some g) := by
  refine ⟨h.os, h.tape, h.output, by simpa [World.setCell] using h.size, fun j hj hne => ?_⟩
  rw [Below.heap_setCell _ _ _ _ (by simp at hne ⊢; exact hne)]
  exact h.block j hj hne

set_option maxHeartbeats 1000000 in
theorem overBytes_any (n : Nat) (g : Nat) (cur : Array Value) (w : World) (hL : w.heap[g]? = some (.cells cur 5 (0, 0))) (hs : cur.size = n + 12) (hl : n ≤ 1000000) :
    Calls Try.prog 32 #[.slice (some ⟨g, 0, none⟩) n (n + 12)] w fun e w' => e = .returned (.tuple #[]) ∧ w.grownBy w' (some g) := by
  have HL := Lib.hid hL
  have Hs := Lib.hid hs
  clear hL hs
  go_enter Try.func32, Try.ntmps32
  go_wp2
  go_loopw [3] (fun i wr => ∃ (k : Nat) (cr : Array Value), k ≤ n + 12 ∧ i = .int .i64 k ∧ w.grownBy wr (some g) ∧ wr.heap[g]? = some (.cells cr 5 (0, 0)) ∧ cr.size = n + 12) (fun i _ => n + 12 - (intOf i).toNat)
  case atStart => exact ⟨0, cur, by omega, rfl, World.grownBy.refl _ _, HL.out, Hs.out⟩
  case round =>
    obtain ⟨k, cr, hk, rfl, hgr, hblk, hcs⟩ := hrel
    have Hb := Lib.hid hblk
    have Hcs := Lib.hid hcs
    clear hblk hcs
    by_cases hlt : k < n + 12
    · have hlt' : (k : Int) < n + 12 := by omega
      have hcell := (block_cell Hb.out (k := k) (by rw [Hcs.out]; exact hlt)).1
      have hfr := (block_cell Hb.out (k := k) (by rw [Hcs.out]; exact hlt)).2
      go_wp2_with (go_at_call 43; refine (markByte_any 2 k _ (by omega) (by omega)).mono ?_; rintro e w' ⟨rfl, rfl⟩)
      go_roundw
      case rel => exact ⟨k + 1, _, by omega, by go_num, grown_setCell hgr, block_setCell Hb.out, by simp [Hcs.out]⟩
      case measure => simp [intOf]; omega
    · have hlt' : ¬ (k : Int) < n + 12 := by omega
      go_wp2
      go_end0
      exact ⟨rfl, hgr⟩

end Go.Proofs.Ytndminmefacmnaa
