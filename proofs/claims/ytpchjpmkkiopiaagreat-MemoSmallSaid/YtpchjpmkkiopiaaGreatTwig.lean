/-
  Lists of twigs that are lent, looked at again, written over, compared.
-/
import Derived.Test.YtpchjpmkkiopiaaGreatFlat
import Derived.SizedLaws
namespace Go.Proofs.YtpchjpmkkiopiaaGreat
open Go.RowKit

theorem Tryz.infoTwig : (Tryz.prog.info? 38).map (fun i => (i.zero, i.size, i.bytes)) = some (some (.agg #[.int .i64 0, .int .i64 0, .int .i64 0, .int .i64 0, .int .i64 0]), 5, 40) := by kernel_rfl

/-- a twig. -/
structure Tw where
  rule : Int
  lev : Int
  fr : Int
  to : Int
  kids : Int
deriving DecidableEq
def twc (t : Tw) : List Value := [.int .i64 t.rule, .int .i64 t.lev, .int .i64 t.fr, .int .i64 t.to, .int .i64 t.kids]
theorem twc_len (t : Tw) : (twc t).length = 5 := rfl
theorem twc_one (t : Tw) : ∀ u ∈ twc t, u.oneCell' = true := by intro u hu; simp [twc] at hu; rcases hu with rfl | rfl | rfl | rfl | rfl <;> rfl
abbrev tvs (l : List Tw) : List Value := l.flatMap twc
def tmk (t : List Tw) (k : Nat) : List Tw := t ++ (List.range k).map fun i : Nat => ⟨8000024 + (i : Int), 0, 0, 0, 0⟩
theorem tmk_len (t : List Tw) (k : Nat) : (tmk t k).length = t.length + k := by simp [tmk]
theorem tmk_succ (t : List Tw) (k : Nat) : tvs (tmk t (k + 1)) = tvs (tmk t k) ++ [.int .i64 (8000024 + (k : Int)), .int .i64 0, .int .i64 0, .int .i64 0, .int .i64 0] := by
  simp [tmk, List.range_succ, twc]
/-- a slice of twigs, read. -/
def TwAt (w : World) (v : Value) (l : List Tw) : Prop := RowsAt w 5 v (l.map twc)
theorem TwAt.later {w w' : World} {v : Value} {l : List Tw} (h : TwAt w v l) (hb : Below w.heap.size w w') : TwAt w' v l := RowsAt.later h hb
theorem TwAt.val {w : World} {v : Value} {l : List Tw} (h : TwAt w v l) : ∃ ao cap, v = .slice ao l.length cap := by
  obtain ⟨ao, cap, h⟩ := RowsAt.val h
  exact ⟨ao, cap, by simpa using h⟩
theorem TwAt.cells {w : World} {ao : Option Addr} {n cap : Nat} {l : List Tw} (h : TwAt w (.slice ao n cap) l) : n = l.length ∧ l.length ≤ cap ∧ cap ≤ maxLen ∧ (ao = none → n = 0 ∧ cap = 0) ∧ ∀ i (hi : i < l.length), ∃ b off, ao = some ⟨b, off, none⟩ ∧ b < w.heap.size ∧
    w.cell? ⟨b, off + i * 5, none⟩ = some (.int .i64 l[i].rule) ∧ w.cell? ⟨b, off + i * 5 + 1, none⟩ = some (.int .i64 l[i].lev) ∧ w.cell? ⟨b, off + i * 5 + 2, none⟩ = some (.int .i64 l[i].fr) ∧ w.cell? ⟨b, off + i * 5 + 3, none⟩ = some (.int .i64 l[i].to) ∧ w.cell? ⟨b, off + i * 5 + 4, none⟩ = some (.int .i64 l[i].kids) := by
  obtain ⟨ao', b, off, cap', he, hl, hm, hn, ha, _, hc⟩ := h
  simp only [Value.slice.injEq, List.length_map] at he hl hn ha hc
  obtain ⟨rfl, rfl, rfl⟩ := he
  refine ⟨rfl, hl, hm, hn, fun i hi => ⟨b, off, (ha (by omega)).1, (ha (by omega)).2, ?_⟩⟩
  have h := fun j hj => hc i hi j hj
  simp only [List.getElem_map] at h
  exact ⟨h 0 (by omega), h 1 (by omega), h 2 (by omega), h 3 (by omega), h 4 (by omega)⟩

theorem wf64 {n : Int} (h : -9223372036854775808 ≤ n ∧ n ≤ 9223372036854775807) : (Lit.int .i64 n).wf = true := by simp [Lit.wf, IntKind.min, IntKind.max, IntKind.signed, IntKind.bits]; omega

set_option maxHeartbeats 400000 in
theorem tmark_any (k i : Int) (w : World) (hk : 0 ≤ k ∧ k ≤ 10) (hi : 0 ≤ i ∧ i ≤ 4000000) :
    Calls Tryz.prog 53 #[.int .i64 k, .int .i64 i] w fun e w' => e = .returned (.int .i64 (1000003 * (k + 7) + i)) ∧ w = w' := by
  obtain ⟨h1, h2⟩ := hk
  obtain ⟨h3, h4⟩ := hi
  go_enter Tryz.func53, Tryz.ntmps53
  go_wp2
  go_ret
  exact ⟨rfl, rfl⟩
set_option maxHeartbeats 400000 in
theorem markTwig_any (k i : Int) (w : World) (hk : 0 ≤ k ∧ k ≤ 10) (hi : 0 ≤ i ∧ i ≤ 4000000) :
    Calls Tryz.prog 52 #[.int .i64 k, .int .i64 i] w fun e w' => e = .returned (.agg #[.int .i64 (1000003 * (k + 7) + i), .int .i64 0, .int .i64 0, .int .i64 0, .int .i64 0]) ∧ Below w.heap.size w w' := by
  have Hm := Lib.hid (fun wq => tmark_any k i wq hk hi)
  clear hk hi
  go_enter Tryz.func52, Tryz.ntmps52
  go_wp2_with (go_at_call 53; refine (Hm.out _).mono ?_; rintro e w' ⟨rfl, rfl⟩)
  refine bodyPost_ret (v := .agg #[.int .i64 (1000003 * (k + 7) + i), .int .i64 0, .int .i64 0, .int .i64 0, .int .i64 0]) (by simp [results, Tryz.f52, go_sem]) rfl ⟨rfl, (Below.refl _ _).alloc (Nat.le_refl _) _⟩

/-- the list of twigs that was lent: its block. -/
def TLentAt (w : World) (g : Nat) (t : List Tw) : Prop := w.heap[g]? = some (.cells (tvs (tmk t 12)).toArray 38 (0, 0))
theorem TLentAt.later {w w' : World} {g : Nat} {t : List Tw} (h : TLentAt w g t) (hb : Below w.heap.size w w') : TLentAt w' g t := by
  unfold TLentAt at *
  rw [hb.block g (lt_of_block h), h]
theorem TLentAt.cell {w : World} {g : Nat} {t : List Tw} (h : TLentAt w g t) (i : Nat) (hi : i < t.length + 12) (c : Nat) (hc : c < 5) : w.cell? ⟨g, i * 5 + c, none⟩ = (twc ((tmk t 12)[i]'(by rw [tmk_len]; exact hi)))[c]? := by
  rw [(block_cell' h _).1, ← flat_get twc_len (tmk t 12) i c (by rw [tmk_len]; exact hi) hc]
  simp
theorem TLentAt.tw {w : World} {g : Nat} {t : List Tw} (h : TLentAt w g t) (hl : t.length ≤ 1000000) : TwAt w (.slice (some ⟨g, 0, none⟩) t.length (t.length + 12)) t := by
  refine ⟨_, g, 0, t.length + 12, by simp, by simp, by unfold maxLen; omega, fun h => by simp at h, fun _ => ⟨rfl, lt_of_block h⟩, fun e he => by obtain ⟨x, _, rfl⟩ := List.mem_map.1 he; exact twc_len x, fun i hi j hj => ?_⟩
  simp only [List.length_map] at hi
  rw [Nat.zero_add, h.cell i (by omega) j hj, List.getElem_map]
  simp [tmk, List.getElem_append_left, hi]

theorem mk_one (m : Int) : ∀ u ∈ [Value.int .i64 m, .int .i64 0, .int .i64 0, .int .i64 0, .int .i64 0], u.oneCell' = true := by
  intro u hu
  simp at hu
  rcases hu with rfl | rfl <;> rfl
set_option maxRecDepth 100000 in
set_option maxHeartbeats 2000000 in
theorem lentTwigs_any (v : Value) (t : List Tw) (w : World) (ht : TwAt w v t) (hl : t.length ≤ 1000000) :
    Calls Tryz.prog 30 #[v] w fun e w' => e = .returned (.slice (some ⟨w.heap.size, 0, none⟩) t.length (t.length + 12)) ∧ TLentAt w' w.heap.size t ∧ Below w.heap.size w w' := by
  have HT := Lib.hid ht
  obtain ⟨ao, cap, rfl⟩ := ht.val
  obtain ⟨-, hlc, hcm, hnil, -⟩ := rows_news twc_len (by omega) ht
  have Hnil := Lib.hid hnil
  clear ht hcm hnil
  obtain ⟨n, hn⟩ : ∃ n, n = t.length := ⟨_, rfl⟩
  have Hn := Lib.hid hn
  rw [← hn] at hl hlc HT Hnil ⊢
  clear hn
  obtain ⟨i0, hi, hz0, hz1, hz2⟩ := info_parts Tryz.infoTwig
  go_enter Tryz.func30, Tryz.ntmps30
  go_wp2_with (first
    | (at_make; refine wpList_make_own _ rfl _ _ 25 rfl w.heap.size 38 i0 (.agg #[.int .i64 0, .int .i64 0, .int .i64 0, .int .i64 0, .int .i64 0]) 5 Tryz.underlying25 hi hz0 hz1 .i64 .i64 _ (n + 12) rfl rfl (by omega) (by rw [hz2]; omega) (by unfold maxLen; omega) (Nat.le_refl _) ?_; intro w1 hown1 hg1; have hb1 := (Below.refl w.heap.size w).grown hg1 (Nat.le_refl _) (fun k hk => by simp at hk); obtain ⟨-, -, -, -, hnw1⟩ := rows_news twc_len (by omega) (HT.out.later hb1); have HN1 := Lib.hid hnw1; clear hnw1)
    | (at_builtin; refine wpList_append_fits_any _ rfl (.tmp 9) (.tmp 10) 25 rfl w.heap.size 38 i0 5 Tryz.underlying25 hi hz1 w.heap.size 0 (n + 12) [] rfl hown1 ao n cap (tvs t) rfl (by rw [flat_len twc_len, Hn.out]) (fun h => by have h' := Hnil.out h; omega) HN1.out (flat_one twc_one t) (by omega) ?_; intro w2 hown2 hg2; have hb2 := hb1.grown hg2 hb1.size (fun k hk => by simp at hk; omega)))
  simp only [Nat.zero_add, List.nil_append] at hown2
  go_loopw [3, 4] (fun v i wr => ∃ k : Nat, k ≤ 12 ∧ i = .int .i64 k ∧ v = .slice (some ⟨w.heap.size, 0, none⟩) (n + k) (n + 12) ∧ wr.ownsRow w.heap.size 38 5 (.slice (some ⟨w.heap.size, 0, none⟩) (n + k) (n + 12)) (n + k) (tvs (tmk t k)) ∧ Below w.heap.size w wr) (fun _ i _ => 12 - (intOf i).toNat)
  case atStart => exact ⟨0, by omega, rfl, by simp, by simpa [tmk] using hown2, hb2⟩
  case round =>
    obtain ⟨k, hk, rfl, rfl, hown, hbel⟩ := hrel
    by_cases hlt : k < 12
    · have hsz := hbel.size
      have Hmk := Lib.hid (fun wq => markTwig_any 1 k wq (by omega) (by omega))
      simp only [show (1000003 : Int) * (1 + 7) = 8000024 from rfl] at Hmk
      go_wp2_with (first
        | (go_at_call 52; refine (Hmk.out _).mono ?_; rintro e w5 ⟨rfl, hb5⟩; have hbel5 := hbel.trans (hb5.mono hbel.size); have hown5 := hown.kept (w' := w5) (row := none) ⟨hb5.os, hb5.tape, hb5.output, hb5.size, fun k hk _ => hb5.block k hk⟩ (by simp [Value.ownBlock]); clear hb5)
        | (at_builtin; refine wpList_append_fits _ rfl (.tmp 16) (.tmp 19) 25 rfl w.heap.size 38 i0 5 Tryz.underlying25 hi hz1 w.heap.size (n + k) (n + 12) (tvs (tmk t k)) rfl (hown5.alloc _) ⟨w5.heap.size, 0, none⟩ 1 1 [.int .i64 (8000024 + (k : Int)), .int .i64 0, .int .i64 0, .int .i64 0, .int .i64 0] rfl rfl (cell_new_list w5 [.int .i64 (8000024 + (k : Int)), .int .i64 0, .int .i64 0, .int .i64 0, .int .i64 0] 38) (mk_one _) (by omega) ?_; intro w3 hown3 hg3; have hb3 := (hbel5.alloc hbel5.size _).grown hg3 (by have := hbel5.size; simp; omega) (fun k hk => by simp at hk; omega)))
      go_roundw
      case rel => exact ⟨k + 1, by omega, by go_num, by rw [Nat.add_assoc], by rw [tmk_succ]; exact hown3, hb3⟩
      case measure => simp [intOf]; omega
    · obtain rfl : k = 12 := by omega
      go_wp2
      go_ret
      exact ⟨rfl, by rw [Hn.out] at hown; exact own_full hown, hbel⟩
end Go.Proofs.YtpchjpmkkiopiaaGreat
