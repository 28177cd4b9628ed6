/-
  A queue is made.
-/
import Derived.Test.YtcpcgpanmoellaaHrF
namespace Go.Proofs.Ytcpcgpanmoellaa
open Go.RowKit Go.Lib

theorem qu_fresh [Watch] {base : Nat} {w : World} (hb : base ≤ w.heap.size) (hl : Watch.lim ≤ w.heap.size) :
    Qu base (((w.alloc (.map #[] 0)).alloc (.cells #[.slice none 0 0, .map (some w.heap.size)] 62)).alloc (.cells #[.pointer (some ⟨w.heap.size + 1, 0, none⟩), .int .i64 0] 64)) (w.heap.size + 2) 0 [] := by
  have hnw : ∀ k, w.heap.size ≤ k → ¬ Watch.W k := fun k hk h => by have := Watch.lt k h; omega
  obtain ⟨w1, h1⟩ : ∃ w1, w1 = w.alloc (.map #[] 0) := ⟨_, rfl⟩
  have s1 : w1.heap.size = w.heap.size + 1 := by rw [h1]; simp
  have hm1 : MapFn w1 w.heap.size 0 (fun _ => none) := by rw [h1]; exact MapFn.made w
  rw [← h1]
  obtain ⟨w2, h2⟩ : ∃ w2, w2 = w1.alloc (.cells #[.slice none 0 0, .map (some w.heap.size)] 62) := ⟨_, rfl⟩
  have s2 : w2.heap.size = w.heap.size + 2 := by rw [h2]; simp [s1]
  have b2 : w2.heap[w.heap.size + 1]? = some (.cells #[.slice none 0 0, .map (some w.heap.size)] 62 (0, 0)) := by rw [h2, ← s1]; exact heap_alloc_new w1 _
  have hm2 : MapFn w2 w.heap.size 0 (fun _ => none) := hm1.keeps (S := fun _ => False) (Keeps.ofNew (by rw [h2]; exact (Below.refl _ _).alloc (Nat.le_refl _) _) _) (fun h => h)
  rw [← h2]
  have hb3 : Below w2.heap.size w2 (w2.alloc (.cells #[.pointer (some ⟨w.heap.size + 1, 0, none⟩), .int .i64 0] 64)) := (Below.refl _ _).alloc (Nat.le_refl _) _
  refine ⟨⟨w.heap.size + 1, w.heap.size, .slice none 0 0, [], ⟨by rw [← s2]; exact heap_alloc_new w2 _, ⟨(hb3.block _ (lt_of_block b2)).trans b2, ⟨by simp, .inl ⟨rfl, rfl⟩⟩, (hm2.keeps (S := fun _ => False) (Keeps.ofNew hb3 _) (fun h => h)).ext fun x _ => by simp [whr], by simp [Once], by simp, by omega, hb, by simp, hnw _ (by omega), hnw _ (Nat.le_refl _), fun k hk => by simp [Value.ownBlock] at hk, by simp [s2]; omega⟩, fun k k0 hk => by simp at hk, by simp, by omega⟩, List.Perm.refl _⟩, Trn.nil (by omega)⟩
set_option maxRecDepth 100000 in
set_option maxHeartbeats 2000000 in
theorem quNew [Watch] {base : Nat} {v : Value} {l : List (Int × Int)} (w : World) (hb : base ≤ w.heap.size) (hlm : Watch.lim ≤ w.heap.size) (hv : ItAt w v l) (hw : ∀ x ∈ l, (kx x.2).wf = true) (hl : l.length ≤ 100000) (hok : (putQ 0 [] l).1 = true) :
    Calls Try.prog 8 #[v] w fun en w' => ∃ q, en = .returned (.tuple #[.pointer (some ⟨q, 0, none⟩), .int .i64 0]) ∧ w.heap.size ≤ q ∧ Qu base w' q (putQ 0 [] l).2.1 (putQ 0 [] l).2.2 ∧ Below w.heap.size w w' := by
  have hf := qu_fresh hb hlm
  have hbel : Below w.heap.size w (((w.alloc (.map #[] 0)).alloc (.cells #[.slice none 0 0, .map (some w.heap.size)] 62)).alloc (.cells #[.pointer (some ⟨w.heap.size + 1, 0, none⟩), .int .i64 0] 64)) := (((Below.refl _ _).alloc (Nat.le_refl _) _).alloc (by simp) _).alloc (by simp; omega) _
  have hp := quPut (base := w.heap.size) (l := l) _ (@qu_fresh _ w.heap.size w (Nat.le_refl _) hlm) (hv.later hbel) hw (by simp; omega) (by omega)
  rw [hok] at hp
  have HP := Lib.hid hp
  have HBel := Lib.hid hbel
  have HB := Lib.hid hb
  obtain ⟨ao, b, off, cap, rfl, -⟩ := hv
  clear hf hbel hp hw hl hok hb
  have hmm := @run_makeMap Try.prog
  go_enter Try.func8, Try.ntmps8
  go_wp2_with fail
  refine HP.out.mono ?_
  rintro en w4 ⟨rfl, hq, hk⟩
  have hq' : Qu base w4 (w.heap.size + 2) (putQ 0 [] l).2.1 (putQ 0 [] l).2.2 := by
    obtain ⟨⟨r, m, lv, L, h1, h2⟩, h3⟩ := hq
    exact ⟨⟨r, m, lv, L, ⟨h1.blk, ⟨h1.row.blk, ownsRow_base h1.row.row HB.out, h1.row.fn, h1.row.once, h1.row.wf, Nat.le_trans HB.out h1.row.br, Nat.le_trans HB.out h1.row.bm, h1.row.le, h1.row.nr, h1.row.nm, h1.row.nl, h1.row.lim⟩, h1.hp, h1.trn, Nat.le_trans HB.out h1.bq⟩, h2⟩, h3⟩
  have HE := Lib.hid (show w.heap.size ≤ w.heap.size + 2 ∧ Qu base w4 (w.heap.size + 2) (putQ 0 [] l).2.1 (putQ 0 [] l).2.2 ∧ Below w.heap.size w w4 from ⟨by omega, hq', HBel.out.trans (hk.below HBel.out.size (by omega))⟩)
  clear hq hk hq'
  go_wp2
  exact bodyPost_ret (v := .tuple #[.pointer (some ⟨w.heap.size + 2, 0, none⟩), .int .i64 0]) (by simp [results, Try.f8, go_sem]) rfl ⟨_, rfl, HE.out⟩
set_option maxRecDepth 100000 in
set_option maxHeartbeats 2000000 in
theorem quNewE {v : Value} {l : List (Int × Int)} (w : World) (hv : ItAt w v l) (hw : ∀ x ∈ l, (kx x.2).wf = true) (hl : l.length ≤ 100000) (hok : (putQ 0 [] l).1 = false) :
    Calls Try.prog 8 #[v] w fun en w' => en = .returned (.tuple #[.pointer none, .int .i64 8]) ∧ Below w.heap.size w w' := by
  have hbel : Below w.heap.size w (((w.alloc (.map #[] 0)).alloc (.cells #[.slice none 0 0, .map (some w.heap.size)] 62)).alloc (.cells #[.pointer (some ⟨w.heap.size + 1, 0, none⟩), .int .i64 0] 64)) := (((Below.refl _ _).alloc (Nat.le_refl _) _).alloc (by simp) _).alloc (by simp; omega) _
  have hp := quPut (base := w.heap.size) (l := l) _ (@qu_fresh noWatch w.heap.size w (Nat.le_refl _) (Nat.zero_le _)) (hv.later hbel) hw (by simp; omega) (by omega)
  rw [hok] at hp
  have HP := Lib.hid hp
  have HBel := Lib.hid hbel
  obtain ⟨ao, b, off, cap, rfl, -⟩ := hv
  clear hbel hp hw hl hok
  have hmm := @run_makeMap Try.prog
  go_enter Try.func8, Try.ntmps8
  go_wp2_with fail
  refine HP.out.mono ?_
  rintro en w4 ⟨rfl, hq, hk⟩
  have HE := Lib.hid (show Below w.heap.size w w4 from HBel.out.trans (hk.below HBel.out.size (by omega)))
  clear hq hk
  go_wp2
  exact bodyPost_ret (v := .tuple #[.pointer none, .int .i64 8]) (by simp [results, Try.f8, go_sem, putE]) rfl ⟨rfl, HE.out⟩
end Go.Proofs.Ytcpcgpanmoellaa
