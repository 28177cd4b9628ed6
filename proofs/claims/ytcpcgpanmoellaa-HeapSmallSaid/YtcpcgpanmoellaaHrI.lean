/-
  Single deeds; numbers brought into a range; what is dropped never comes, plainly.
-/
import Derived.Test.YtcpcgpanmoellaaHrH
namespace Go.Proofs.Ytcpcgpanmoellaa
open Go.RowKit Go.Lib

theorem it_one {w : World} {b : Nat} {k n : Int} {fr : Nat × Nat} (h : w.heap[b]? = some (.cells #[.int .i64 k, .int .i64 n] 30 fr)) : ItAt w (.slice (some ⟨b, 0, none⟩) 1 1) [(k, n)] := by
  refine ⟨_, b, 0, 1, rfl, fun _ => ⟨rfl, _, _, h⟩, fun i hi => ?_⟩
  have hi' : i < 1 := hi
  obtain rfl : i = 0 := by omega
  simp [World.cell?, h]
theorem quPut1 [Watch] {base q b : Nat} {t k x : Int} {M : List En} (w : World) (h : Qu base w q t M) (hv : w.heap[b]? = some (.cells #[.int .i64 k, .int .i64 x] 30 (0, 0))) (hw : (kx x).wf = true) (hl : M.length < 100000) (ht : t < 1000000) (hn : hasN M x = false) :
    Calls Try.prog 9 #[.pointer (some ⟨q, 0, none⟩), .slice (some ⟨b, 0, none⟩) 1 1] w fun en w' => en = .returned (.int .i64 0) ∧ Qu base w' q (t + 1) (M ++ [⟨k, x, t⟩]) ∧ KeepQ base q w w' := by
  have e : putQ t M [(k, x)] = (true, t + 1, M ++ [⟨k, x, t⟩]) := by simp only [putQ]; rw [if_neg (by rw [hn]; simp)]
  have := quPut w h (it_one hv) (by simpa using hw) (by simp; omega) (by simp; omega)
  rw [e] at this
  exact this
theorem quPut1E [Watch] {base q b : Nat} {t k x : Int} {M : List En} (w : World) (h : Qu base w q t M) (hv : w.heap[b]? = some (.cells #[.int .i64 k, .int .i64 x] 30 (0, 0))) (hw : (kx x).wf = true) (hl : M.length < 100000) (ht : t < 1000000) (hn : hasN M x = true) :
    Calls Try.prog 9 #[.pointer (some ⟨q, 0, none⟩), .slice (some ⟨b, 0, none⟩) 1 1] w fun en w' => en = .returned (.int .i64 8) ∧ Qu base w' q t M ∧ KeepQ base q w w' := by
  have e : putQ t M [(k, x)] = (false, t, M) := by simp only [putQ]; rw [if_pos hn]
  have := quPut w h (it_one hv) (by simpa using hw) (by simp; omega) (by simp; omega)
  rw [e] at this
  exact this
theorem quMove_yes [Watch] {base : Nat} {q : Nat} {t : Int} {M : List En} (x k : Int) (w : World) (h : Qu base w q t M) (hx : (kx x).wf = true) (hn : hasN M x = true) :
    Calls Try.prog 12 #[.pointer (some ⟨q, 0, none⟩), .int .i64 x, .int .i64 k] w fun en w' => en = .returned (.int .i64 0) ∧ Qu base w' q t (moveN M x k) ∧ KeepQ base q w w' := by
  have := quMove x k w h hx
  rw [if_pos hn] at this
  exact this
theorem quMove_no [Watch] {base : Nat} {q : Nat} {t : Int} {M : List En} (x k : Int) (w : World) (h : Qu base w q t M) (hx : (kx x).wf = true) (hn : hasN M x = false) :
    Calls Try.prog 12 #[.pointer (some ⟨q, 0, none⟩), .int .i64 x, .int .i64 k] w fun en w' => en = .returned (.int .i64 5) ∧ Qu base w' q t M ∧ KeepQ base q w w' := by
  have := quMove x k w h hx
  rw [if_neg (by rw [hn]; simp), moveN_none hn] at this
  exact this
theorem Qu.off [Watch] {base q x : Nat} {t : Int} {M : List En} {w w' : World} {cs : Array Value} {fr : Nat × Nat} (h : Qu base w q t M) (hk : Keeps (fun k => k = x) w w') (hx : w.heap[x]? = some (.cells cs 30 fr)) : Qu base w' q t M := by
  obtain ⟨⟨r, m, lv, L, h1, h2⟩, h3⟩ := h
  exact ⟨⟨r, m, lv, L, ⟨hk.obj h1.blk (fun e => by rw [← e, h1.blk] at hx; simp at hx), h1.row.off hk hx (by decide) (by decide), h1.hp, h1.trn, h1.bq⟩, h2⟩, h3⟩
/-- a number brought into 0 to n - 1. -/
def pickN (x n : Int) : Int := if x.tmod n < 0 then x.tmod n + n else x.tmod n
theorem pickN_range (x n : Int) (hn : 0 < n) : 0 ≤ pickN x n ∧ pickN x n < n := by
  have h1 := Int.tmod_lt_of_pos x hn
  have h2 := Int.lt_tmod_of_pos x hn
  unfold pickN
  split <;> omega
theorem pickN_in (x n : Int) (h0 : 0 ≤ x) (h : x < n) : pickN x n = x := by
  unfold pickN
  rw [Int.tmod_eq_of_lt h0 h, if_neg (by omega)]
set_option maxHeartbeats 1000000 in
theorem pick_any (w : World) (x n : Int) (hn : 0 < n) (hn2 : n ≤ 1000000) :
    Calls Try.prog 10 #[.int .i64 x, .int .i64 n] w fun e w' => e = .returned (.int .i64 (pickN x n)) ∧ w = w' := by
  have h1 := Int.tmod_lt_of_pos x hn
  have h2 := Int.lt_tmod_of_pos x hn
  have hw : IntKind.i64.wrap (x.tmod n) = x.tmod n := IntWalk.i64_in _ (by omega)
  have hz : (n == 0) = false := by simp; omega
  have hz2 : decide (n = 0) = false := by simp; omega
  have hz3 : ¬ n < 1 := by omega
  by_cases h0 : x.tmod n < 0
  · have hw2 : IntKind.i64.wrap (x.tmod n + n) = x.tmod n + n := IntWalk.i64_in _ (by omega)
    have hp : pickN x n = x.tmod n + n := if_pos h0
    go_enter Try.func10, Try.ntmps10
    go_wp2
    go_ret
    first | exact ⟨rfl, rfl⟩ | exact ⟨congrArg (fun z => Ending.returned (.int .i64 z)) hp.symm, rfl⟩
  · have hp : pickN x n = x.tmod n := if_neg h0
    go_enter Try.func10, Try.ntmps10
    go_wp2
    go_ret
    first | exact ⟨rfl, rfl⟩ | exact ⟨congrArg (fun z => Ending.returned (.int .i64 z)) hp.symm, rfl⟩
/-! keys that are put one by one, named by their places -/
def mkM (ks : List Int) (k : Nat) : List En := (List.range k).map fun i => ⟨ks.getD i 0, i, i⟩
theorem mkM_succ (ks : List Int) (k : Nat) : mkM ks (k + 1) = mkM ks k ++ [⟨ks.getD k 0, k, k⟩] := by simp [mkM, List.range_succ]
theorem mkM_len (ks : List Int) (k : Nat) : (mkM ks k).length = k := by simp [mkM]
theorem mkM_mem {ks : List Int} {k : Nat} {e : En} : e ∈ mkM ks k ↔ ∃ i : Nat, i < k ∧ e = ⟨ks.getD i 0, i, i⟩ := by
  unfold mkM
  rw [List.mem_map]
  exact ⟨fun ⟨i, h1, h2⟩ => ⟨i, List.mem_range.1 h1, h2.symm⟩, fun ⟨i, h1, h2⟩ => ⟨i, List.mem_range.2 h1, h2.symm⟩⟩
theorem mkM_has {ks : List Int} {k : Nat} {x : Nat} : hasN (mkM ks k) x = decide (x < k) := by
  rw [Bool.eq_iff_iff, hasN_iff, decide_eq_true_iff]
  constructor
  · rintro ⟨e, he, hx⟩
    obtain ⟨i, hi, rfl⟩ := mkM_mem.1 he
    simp only at hx
    omega
  · exact fun h => ⟨_, mkM_mem.2 ⟨x, h, rfl⟩, rfl⟩
theorem dropN_has {M : List En} {x y : Int} : hasN (dropN M x) y = (hasN M y && decide (x ≠ y)) := by
  rw [Bool.eq_iff_iff]
  simp only [hasN_iff, dropN, List.mem_filter, bne_iff_ne, Bool.and_eq_true, decide_eq_true_eq]
  constructor
  · rintro ⟨e, ⟨h1, h2⟩, h3⟩
    exact ⟨⟨e, h1, h3⟩, fun h => h2 (by rw [h, h3])⟩
  · rintro ⟨⟨e, h1, h3⟩, h4⟩
    exact ⟨e, ⟨h1, fun h => h4 (by rw [← h, h3])⟩, h3⟩
theorem dropN_len {M : List En} (ho : Once M) {x : Int} (h : hasN M x = true) : (dropN M x).length + 1 = M.length := by
  obtain ⟨e, he, rfl⟩ := hasN_iff.1 h
  have h1 : ∀ (M : List En), Once M → e ∈ M → (dropN M e.name).length + 1 = M.length := by
    intro M
    induction M with
    | nil => intro _ h; simp at h
    | cons a r ih =>
      intro ho he
      unfold Once at ho
      rw [List.map_cons, List.nodup_cons] at ho
      by_cases hn : a.name = e.name
      · have hr : hasN r e.name = false := by
          cases hh : hasN r e.name with
          | false => rfl
          | true =>
            obtain ⟨c, h2, h3⟩ := hasN_iff.1 hh
            exact absurd (by rw [hn, ← h3]; exact List.mem_map_of_mem h2) ho.1
        have : dropN (a :: r) e.name = r := by
          have h4 := dropN_none hr
          unfold dropN at h4 ⊢
          rw [List.filter_cons, if_neg (by simp [hn]), h4]
        rw [this]
        rfl
      · have he' : e ∈ r := by
          rcases List.mem_cons.1 he with h | h
          · exact absurd (by rw [h]) hn
          · exact h
        have : dropN (a :: r) e.name = a :: dropN r e.name := by
          unfold dropN
          rw [List.filter_cons, if_pos (by simp [hn])]
        rw [this, List.length_cons, List.length_cons, ih ho.2 he']
  exact h1 M ho he
theorem moveN_len (M : List En) (x k : Int) : (moveN M x k).length = M.length := by simp [moveN]
/-- what holds while things are taken. -/
structure DropP (ks : List Int) (a b n : Nat) (tk : Int) (k : Nat) (M : List En) (lk ln : Int) : Prop where
  len : M.length + k + 1 = n
  ent : ∀ e ∈ M, ∃ i : Nat, i < n ∧ i ≠ a ∧ e = ⟨if i = b then tk else ks.getD i 0, i, i⟩
  gt : 0 < k → ∀ e ∈ M, lk < e.key ∨ (lk = e.key ∧ ln < e.name)
theorem DropP.start {ks : List Int} {a b n : Nat} {tk : Int} (ha : a < n) (lk ln : Int) : DropP ks a b n tk 0 (moveN (dropN (mkM ks n) a) b tk) lk ln := by
  refine ⟨?_, ?_, fun h => by omega⟩
  · have ho : Once (mkM ks n) := by
      unfold Once mkM
      rw [List.map_map]
      unfold List.Nodup
      rw [List.pairwise_map]
      refine List.Pairwise.imp ?_ List.pairwise_lt_range
      intro i j h
      simp only [Function.comp, ne_eq]
      omega
    have := dropN_len ho (x := (a : Int)) (by rw [mkM_has]; simpa using ha)
    rw [moveN_len]
    rw [mkM_len] at this
    omega
  · intro e he
    unfold moveN at he
    obtain ⟨c, hc, rfl⟩ := List.mem_map.1 he
    obtain ⟨h1, h2⟩ := List.mem_filter.1 hc
    obtain ⟨i, hi, rfl⟩ := mkM_mem.1 h1
    simp only [bne_iff_ne, ne_eq] at h2
    refine ⟨i, hi, fun h => h2 (by rw [h]), ?_⟩
    by_cases hb : i = b
    · rw [if_pos hb, if_pos (by simp [hb])]
    · rw [if_neg hb, if_neg (by simp; omega)]
theorem DropP.next {ks : List Int} {a b n k : Nat} {tk lk ln t : Int} {M : List En} {e : En} (h : DropP ks a b n tk k M lk ln) (ht : Trn t M) (he : FirstN M e) : DropP ks a b n tk (k + 1) (dropN M e.name) e.key e.name := by
  refine ⟨?_, fun c hc => h.ent c (List.mem_filter.1 hc).1, fun _ c hc => ?_⟩
  · have := dropN_len ht.once (hasN_iff.2 ⟨e, he.1, rfl⟩)
    have := h.len
    omega
  · obtain ⟨h1, h2⟩ := List.mem_filter.1 hc
    have h3 := he.2 c h1
    obtain ⟨i, -, -, rfl⟩ := h.ent e he.1
    obtain ⟨j, -, -, rfl⟩ := h.ent c h1
    simp only [bne_iff_ne, ne_eq] at h2
    unfold En.le En.lt at h3
    simp only at h3 ⊢
    omega
end Go.Proofs.Ytcpcgpanmoellaa
