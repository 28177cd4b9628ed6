import Derived.Test.YtcpcgpanmoellaaHtAm
namespace Go.Proofs.Ytcpcgpanmoellaa
open Go.RowKit Go.Lib

/-- the document's queue, in memory. -/
structure Rq (base : Nat) (w : World) (r : Nat) (v : Value) (M : List En) : Prop where
  blk : w.heap[r]? = some (.cells #[v] 49 (0, 0))
  row : w.ownsRow base 79 2 v M.length (M.flatMap it2)
  le : M.length ≤ 100000
theorem Rq.later {base : Nat} {w w' : World} {r : Nat} {v : Value} {M : List En} (h : Rq base w r v M) (hb : Below w.heap.size w w') : Rq base w' r v M :=
  ⟨(hb.block _ (lt_of_block h.blk)).trans h.blk, row_kept (S := fun _ => False) h.row (Keeps.ofNew hb _) (fun _ _ _ h => h), h.le⟩
/-- it stays, if no block of its kinds is written. -/
theorem Rq.kept {S : Nat → Prop} {base : Nat} {w w' : World} {r : Nat} {v : Value} {M : List En} (h : Rq base w r v M) (hk : Keeps S w w') (h1 : ∀ k cs, w.heap[k]? = some (.cells cs 49 (0, 0)) → ¬ S k) (h2 : ∀ k cs, w.heap[k]? = some (.cells cs 79 (0, 0)) → ¬ S k) : Rq base w' r v M :=
  ⟨hk.obj h.blk (h1 _ _ h.blk), row_kept h.row hk h2, h.le⟩
theorem Rq.keepQ [Watch] {b base q : Nat} {w w' : World} {r : Nat} {v : Value} {M : List En} {cs : Array Value} {fr : Nat × Nat} (h : Rq b w r v M) (hk : KeepQ base q w w') (hq : w.heap[q]? = some (.cells cs 64 fr)) : Rq b w' r v M := by
  refine h.kept hk (fun k cs hc hS => ?_) (fun k cs hc hS => ?_)
  all_goals
    rcases hS with hS | hS
    · have := hS.2
      rw [hc] at this
      simp at this
    · rw [hS, hq] at hc
      simp at hc
/-- a thing of the row: its cells. -/
theorem row2 {w : World} {base g n cap : Nat} {t : TypeId} {M : List En} (h : w.ownsRow base t 2 (.slice (some ⟨g, 0, none⟩) n cap) n (M.flatMap it2)) (i : Nat) (hi : i < M.length) :
    (w.cell? ⟨g, i * 2, none⟩ = some (.int .i64 (pos M i).key) ∧ w.cell? ⟨g, i * 2 + 1, none⟩ = some (.int .i64 (pos M i).name)) ∧ w.frozen? ⟨g, i * 2, none⟩ = false ∧ w.frozen? ⟨g, i * 2 + 1, none⟩ = false := by
  have hn : M.length = n := by have := h.1; rw [flat_len it2_len] at this; omega
  obtain ⟨g', cap', cur, hv, -, hg, -, -, -, ht⟩ := h.2.resolve_left (fun h => by simp at h)
  simp only [Value.slice.injEq, Option.some.injEq, Addr.mk.injEq] at hv
  obtain ⟨⟨rfl, -⟩, -⟩ := hv
  have hc : ∀ c, c < 2 → cur[i * 2 + c]? = (it2 (M[i]))[c]? := fun c hc => by
    have := flat_get it2_len M i c hi hc
    rw [← ht, List.getElem?_take_of_lt (by omega)] at this
    simpa using this
  have h0 := hc 0 (by omega)
  have h1 := hc 1 (by omega)
  rw [pos_get hi]
  exact ⟨⟨(block_cell' hg _).1.trans h0, (block_cell' hg _).1.trans h1⟩, (block_cell' hg _).2, (block_cell' hg _).2⟩
theorem once_pos {M : List En} (ho : Once M) {i j : Nat} (hi : i < M.length) (hj : j < M.length) (h : (pos M i).name = (pos M j).name) : i = j := by
  rw [pos_get hi, pos_get hj] at h
  have h3 : (M.map (·.name))[i]'(by simpa using hi) = (M.map (·.name))[j]'(by simpa using hj) := by simpa using h
  exact (List.getElem_inj ho).1 h3
set_option maxRecDepth 100000 in
set_option maxHeartbeats 2000000 in
theorem rAt_yes {base r : Nat} {v : Value} {M : List En} (x : Int) (i : Nat) (w : World) (h : Rq base w r v M) (ho : Once M) (hi : i < M.length) (hx : (pos M i).name = x) :
    Calls Try.prog 35 #[.pointer (some ⟨r, 0, none⟩), .int .i64 x] w fun e w' => e = .returned (.int .i64 i) ∧ w = w' := by
  have c0 := (block_cell' h.blk 0).1
  simp only [List.getElem?_toArray, List.getElem?_cons_zero] at c0
  obtain ⟨g, cap, rfl⟩ := own_shape h.row (by omega)
  have hrow := fun k hk => (row2 h.row k hk).1
  have HR := Lib.hid hrow
  have HO := Lib.hid ho
  have HX := Lib.hid hx
  have hle := h.le
  obtain ⟨n, hn⟩ : ∃ n, n = M.length := ⟨_, rfl⟩
  have HN := Lib.hid hn
  rw [← hn] at c0 hi hle
  clear h hrow ho hx hn
  go_enter Try.func35, Try.ntmps35
  go_wp2
  go_loop [5] (fun t => ∃ k : Nat, k ≤ i ∧ t = .int .i64 k) (fun t => n - (intOf t).toNat)
  case atStart => exact ⟨0, Nat.zero_le _, rfl⟩
  case round =>
    obtain ⟨k, hk, rfl⟩ := hrel
    have hkn : (k : Int) < n := by omega
    obtain ⟨-, d1⟩ := HR.out k (by rw [← HN.out]; omega)
    by_cases hki : k = i
    · have hq : ((pos M k).name == x) = true := by rw [hki, HX.out]; simp
      have hq2 : decide ((pos M k).name = x) = true := by rw [hki, HX.out]; simp
      have HKi := Lib.hid hki
      clear hki
      go_wp2
      go_ret
      exact ⟨by rw [HKi.out]; rfl, rfl⟩
    · have hne : ¬ (pos M k).name = x := fun e => hki (once_pos HO.out (by rw [← HN.out]; omega) (by rw [← HN.out]; omega) (by rw [e, HX.out]))
      have hq : ((pos M k).name == x) = false := by simpa using hne
      have hq2 : decide ((pos M k).name = x) = false := by simpa using hne
      clear hne
      go_wp2
      go_round
      case rel => exact ⟨k + 1, by omega, by go_num⟩
      case measure => simp [intOf]; omega
set_option maxRecDepth 100000 in
set_option maxHeartbeats 2000000 in
theorem rAt_no {base r : Nat} {v : Value} {M : List En} (x : Int) (w : World) (h : Rq base w r v M) (hx : hasN M x = false) :
    Calls Try.prog 35 #[.pointer (some ⟨r, 0, none⟩), .int .i64 x] w fun e w' => e = .returned (.int .i64 (-1)) ∧ w = w' := by
  have c0 := (block_cell' h.blk 0).1
  simp only [List.getElem?_toArray, List.getElem?_cons_zero] at c0
  have hrow : ∀ k, k < M.length → ∃ g cap, v = .slice (some ⟨g, 0, none⟩) M.length cap ∧ w.cell? ⟨g, k * 2 + 1, none⟩ = some (.int .i64 (pos M k).name) ∧ ¬ (pos M k).name = x := fun k hk => by
    obtain ⟨g, cap, rfl⟩ := own_shape h.row (by omega)
    refine ⟨g, cap, rfl, (row2 h.row k hk).1.2, fun e => ?_⟩
    have : hasN M x = true := hasN_iff.2 ⟨pos M k, by rw [pos_get hk]; exact List.getElem_mem hk, e⟩
    rw [hx] at this
    simp at this
  have HR := Lib.hid hrow
  have hle := h.le
  obtain ⟨ao, cap, rfl⟩ := own_val h.row
  obtain ⟨n, hn⟩ : ∃ n, n = M.length := ⟨_, rfl⟩
  rw [← hn] at c0 hle HR
  clear h hrow hx hn
  go_enter Try.func35, Try.ntmps35
  go_wp2
  go_loop [5] (fun t => ∃ k : Nat, k ≤ n ∧ t = .int .i64 k) (fun t => n - (intOf t).toNat)
  case atStart => exact ⟨0, Nat.zero_le _, rfl⟩
  case round =>
    obtain ⟨k, hk, rfl⟩ := hrel
    by_cases hkn : k < n
    · have hkn2 : (k : Int) < n := by omega
      obtain ⟨g, cap', hv, d1, hne⟩ := HR.out k hkn
      simp only [Value.slice.injEq] at hv
      obtain ⟨rfl, -, rfl⟩ := hv
      have hq : ((pos M k).name == x) = false := by simpa using hne
      have hq2 : decide ((pos M k).name = x) = false := by simpa using hne
      clear hne
      go_wp2
      go_round
      case rel => exact ⟨k + 1, by omega, by go_num⟩
      case measure => simp [intOf]; omega
    · have hkn2 : ¬ (k : Int) < n := by omega
      go_wp2
      go_ret
      exact ⟨rfl, rfl⟩
set_option maxHeartbeats 1000000 in
theorem rKey {base r : Nat} {v : Value} {M : List En} (x : Int) (w : World) (h : Rq base w r v M) (ho : Once M) :
    Calls Try.prog 42 #[.pointer (some ⟨r, 0, none⟩), .int .i64 x] w fun e w' => e = .returned (.tuple #[.int .i64 (keyN M x), .bool (hasN M x)]) ∧ w = w' := by
  have c0 := (block_cell' h.blk 0).1
  simp only [List.getElem?_toArray, List.getElem?_cons_zero] at c0
  cases hb : hasN M x with
  | false =>
    have HA := Lib.hid (rAt_no x w h hb)
    have hk := keyN_none hb
    rw [hk]
    clear h ho hb hk
    go_enter Try.func42, Try.ntmps42
    go_wp2_with fail
    refine HA.out.mono ?_
    rintro e w1 ⟨rfl, rfl⟩
    go_wp2
    exact bodyPost_ret (v := .tuple #[.int .i64 0, .bool false]) (by simp [results, Try.f42, go_sem]) rfl ⟨rfl, rfl⟩
  | true =>
    obtain ⟨e, he, hn⟩ := hasN_iff.1 hb
    obtain ⟨i, hi, hie⟩ := List.mem_iff_getElem.1 he
    have hp : pos M i = e := by rw [pos_get hi]; exact hie
    have HA := Lib.hid (rAt_yes x i w h ho hi (by rw [hp]; exact hn))
    have hk : keyN M x = (pos M i).key := by rw [hp, ← hn]; exact keyN_mem ho he
    rw [hk]
    obtain ⟨g, cap, rfl⟩ := own_shape h.row (by omega)
    obtain ⟨⟨d0, -⟩, -⟩ := row2 h.row i hi
    have hle := h.le
    obtain ⟨n, hnn⟩ : ∃ n, n = M.length := ⟨_, rfl⟩
    rw [← hnn] at c0 hi hle
    have hi2 : (i : Int) < n := by omega
    have hi3 : ¬ (i : Int) < 0 := by omega
    clear h ho hb hk he hn hie hp hnn
    go_enter Try.func42, Try.ntmps42
    go_wp2_with fail
    refine HA.out.mono ?_
    rintro e w1 ⟨rfl, rfl⟩
    go_wp2
    exact bodyPost_ret (v := .tuple #[.int .i64 (pos M i).key, .bool true]) (by simp [results, Try.f42, go_sem]) rfl ⟨rfl, rfl⟩
end Go.Proofs.Ytcpcgpanmoellaa
namespace Go.Proofs.Ytcpcgpanmoellaa
open Go.RowKit Go.Lib

/-- the best place of the first j. -/
def BestAt (M : List En) (j k : Nat) : Prop := k < j ∧ ∀ a, a < j → (pos M k).key ≤ (pos M a).key ∧ (a < k → (pos M k).key < (pos M a).key)
theorem BestAt.one (M : List En) : BestAt M 1 0 := ⟨by omega, fun a ha => by
  obtain rfl : a = 0 := by omega
  exact ⟨Int.le_refl _, fun h => by omega⟩⟩
theorem BestAt.keep {M : List En} {j k : Nat} (h : BestAt M j k) (hl : ¬ (pos M j).key < (pos M k).key) : BestAt M (j + 1) k := ⟨by have := h.1; omega, fun a ha => by
  by_cases hj : a = j
  · subst hj; exact ⟨by omega, fun hk => by have := h.1; omega⟩
  · exact h.2 a (by omega)⟩
theorem BestAt.turn {M : List En} {j k : Nat} (h : BestAt M j k) (hl : (pos M j).key < (pos M k).key) : BestAt M (j + 1) j := ⟨by omega, fun a ha => by
  by_cases hj : a = j
  · subst hj; exact ⟨Int.le_refl _, fun h => by omega⟩
  · have := h.2 a (by omega)
    exact ⟨by omega, fun _ => by omega⟩⟩
theorem BestAt.first {M : List En} {t : Int} {k : Nat} (h : BestAt M M.length k) (ht : Trn t M) : FirstN M (pos M k) := by
  refine ⟨by rw [pos_get h.1]; exact List.getElem_mem _, fun a ha => ?_⟩
  obtain ⟨j, hj, rfl⟩ := List.mem_iff_getElem.1 ha
  have h1 := h.2 j hj
  rw [← pos_get hj]
  have h2 : k < j → (pos M k).turn < (pos M j).turn := fun hkj => by
    rw [pos_get h.1, pos_get hj]
    exact List.pairwise_iff_getElem.1 ht.srt k j h.1 hj hkj
  unfold En.le En.lt
  rcases Nat.lt_trichotomy j k with hh | hh | hh
  · have := h1.2 hh; omega
  · subst hh; omega
  · have := h2 hh; omega
set_option maxRecDepth 100000 in
set_option maxHeartbeats 2000000 in
theorem rfirst {base r : Nat} {v : Value} {t : Int} {M : List En} (i : Nat) (w : World) (h : Rq base w r v M) (ht : Trn t M) (hi : i < M.length) (hf : FirstN M (pos M i)) :
    Calls Try.prog 52 #[.pointer (some ⟨r, 0, none⟩)] w fun e w' => e = .returned (.int .i64 i) ∧ ∃ m, w' = w.drewN m := by
  have c0 := (block_cell' h.blk 0).1
  simp only [List.getElem?_toArray, List.getElem?_cons_zero] at c0
  obtain ⟨g, cap, rfl⟩ := own_shape h.row (by omega)
  have hrow := fun k hk => (row2 h.row k hk).1.1
  have HR := Lib.hid hrow
  have HT := Lib.hid ht
  have HF := Lib.hid hf
  have hle := h.le
  obtain ⟨n, hn⟩ : ∃ n, n = M.length := ⟨_, rfl⟩
  have HN := Lib.hid hn
  rw [← hn] at c0 hi hle
  clear h hrow ht hf hn
  go_enter Try.func52, Try.ntmps52
  go_wp2
  go_loopw [3, 4] (fun b j wr => (∃ m, wr = w.drewN m) ∧ ((b = .int .i64 (-1) ∧ j = .int .i64 0) ∨ ∃ j' k : Nat, 0 < j' ∧ j' ≤ n ∧ j = .int .i64 j' ∧ b = .int .i64 k ∧ BestAt M j' k)) (fun _ j _ => n - (intOf j).toNat)
  case atStart => exact ⟨⟨0, rfl⟩, .inl ⟨rfl, rfl⟩⟩
  case round =>
    obtain ⟨⟨m, rfl⟩, hr⟩ := hrel
    rcases hr with ⟨rfl, rfl⟩ | ⟨j, k, hj0, hj, rfl, rfl, hb⟩
    · have h0 : (0 : Int) < n := by omega
      go_upto_region 5 with (fail)
      go_big_quiet (fail)
      go_wp2
      go_roundw
      case rel => exact ⟨⟨m + nq, rfl⟩, .inr ⟨1, 0, by omega, by omega, by go_num, rfl, BestAt.one M⟩⟩
      case measure => simp [intOf]; omega
    · have HBt := Lib.hid hb
      have hkj := hb.1
      clear hb
      by_cases hlt : j < n
      · have hjn : (j : Int) < n := by omega
        have hkn : (k : Int) < n := by omega
        have hk0 : decide ((k : Int) < 0) = false := by simp
        have d0 := HR.out j (by rw [← HN.out]; exact hlt)
        have d1 := HR.out k (by rw [← HN.out]; omega)
        by_cases hl : (pos M j).key < (pos M k).key
        · have q1 : decide ((pos M j).key < (pos M k).key) = true := by simpa using hl
          have HL := Lib.hid hl
          clear hl
          go_upto_region 5 with (fail)
          go_big_quiet (fail)
          go_wp2
          go_roundw
          case rel => exact ⟨⟨m + nq, rfl⟩, .inr ⟨j + 1, j, by omega, by omega, by go_num, rfl, HBt.out.turn HL.out⟩⟩
          case measure => simp [intOf]; omega
        · have q1 : decide ((pos M j).key < (pos M k).key) = false := by simpa using hl
          have HL := Lib.hid hl
          clear hl
          go_upto_region 5 with (fail)
          go_big_quiet (fail)
          go_wp2
          go_roundw
          case rel => exact ⟨⟨m + nq, rfl⟩, .inr ⟨j + 1, k, by omega, by omega, by go_num, rfl, HBt.out.keep HL.out⟩⟩
          case measure => simp [intOf]; omega
      · have hjn : ¬ (j : Int) < n := by omega
        have hjn2 : j = n := by omega
        have hki : k = i := by
          have h1 : BestAt M M.length k := by rw [← HN.out, ← hjn2]; exact HBt.out
          have h2 := first_one HT.out (h1.first HT.out) HF.out
          exact once_pos HT.out.once h1.1 (by rw [← HN.out]; exact hi) (by rw [h2])
        have HKi := Lib.hid hki
        clear hki hjn2 hlt
        go_wp2
        go_ret
        exact ⟨by rw [HKi.out]; rfl, m, rfl⟩
set_option maxHeartbeats 1000000 in
theorem rfirst0 {base r : Nat} {v : Value} (w : World) (h : Rq base w r v []) :
    Calls Try.prog 52 #[.pointer (some ⟨r, 0, none⟩)] w fun e w' => e = .returned (.int .i64 (-1)) ∧ w = w' := by
  have c0 := (block_cell' h.blk 0).1
  simp only [List.getElem?_toArray, List.getElem?_cons_zero] at c0
  obtain ⟨ao, cap, rfl⟩ := own_val h.row
  simp only [List.length_nil] at c0
  clear h
  go_enter Try.func52, Try.ntmps52
  go_wp2
  go_loop [3, 4] (fun b j => b = .int .i64 (-1) ∧ j = .int .i64 0) (fun _ _ => 0)
  case atStart => exact ⟨rfl, rfl⟩
  case round =>
    obtain ⟨rfl, rfl⟩ := hrel
    go_wp2
    go_ret
    exact ⟨rfl, rfl⟩
set_option maxRecDepth 100000 in
set_option maxHeartbeats 1000000 in
theorem rFirst0 {base r : Nat} {v : Value} (w : World) (h : Rq base w r v []) :
    Calls Try.prog 41 #[.pointer (some ⟨r, 0, none⟩)] w fun e w' => e = .returned (.tuple #[.agg #[.int .i64 0, .int .i64 0], .bool false]) ∧ Below w.heap.size w w' := by
  have H := Lib.hid h
  clear h
  go_enter Try.func41, Try.ntmps41
  go_upto_region 1 with (fail)
  refine gen_world (S := fun u => Below w.heap.size w u ∧ u.heap[w.heap.size]? = some (.cells #[.int .i64 0, .int .i64 0] 79 (0, 0))) (one_new w _) (fun u hu => ?_)
  obtain ⟨hb, hx⟩ := hu
  have HU := Lib.hid (rfirst0 u (H.out.later hb))
  have HB := Lib.hid hb
  have HX := Lib.hid hx
  have f0 : u.frozen? ⟨w.heap.size, 0, none⟩ = false := (block_cell' hx 0).2
  have f1 : u.frozen? ⟨w.heap.size, 1, none⟩ = false := (block_cell' hx 1).2
  obtain ⟨x0, x1⟩ := two_box hx
  clear hb hx
  go_wp2_with fail
  refine HU.out.mono ?_
  rintro e w1 ⟨rfl, rfl⟩
  go_wp2
  have hset : Keeps (fun k => k = w.heap.size) u ((u.setCell ⟨w.heap.size, 0, none⟩ (.int .i64 0)).setCell ⟨w.heap.size, 1, none⟩ (.int .i64 0)) := ((Keeps.refl (fun k => k = w.heap.size) u).setCell (p := ⟨w.heap.size, 0, none⟩) rfl _).setCell (p := ⟨w.heap.size, 1, none⟩) rfl _
  have hb2 : ((u.setCell ⟨w.heap.size, 0, none⟩ (.int .i64 0)).setCell ⟨w.heap.size, 1, none⟩ (.int .i64 0)).heap[w.heap.size]? = some (.cells #[.int .i64 0, .int .i64 0] 79 (0, 0)) := block_setCell' (block_setCell' HX.out)
  obtain ⟨q0, q1⟩ := two_box hb2
  exact bodyPost_ret (v := .tuple #[.agg #[.int .i64 0, .int .i64 0], .bool false]) (by simp [results, Try.f41, go_sem, q0, q1]) rfl ⟨rfl, Below.keeps HB.out hset (Nat.le_refl _)⟩
set_option maxRecDepth 100000 in
set_option maxHeartbeats 1000000 in
theorem rFirst {base r : Nat} {v : Value} {t : Int} {M : List En} {e : En} (w : World) (h : Rq base w r v M) (ht : Trn t M) (he : FirstN M e) :
    Calls Try.prog 41 #[.pointer (some ⟨r, 0, none⟩)] w fun en w' => en = .returned (.tuple #[.agg #[.int .i64 e.key, .int .i64 e.name], .bool true]) ∧ Below w.heap.size w w' := by
  obtain ⟨i, hi, hie⟩ := List.mem_iff_getElem.1 he.1
  rw [← pos_get hi] at hie
  subst hie
  have H := Lib.hid h
  have HT := Lib.hid ht
  have HF := Lib.hid he
  have HI := Lib.hid hi
  have hle := h.le
  obtain ⟨g, cap, rfl⟩ := own_shape h.row (by omega)
  obtain ⟨n, hn⟩ : ∃ n, n = M.length := ⟨_, rfl⟩
  have HN := Lib.hid hn
  rw [← hn] at hle hi
  have hi2 : (i : Int) < n := by omega
  have hi3 : ¬ (i : Int) < 0 := by omega
  clear h ht he hn
  go_enter Try.func41, Try.ntmps41
  go_upto_region 1 with (fail)
  refine gen_world (S := fun u => Below w.heap.size w u ∧ u.heap[w.heap.size]? = some (.cells #[.int .i64 0, .int .i64 0] 79 (0, 0))) (one_new w _) (fun u0 hu => ?_)
  obtain ⟨hb, hx⟩ := hu
  have HU := Lib.hid (rfirst i u0 (H.out.later hb) HT.out HI.out HF.out)
  have HB := Lib.hid hb
  have HX := Lib.hid hx
  clear hb hx
  go_wp2_with fail
  refine HU.out.mono ?_
  rintro e w1 ⟨rfl, m, rfl⟩
  have hb := below_draws HB.out m
  have hx : (u0.drewN m).heap[w.heap.size]? = some (.cells #[.int .i64 0, .int .i64 0] 79 (0, 0)) := HX.out
  generalize u0.drewN m = u at hb hx ⊢
  have hr := H.out.later hb
  have c0 := (block_cell' hr.blk 0).1
  simp only [List.getElem?_toArray, List.getElem?_cons_zero] at c0
  rw [← HN.out] at c0
  obtain ⟨⟨d0, d1⟩, -⟩ := row2 hr.row i HI.out
  have f0 : u.frozen? ⟨w.heap.size, 0, none⟩ = false := (block_cell' hx 0).2
  have f1 : u.frozen? ⟨w.heap.size, 1, none⟩ = false := (block_cell' hx 1).2
  obtain ⟨x0, x1⟩ := two_box hx
  have HB2 := Lib.hid hb
  have HX2 := Lib.hid hx
  clear hb hx hr
  go_wp2
  have hset : Keeps (fun k => k = w.heap.size) u ((u.setCell ⟨w.heap.size, 0, none⟩ (.int .i64 (pos M i).key)).setCell ⟨w.heap.size, 1, none⟩ (.int .i64 (pos M i).name)) := ((Keeps.refl (fun k => k = w.heap.size) u).setCell (p := ⟨w.heap.size, 0, none⟩) rfl _).setCell (p := ⟨w.heap.size, 1, none⟩) rfl _
  have hb2 : ((u.setCell ⟨w.heap.size, 0, none⟩ (.int .i64 (pos M i).key)).setCell ⟨w.heap.size, 1, none⟩ (.int .i64 (pos M i).name)).heap[w.heap.size]? = some (.cells #[.int .i64 (pos M i).key, .int .i64 (pos M i).name] 79 (0, 0)) := block_setCell' (block_setCell' HX2.out)
  obtain ⟨q0, q1⟩ := two_box hb2
  exact bodyPost_ret (v := .tuple #[.agg #[.int .i64 (pos M i).key, .int .i64 (pos M i).name], .bool true]) (by simp [results, Try.f41, go_sem, q0, q1]) rfl ⟨rfl, Below.keeps HB2.out hset (Nat.le_refl _)⟩
theorem flat_move (k : Int) : ∀ (L : List En) (i : Nat), i < L.length → (L.flatMap it2).set (i * 2) (.int .i64 k) = (L.set i ⟨k, (pos L i).name, (pos L i).turn⟩).flatMap it2
  | [], i, h => by simp at h
  | a :: r, 0, _ => by simp [it2, pos]
  | a :: r, i + 1, h => by
    have ih := flat_move k r i (by simpa using h)
    have e1 : (i + 1) * 2 = i * 2 + 2 := by omega
    have e2 : pos (a :: r) (i + 1) = pos r i := rfl
    simp only [List.flatMap_cons, List.set_cons_succ, e1, e2]
    rw [← ih]
    simp [it2]
set_option maxRecDepth 100000 in
set_option maxHeartbeats 1000000 in
theorem rMove {base r : Nat} {v : Value} {M : List En} (x k : Int) (w : World) (h : Rq base w r v M) (ho : Once M) :
    Calls Try.prog 38 #[.pointer (some ⟨r, 0, none⟩), .int .i64 x, .int .i64 k] w fun en w' => en = .returned (.int .i64 (if hasN M x = true then 0 else 5)) ∧ Rq base w' r v (moveN M x k) ∧ Keeps (fun b => v.ownBlock = some b) w w' := by
  cases hb : hasN M x with
  | false =>
    have HA := Lib.hid (rAt_no x w h hb)
    have H := Lib.hid h
    rw [moveN_none hb]
    clear h ho hb
    go_enter Try.func38, Try.ntmps38
    go_wp2_with fail
    refine HA.out.mono ?_
    rintro e w1 ⟨rfl, rfl⟩
    go_wp2
    go_ret
    exact ⟨rfl, H.out, Keeps.refl _ _⟩
  | true =>
    obtain ⟨e, he, hn⟩ := hasN_iff.1 hb
    obtain ⟨i, hi, hie⟩ := List.mem_iff_getElem.1 he
    have hp : (pos M i).name = x := by rw [pos_get hi, hie]; exact hn
    have HA := Lib.hid (rAt_yes x i w h ho hi hp)
    have hmv := move_set ho hi k
    rw [hp] at hmv
    rw [← hmv]
    have hfl := flat_move k M i hi
    rw [hp] at hfl
    have c0 := (block_cell' h.blk 0).1
    simp only [List.getElem?_toArray, List.getElem?_cons_zero] at c0
    obtain ⟨g, cap, rfl⟩ := own_shape h.row (by omega)
    obtain ⟨⟨d0, -⟩, f0, -⟩ := row2 h.row i hi
    have hset : Keeps (fun b => (Value.slice (some ⟨g, 0, none⟩) M.length cap).ownBlock = some b) w (w.setCell ⟨g, i * 2, none⟩ (.int .i64 k)) := (Keeps.refl (fun b => (Value.slice (some ⟨g, 0, none⟩) M.length cap).ownBlock = some b) w).setCell (p := ⟨g, i * 2, none⟩) rfl _
    have hE : Rq base (w.setCell ⟨g, i * 2, none⟩ (.int .i64 k)) r (.slice (some ⟨g, 0, none⟩) M.length cap) (M.set i ⟨k, x, (pos M i).turn⟩) := by
      obtain ⟨g', cap', cur, hv, hbg, hg, h1, h2, h3, ht⟩ := h.row.2.resolve_left (fun h => by simp at h)
      simp only [Value.slice.injEq, Option.some.injEq, Addr.mk.injEq] at hv
      obtain ⟨⟨rfl, -⟩, -, rfl⟩ := hv
      refine ⟨hset.obj h.blk (fun e => ?_), ⟨by rw [flat_len it2_len], .inr ⟨g, cap, _, by simp, hbg, block_setCell' hg, by simpa using h1, h2, by simpa using h3, ?_⟩⟩, by simpa using h.le⟩
      · simp only [Value.ownBlock, Option.some.injEq] at e
        rw [e, h.blk] at hg
        simp at hg
      · rw [Array.toList_setIfInBounds, List.take_set, List.length_set, ht]
        exact hfl
    have HE := Lib.hid hE
    have HS := Lib.hid hset
    have hle := h.le
    obtain ⟨n, hnn⟩ : ∃ n, n = M.length := ⟨_, rfl⟩
    rw [← hnn] at c0 hi hle HE HS
    have hi2 : (i : Int) < n := by omega
    have hi3 : ¬ (i : Int) < 0 := by omega
    clear h ho hb he hn hie hp hmv hfl hE hset
    rw [← hnn]
    clear hnn
    go_enter Try.func38, Try.ntmps38
    go_wp2_with fail
    refine HA.out.mono ?_
    rintro e w1 ⟨rfl, rfl⟩
    go_wp2
    go_ret
    exact ⟨rfl, HE.out, HS.out⟩
end Go.Proofs.Ytcpcgpanmoellaa
namespace Go.Proofs.Ytcpcgpanmoellaa
open Go.RowKit Go.Lib

theorem Try.infoRItem : (Try.prog.info? 79).map (fun i => (i.zero, i.size, i.bytes)) = some (some (.agg #[.int .i64 0, .int .i64 0]), 2, 16) := by kernel_rfl
/-- what a put may write. -/
abbrev KeepR (r : Nat) (v : Value) (w w' : World) : Prop := Keeps (fun k => k = r ∨ v.ownBlock = some k) w w'
theorem rput_end {base r n' : Nat} {v v' : Value} {M : List En} {xs' : List Value} {u w1 w2 : World} (hq : Rq base u r v M) (hb : Below u.heap.size u w1) (hown : w2.ownsRow base 79 2 v' n' xs') (hg : w1.grownBy w2 v.ownBlock) :
    (w2.setCell ⟨r, 0, none⟩ v').heap[r]? = some (.cells #[v'] 49 (0, 0)) ∧ (w2.setCell ⟨r, 0, none⟩ v').ownsRow base 79 2 v' n' xs' ∧ KeepR r v u (w2.setCell ⟨r, 0, none⟩ v') := by
  have hK2 : Keeps (fun k => v.ownBlock = some k) u w2 := (Keeps.ofNew hb _).grown hg (fun k hk => hk)
  have hne := own_ne' hq.blk (by decide) hq.row
  have h3 := hK2.obj hq.blk hne
  have hset : Keeps (fun k => k = r) w2 (w2.setCell ⟨r, 0, none⟩ v') := (Keeps.refl (fun k => k = r) w2).setCell (p := ⟨r, 0, none⟩) rfl _
  refine ⟨block_setCell' h3, hset.row hown (fun k hk e => own_ne' h3 (by decide) hown (by rw [hk, e])), (Keeps.mono hK2 fun k _ hk => .inr hk).trans (Keeps.mono hset fun k _ e => .inl e)⟩
set_option maxRecDepth 100000 in
set_option maxHeartbeats 4000000 in
theorem rPut {base r b off cap2 : Nat} {ao : Option Addr} {t : Int} {v : Value} {M : List En} {l : List (Int × Int)} (w : World) (h : Rq base w r v M) (ht : Trn t M) (hbase : base ≤ w.heap.size) (hl : M.length + l.length ≤ 100000)
    (hao : 0 < l.length → ao = some ⟨b, off, none⟩) (hbr : b ≠ r) (hbv : ¬ v.ownBlock = some b) (hc : ∀ i (h : i < l.length), w.cell? ⟨b, off + i * 2, none⟩ = some (.int .i64 l[i].1) ∧ w.cell? ⟨b, off + i * 2 + 1, none⟩ = some (.int .i64 l[i].2)) :
    Calls Try.prog 17 #[.pointer (some ⟨r, 0, none⟩), .slice ao l.length cap2] w fun en w' => en = .returned (.int .i64 (putE (putQ t M l).1)) ∧ ∃ v', Rq base w' r v' (putQ t M l).2.2 ∧ KeepR r v w w' ∧ (∀ k, v'.ownBlock = some k → v.ownBlock = some k ∨ w.heap.size ≤ k) := by
  have H := Lib.hid h
  have HT := Lib.hid ht
  have HAo := Lib.hid hao
  have HC := Lib.hid hc
  have HBv := Lib.hid hbv
  have HBr := Lib.hid hbr
  have HL := Lib.hid hl
  obtain ⟨n, hn⟩ : ∃ n, n = l.length := ⟨_, rfl⟩
  have hn1 : n ≤ 100000 := by omega
  rw [← hn]
  have HN := Lib.hid hn
  have hbw : 0 < n → b < w.heap.size := fun h0 => World.block_lt_of_cell? (a := ⟨b, _, none⟩) _ (hc 0 (by omega)).1
  have HBw := Lib.hid hbw
  clear h ht hl hao hbr hbv hc hn hbw
  obtain ⟨i0, hi0, hz0, hz1, hz2⟩ := info_parts Try.infoRItem
  go_enter Try.func17, Try.ntmps17
  go_wp2
  go_loopw [5] (fun i wr => ∃ k : Nat, k ≤ n ∧ i = .int .i64 k ∧ (putQ t M (l.take k)).1 = true ∧ ∃ vk, Rq base wr r vk (putQ t M (l.take k)).2.2 ∧ KeepR r v w wr ∧ (∀ k, vk.ownBlock = some k → v.ownBlock = some k ∨ w.heap.size ≤ k)) (fun i _ => n - (intOf i).toNat)
  case atStart => exact ⟨0, Nat.zero_le _, rfl, rfl, v, H.out, Keeps.refl _ _, fun _ h => .inl h⟩
  case round =>
    obtain ⟨k, hk, rfl, hok, vk, hq, hkp, hvk⟩ := hrel
    have HQ := Lib.hid hq
    have HK := Lib.hid hkp
    have HV := Lib.hid hvk
    have HOk := Lib.hid hok
    by_cases hlt : k < n
    · have hlt' : k < l.length := by rw [← HN.out]; exact hlt
      have hlt2 : (k : Int) < n := by omega
      obtain rfl := HAo.out (by omega)
      obtain ⟨v0, v1⟩ := HC.out k hlt'
      have hnb : ¬ (b = r ∨ v.ownBlock = some b) := fun h => h.elim HBr.out HBv.out
      have v0' := hkp.cell (p := ⟨b, _, none⟩) v0 hnb
      have v1' := hkp.cell (p := ⟨b, _, none⟩) v1 hnb
      obtain ⟨p, hp⟩ : ∃ p, p = l[k]'hlt' := ⟨_, rfl⟩
      have HP := Lib.hid hp
      rw [← hp] at v0' v1'
      have HV0 := Lib.hid v0'
      have HV1 := Lib.hid v1'
      have HLt := Lib.hid hlt'
      have htr := putQ_trn (l.take k) t M HT.out
      have HTr := Lib.hid htr
      have hln := putQ_len (l.take k) t M
      have htk : (l.take k).length = k := by rw [List.length_take]; omega
      rw [htk] at hln
      have hLn : (putQ t M (l.take k)).2.2.length < 100000 := by have := HL.out; omega
      have HLn := Lib.hid hLn
      clear hok hq hkp hvk v0 v1 hp hnb htr hln htk hLn
      cases hhas : hasN (putQ t M (l.take k)).2.2 p.2 with
      | true =>
        obtain ⟨e, he, hn⟩ := hasN_iff.1 hhas
        obtain ⟨i, hi, hie⟩ := List.mem_iff_getElem.1 he
        have HA := Lib.hid (rAt_yes p.2 i wr HQ.out HTr.out.once hi (by rw [pos_get hi, hie]; exact hn))
        have hst := put_stop HLt.out HOk.out (by rw [← HP.out]; exact hhas)
        have HSt := Lib.hid hst
        have hi2 : (i : Int) ≥ 0 := by omega
        clear hhas he hn hi hie hst v0'
        go_wp2_with fail
        refine HA.out.mono ?_
        rintro e w1 ⟨rfl, rfl⟩
        go_wp2
        go_ret
        rw [HSt.out]
        exact ⟨rfl, vk, HQ.out, HK.out, HV.out⟩
      | false =>
        have HA := Lib.hid (rAt_no p.2 wr HQ.out hhas)
        have hmo := put_more HLt.out HOk.out (by rw [← HP.out]; exact hhas)
        have HMo := Lib.hid hmo
        have c0 := (block_cell' HQ.out.blk 0).1
        have f0 := (block_cell' HQ.out.blk 0).2
        simp only [List.getElem?_toArray, List.getElem?_cons_zero] at c0
        have hrl := lt_of_block HQ.out.blk
        have hne := own_ne' HQ.out.blk (by decide) HQ.out.row
        have Hne := Lib.hid hne
        obtain ⟨vo, vc, rfl⟩ := own_val HQ.out.row
        have hsz := HK.out.size
        obtain ⟨nn, hnn⟩ : ∃ nn, nn = (putQ t M (l.take k)).2.2.length := ⟨_, rfl⟩
        have HNn := Lib.hid hnn
        have hrow := HQ.out.row
        rw [← hnn] at c0 hrow HLn Hne
        have HRow := Lib.hid hrow
        have hnl := HLn.out
        clear hhas hmo hne hnn hrow
        go_wp2_with fail
        refine HA.out.mono ?_
        rintro e w1 ⟨rfl, rfl⟩
        go_upto_region 6 with (fail)
        go_region_law (refine step_append_lies _ (by rfl) _ _ _ (by rfl) base 79 i0 _ 2 16 Try.underlying47 hi0 hz0 hz1 hz2 rfl (by omega) (.slice vo nn vc) nn ((putQ t M (l.take k)).2.2.flatMap it2) (by rfl) (((Keeps.drew (Keeps.refl (fun _ => False) wr)).row HRow.out (fun _ _ h => h)).alloc _) ⟨wr.heap.size, 0, none⟩ 1 1 [.int .i64 p.1, .int .i64 p.2] (by rfl) (by rfl) (World.news_of_block (cs := #[.int .i64 p.1, .int .i64 p.2]) (t := 79) (fr := (0, 0)) (heap_alloc_new wr.drew _)) (by simp [Value.oneCell']) (by omega) (by unfold maxLen; omega) (by omega) (by simp; omega) (wr.heap.size + 1) (by simp) ?_; intro g cap w2 hown2 hgrow hat hlt3; have e0 := (hgrow.cell_far ⟨r, 0, none⟩ (by simp; omega) (Ne.symm Hne.out)).trans ((World.cell?_alloc_old wr.drew _ ⟨r, 0, none⟩ (by simp <;> omega)).trans c0); have e1 := (hgrow.frozen_far ⟨r, 0, none⟩ (by simp; omega) (Ne.symm Hne.out)).trans ((Below.frozen (p := ⟨r, 0, none⟩) ((Below.refl wr.heap.size wr).drew.alloc (Nat.le_refl _) _) hrl).trans f0))
        all_goals
          have hrq := HQ.out
          rw [← HNn.out] at hrq
          obtain ⟨p1, p2, p3⟩ := rput_end hrq ((Below.refl wr.heap.size wr).drew.alloc (Nat.le_refl _) _) hown2 hgrow
          have hE : Rq base (w2.setCell ⟨r, 0, none⟩ (.slice (some ⟨g, 0, none⟩) (nn + 1) cap)) r (.slice (some ⟨g, 0, none⟩) (nn + 1) cap) (putQ t M (l.take (k + 1))).2.2 := by
            rw [HMo.out]
            have hl1 : ((putQ t M (l.take k)).2.2 ++ [(⟨(l[k]'HLt.out).1, (l[k]'HLt.out).2, (putQ t M (l.take k)).2.1⟩ : En)]).length = nn + 1 := by rw [List.length_append, ← HNn.out]; rfl
            refine ⟨p1, ?_, by simp only; rw [hl1]; omega⟩
            simp only
            rw [hl1, List.flatMap_append]
            rw [← HP.out]
            exact p2
          have hvn : ∀ j, (Value.slice (some ⟨g, 0, none⟩) (nn + 1) cap).ownBlock = some j → v.ownBlock = some j ∨ w.heap.size ≤ j := fun j hj => by
            simp only [Value.ownBlock, Option.some.injEq] at hj
            subst hj
            rcases hat with h1 | h1
            · exact HV.out _ (by rw [← HNn.out]; exact h1)
            · right; omega
          have hkr : KeepR r v w (w2.setCell ⟨r, 0, none⟩ (.slice (some ⟨g, 0, none⟩) (nn + 1) cap)) := by
            refine ⟨p3.os.trans HK.out.os, p3.tape.trans HK.out.tape, p3.output.trans HK.out.output, Nat.le_trans HK.out.size p3.size, fun j hj hn => ?_⟩
            refine (p3.block j (Nat.lt_of_lt_of_le hj HK.out.size) (fun hS => ?_)).trans (HK.out.block j hj hn)
            rcases hS with hS | hS
            · exact hn (.inl hS)
            · rcases HV.out j (by rw [← HNn.out]; exact hS) with h1 | h1
              · exact hn (.inr h1)
              · omega
          have HE := Lib.hid hE
          have HVn := Lib.hid hvn
          have HKr := Lib.hid hkr
          clear hrq p1 p2 p3 hE hvn hkr hown2 hgrow hat hlt3
          go_wp2
          go_roundw
          case rel => exact ⟨k + 1, by omega, by go_num, by rw [HMo.out], _, HE.out, HKr.out, HVn.out⟩
          case measure => simp [intOf]; omega
    · have hkn : k = n := by omega
      have hk3 : ¬ (k : Int) < n := by omega
      have e : l.take k = l := by rw [hkn, HN.out, List.take_length]
      rw [e] at HOk HQ
      have HOk2 := HOk
      clear hok hq hkp hvk e hkn hlt
      go_wp2
      go_ret
      rw [HOk2.out]
      exact ⟨rfl, vk, HQ.out, HK.out, HV.out⟩
end Go.Proofs.Ytcpcgpanmoellaa
namespace Go.Proofs.Ytcpcgpanmoellaa
open Go.RowKit Go.Lib

/-- append onto a row of the call's own, as one step of a region that draws. -/
theorem step_append_own {P : Program} (w : World) {ops : Array Oper} {o : Oper} {a : Act} {K : Act → World → Prop} {Q : Exit → Act → World → Prop} {E : Prop} (hgd : o.guard = none) (s x : Operand) (t : TypeId)
    (ho : o.op = .call { callee := .builtin .append, args := #[s, x], argTypes := #[t, t] })
    (base : Nat) (e : TypeId) (i : TypeInfo) (z : Value) (size bytes : Nat) (ht : P.underlying t = some (.slice e)) (hi : P.info? e = some i) (hz : i.zero = some z)
    (hsize : i.size = size) (hby : i.bytes = bytes) (hzs : z.cells.size = size) (hsz : 0 < size)
    (v : Value) (n : Nat) (xs : List Value) (hs : a.eval s = v) (hown : w.ownsRow base e size v n xs)
    (ad : Addr) (m c : Nat) (news : List Value) (hx : a.eval x = .slice (some ad) m c) (hl : news.length = m * size) (hnews : ∀ j u, news[j]? = some u → w.cell? (ad.add j) = some u) (h1 : ∀ u ∈ news, u.oneCell' = true)
    (h63 : n + m ≤ maxLen) (hbytes : (n + m) * bytes ≤ 140737488355328) (hbase : base ≤ w.heap.size)
    (h : ∀ v' w', w'.ownsRow base e size v' (n + m) (xs ++ news) → w.grownBy w' v.ownBlock → K (a.put o.dst v') w') :
    if Region.wanted o (yielded ops a.tmps) = true then Oper.wp P o a w K Q else E := by
  have hw : Region.wanted o (yielded ops a.tmps) = true := by simp [Region.wanted, hgd]
  rw [if_pos hw]
  obtain ⟨v', w', hr, h2, h3, -⟩ := run_append_own (P := P) w base t o.type e i z size bytes ht hi hz hsize hby hzs hsz v n xs hown ad m c news hl hnews h1 h63 hbytes hbase
  unfold Oper.wp execOp
  simp only [ho, resolve, invoke, builtin, Sem.run_bind, Sem.run_pure, Result.andThen_ok, List.map_toArray, List.map_cons, List.map_nil, hs, hx, hr]
  exact h v' w' h2 h3
theorem dropN_at {M : List En} (ho : Once M) {i : Nat} (hi : i < M.length) : dropN M (pos M i).name = M.take i ++ M.drop (i + 1) := by
  have hsplit : M = M.take i ++ pos M i :: M.drop (i + 1) := by
    rw [pos_get hi, ← List.drop_eq_getElem_cons hi, List.take_append_drop]
  have hne : ∀ j, j < M.length → j ≠ i → (pos M j).name ≠ (pos M i).name := fun j hj hji h => hji (once_pos ho hj hi h)
  have h1 : (M.take i).filter (fun e => e.name != (pos M i).name) = M.take i := by
    rw [List.filter_eq_self]
    intro a ha
    obtain ⟨j, hj, rfl⟩ := List.mem_iff_getElem.1 ha
    have hj' : j < i := by simp at hj; omega
    have := hne j (by omega) (by omega)
    rw [pos_get (show j < M.length by omega)] at this
    simpa [List.getElem_take] using this
  have h2 : (M.drop (i + 1)).filter (fun e => e.name != (pos M i).name) = M.drop (i + 1) := by
    rw [List.filter_eq_self]
    intro a ha
    obtain ⟨j, hj, rfl⟩ := List.mem_iff_getElem.1 ha
    have hj' : i + 1 + j < M.length := by simp at hj; omega
    have := hne (i + 1 + j) hj' (by omega)
    rw [pos_get hj'] at this
    simpa [List.getElem_drop] using this
  have e : dropN M (pos M i).name = (M.take i ++ pos M i :: M.drop (i + 1)).filter (fun e => e.name != (pos M i).name) := by
    unfold dropN
    rw [← hsplit]
  rw [e, List.filter_append, h1, List.filter_cons, if_neg (by simp), h2]
/-- a part of a row, as an append's news. -/
theorem part_news {w : World} {base g n cap : Nat} {t : TypeId} {M : List En} (h : w.ownsRow base t 2 (.slice (some ⟨g, 0, none⟩) n cap) n (M.flatMap it2)) (s : Nat) (L : List En) (hL : ∀ j, j < L.length → s + j < M.length ∧ pos L j = pos M (s + j)) :
    ∀ j u, (L.flatMap it2)[j]? = some u → w.cell? ((⟨g, s * 2, none⟩ : Addr).add j) = some u := by
  intro j u hj
  have hjl := (List.getElem?_eq_some_iff.1 hj).1
  rw [flat_len it2_len] at hjl
  have hd : j / 2 < L.length := by omega
  have hm : j % 2 < 2 := Nat.mod_lt _ (by omega)
  have h3 := flat_get it2_len L (j / 2) (j % 2) hd hm
  have e : j / 2 * 2 + j % 2 = j := by omega
  rw [e, hj, ← pos_get hd, (hL _ hd).2] at h3
  obtain ⟨⟨d0, d1⟩, -⟩ := row2 h (s + j / 2) (hL _ hd).1
  rw [add_none]
  rcases (show j % 2 = 0 ∨ j % 2 = 1 by omega) with hz | hz
  · rw [hz] at h3
    have : s * 2 + j = (s + j / 2) * 2 := by omega
    rw [this, d0, h3]
    rfl
  · rw [hz] at h3
    have : s * 2 + j = (s + j / 2) * 2 + 1 := by omega
    rw [this, d1, h3]
    rfl
theorem empty_row {W : World} {base X : Nat} {t : TypeId} {C : Nat} (h : W.heap[X]? = some (.cells #[] t (0, 0))) (hb : base ≤ X) : W.ownsRow base t C (.slice (some ⟨X, 0, none⟩) 0 0) 0 [] :=
  ⟨by simp, .inr ⟨X, 0, #[], rfl, hb, h, Nat.le_refl _, by unfold maxLen; omega, by simp, by simp⟩⟩
theorem part_take {M : List En} {i : Nat} (hi : i < M.length) : ∀ j, j < (M.take i).length → 0 + j < M.length ∧ pos (M.take i) j = pos M (0 + j) := fun j hj => by
  have hj' : j < i := by simp at hj; omega
  exact ⟨by omega, by rw [Nat.zero_add, pos_take hj' (by omega)]⟩
theorem part_drop {M : List En} {i : Nat} : ∀ j, j < (M.drop i).length → i + j < M.length ∧ pos (M.drop i) j = pos M (i + j) := fun j hj => by
  have hj' : i + j < M.length := by simp at hj; omega
  exact ⟨hj', by rw [pos_get hj, pos_get hj', List.getElem_drop]⟩
theorem flat_it2_one (L : List En) : ∀ u ∈ L.flatMap it2, u.oneCell' = true := flat_one it2_one L
set_option maxRecDepth 100000 in
set_option maxHeartbeats 4000000 in
theorem rDrop_yes {base r i : Nat} {v : Value} {M : List En} (w : World) (h : Rq base w r v M) (ho : Once M) (hi : i < M.length) (hbase : base ≤ w.heap.size) :
    Calls Try.prog 37 #[.pointer (some ⟨r, 0, none⟩), .int .i64 (pos M i).name] w fun en w' => en = .returned (.bool true) ∧ ∃ v', Rq base w' r v' (dropN M (pos M i).name) ∧ Keeps (fun k => k = r) w w' ∧ ∀ k, v'.ownBlock = some k → w.heap.size ≤ k := by
  have HA := Lib.hid (rAt_yes (pos M i).name i w h ho hi rfl)
  have hdr := dropN_at ho hi
  have H := Lib.hid h
  have c0 := (block_cell' h.blk 0).1
  have f0 := (block_cell' h.blk 0).2
  simp only [List.getElem?_toArray, List.getElem?_cons_zero] at c0
  have hrl := lt_of_block h.blk
  obtain ⟨g, cap, rfl⟩ := own_shape h.row (by omega)
  have hle := h.le
  have hrow := h.row
  have hcap : M.length ≤ cap ∧ cap ≤ maxLen := by
    obtain ⟨g', cap', cur, hv, -, -, h1, h2, -⟩ := hrow.2.resolve_left (fun h => by simp at h)
    simp only [Value.slice.injEq] at hv
    omega
  obtain ⟨nm, hnm⟩ : ∃ nm, nm = (pos M i).name := ⟨_, rfl⟩
  rw [← hnm] at HA hdr ⊢
  obtain ⟨n, hn⟩ : ∃ n, n = M.length := ⟨_, rfl⟩
  have HN := Lib.hid hn
  have HDr := Lib.hid hdr
  rw [← hn] at c0 hi hle hcap hrow
  have HRow := Lib.hid hrow
  obtain ⟨hcap1, hcap2⟩ := hcap
  unfold maxLen at hcap2
  have hic : i ≤ cap := by omega
  have hin : i + 1 ≤ n := by omega
  have hi3 : ¬ (i : Int) < 0 := by omega
  clear h ho hdr hnm hn hrow
  obtain ⟨i0, hi0, hz0, hz1, hz2⟩ := info_parts Try.infoRItem
  by_cases hjc : cap = i + 1
  · subst hjc
    have hz0' : (i : Int) ≤ (i : Int) + 1 := by omega
    have hz1' : (0 : Int) ≤ (i : Int) := by omega
    have hs1 : 0 ≤ (i : Int) + 1 := by omega
    have hs2 : (i : Int) + 1 ≤ n := by omega
    have hs3 : ((i : Int) + 1).toNat = i + 1 := by omega
    have hw1 : IntKind.i64.wrap ((i : Int) + 1) = (i : Int) + 1 := IntWalk.i64_in _ (by omega)
    go_enter Try.func37, Try.ntmps37
    go_wp2_with fail
    refine HA.out.mono ?_
    rintro e w1 ⟨rfl, rfl⟩
    go_upto_region 4 with (fail)
    have hnews1 : ∀ W, Below w.heap.size w W → ∀ j u, ((M.take i).flatMap it2)[j]? = some u → W.cell? ((⟨g, 0, none⟩ : Addr).add j) = some u := fun W hb => part_news (row_kept (S := fun _ => False) HRow.out (Keeps.ofNew hb _) (fun _ _ _ h => h)) 0 (M.take i) (part_take (by rw [← HN.out]; exact hi))
    have hnews2 : ∀ W, Below w.heap.size w W → ∀ j u, ((M.drop (i + 1)).flatMap it2)[j]? = some u → W.cell? ((⟨g, 0, none⟩ : Addr).add j) = some u := fun W hb j u hj => by rw [List.drop_of_length_le (by rw [← HN.out]; omega)] at hj; simp at hj
    have HNw1 := Lib.hid hnews1
    have HNw2 := Lib.hid hnews2
    have hl1 : ((M.take i).flatMap it2).length = i * 2 := by rw [flat_len it2_len, List.length_take, ← HN.out, Nat.min_eq_left (by omega)]
    have hl2 : ((M.drop (i + 1)).flatMap it2).length = (n - (i + 1)) * 2 := by rw [flat_len it2_len, List.length_drop, ← HN.out]
    have HL1 := Lib.hid hl1
    have HL2 := Lib.hid hl2
    clear hnews1 hnews2 hl1 hl2
    go_region_law (first
      | (refine step_append_own _ (by rfl) (.tmp 12) (.tmp 18) _ (by rfl) w.heap.size 79 i0 _ 2 16 Try.underlying47 hi0 hz0 hz1 hz2 rfl (by omega) (.slice (some ⟨w.heap.size, 0, none⟩) 0 0) 0 [] (by rfl) (empty_row (heap_alloc_new w _) (Nat.le_refl _)) ⟨g, 0, none⟩ i (i + 1) ((M.take i).flatMap it2) (by rfl) HL1.out (HNw1.out _ ((Below.refl _ w).alloc (Nat.le_refl _) _).drew) (flat_it2_one _) (by unfold maxLen; omega) (by omega) (by simp) ?_; intro v1 w1 hown1 hgrow1; simp only [Nat.zero_add, List.nil_append] at hown1; obtain ⟨ao1, cap1, rfl⟩ := own_val hown1; have hb1 : Below w.heap.size w w1 := (((Below.refl _ w).alloc (Nat.le_refl _) _).drew).grown hgrow1 (by simp) (fun k hk => by simp [Value.ownBlock] at hk; omega); have e0 : w1.cell? ⟨r, 0, none⟩ = some (.slice (some ⟨g, 0, none⟩) n (i + 1)) := (hb1.cell (p := ⟨r, 0, none⟩) hrl).trans c0; have e1 : w1.frozen? ⟨r, 0, none⟩ = false := (hb1.frozen (p := ⟨r, 0, none⟩) hrl).trans f0; have HB1 := Lib.hid hb1; clear hb1)
      | (refine step_append_own _ (by rfl) (.tmp 19) (.tmp 26) _ (by rfl) w.heap.size 79 i0 _ 2 16 Try.underlying47 hi0 hz0 hz1 hz2 rfl (by omega) (.slice ao1 i cap1) i ((M.take i).flatMap it2) (by rfl) hown1 ⟨g, 0, none⟩ 0 0 [] (by rfl) rfl (fun j u hj => by simp at hj) (fun u hu => by simp at hu) (by unfold maxLen; omega) (by omega) HB1.out.size ?_; intro v2 w2 hown2 hgrow2; simp only [Nat.add_zero, List.append_nil] at hown2; obtain ⟨ao2, cap2, rfl⟩ := own_val hown2; have hb2 : Below w.heap.size w w2 := HB1.out.grown hgrow2 HB1.out.size (fun k hk => (hown1.lt k hk).1); have e2 : w2.cell? ⟨r, 0, none⟩ = some (.slice (some ⟨g, 0, none⟩) n (i + 1)) := (hb2.cell (p := ⟨r, 0, none⟩) hrl).trans c0; have e3 : w2.frozen? ⟨r, 0, none⟩ = false := (hb2.frozen (p := ⟨r, 0, none⟩) hrl).trans f0; have HB2 := Lib.hid hb2; clear hb2))
    all_goals
      have hset : Keeps (fun k => k = r) w2 (w2.setCell ⟨r, 0, none⟩ (.slice ao2 i cap2)) := (Keeps.refl (fun k => k = r) w2).setCell (p := ⟨r, 0, none⟩) rfl _
      have hblk : w2.heap[r]? = some (.cells #[.slice (some ⟨g, 0, none⟩) n (i + 1)] 49 (0, 0)) := by rw [HN.out]; exact (HB2.out.block r hrl).trans H.out.blk
      have hE : ∃ v', Rq base (w2.setCell ⟨r, 0, none⟩ (.slice ao2 i cap2)) r v' (dropN M nm) ∧ Keeps (fun k => k = r) w (w2.setCell ⟨r, 0, none⟩ (.slice ao2 i cap2)) ∧ ∀ k, v'.ownBlock = some k → w.heap.size ≤ k := by
        refine ⟨_, ⟨block_setCell' hblk, ?_, ?_⟩, (Keeps.ofNew HB2.out _).trans hset, fun k hk => (hown2.lt k hk).1⟩
        · rw [HDr.out]
          have hlen : (M.take i ++ M.drop (i + 1)).length = i := by rw [List.length_append, List.length_take, List.length_drop, ← HN.out, Nat.min_eq_left (by omega)]; omega
          rw [hlen, List.flatMap_append]
          have hnil : M.drop (i + 1) = [] := List.drop_of_length_le (by rw [← HN.out]; omega)
          rw [hnil, List.flatMap_nil, List.append_nil]
          refine ownsRow_base (hset.row hown2 (fun k hk e => ?_)) hbase
          subst e
          exact own_ne' hblk (by decide) hown2 hk
        · rw [HDr.out, List.length_append, List.length_take, List.length_drop, ← HN.out]
          omega
      have HE := Lib.hid hE
      clear hset hblk hE hown1 hgrow1 hown2 hgrow2
      go_wp2
      go_ret
      exact ⟨rfl, HE.out⟩
  · have hs1 : 0 ≤ (i : Int) + 1 := by omega
    have hs2 : (i : Int) + 1 ≤ n := by omega
    have hs3 : ((i : Int) + 1).toNat = i + 1 := by omega
    have hw1 : IntKind.i64.wrap ((i : Int) + 1) = (i : Int) + 1 := IntWalk.i64_in _ (by omega)
    go_enter Try.func37, Try.ntmps37
    go_wp2_with fail
    refine HA.out.mono ?_
    rintro e w1 ⟨rfl, rfl⟩
    go_upto_region 4 with (fail)
    have hnews1 : ∀ W, Below w.heap.size w W → ∀ j u, ((M.take i).flatMap it2)[j]? = some u → W.cell? ((⟨g, 0, none⟩ : Addr).add j) = some u := fun W hb => part_news (row_kept (S := fun _ => False) HRow.out (Keeps.ofNew hb _) (fun _ _ _ h => h)) 0 (M.take i) (part_take (by rw [← HN.out]; exact hi))
    have hnews2 : ∀ W, Below w.heap.size w W → ∀ j u, ((M.drop (i + 1)).flatMap it2)[j]? = some u → W.cell? ((⟨g, (i + 1) * 2, none⟩ : Addr).add j) = some u := fun W hb => part_news (row_kept (S := fun _ => False) HRow.out (Keeps.ofNew hb _) (fun _ _ _ h => h)) (i + 1) (M.drop (i + 1)) part_drop
    have HNw1 := Lib.hid hnews1
    have HNw2 := Lib.hid hnews2
    have hl1 : ((M.take i).flatMap it2).length = i * 2 := by rw [flat_len it2_len, List.length_take, ← HN.out, Nat.min_eq_left (by omega)]
    have hl2 : ((M.drop (i + 1)).flatMap it2).length = (n - (i + 1)) * 2 := by rw [flat_len it2_len, List.length_drop, ← HN.out]
    have HL1 := Lib.hid hl1
    have HL2 := Lib.hid hl2
    clear hnews1 hnews2 hl1 hl2
    go_region_law (first
      | (refine step_append_own _ (by rfl) (.tmp 12) (.tmp 18) _ (by rfl) w.heap.size 79 i0 _ 2 16 Try.underlying47 hi0 hz0 hz1 hz2 rfl (by omega) (.slice (some ⟨w.heap.size, 0, none⟩) 0 0) 0 [] (by rfl) (empty_row (heap_alloc_new w _) (Nat.le_refl _)) ⟨g, 0, none⟩ i cap ((M.take i).flatMap it2) (by rfl) HL1.out (HNw1.out _ ((Below.refl _ w).alloc (Nat.le_refl _) _).drew) (flat_it2_one _) (by unfold maxLen; omega) (by omega) (by simp) ?_; intro v1 w1 hown1 hgrow1; simp only [Nat.zero_add, List.nil_append] at hown1; obtain ⟨ao1, cap1, rfl⟩ := own_val hown1; have hb1 : Below w.heap.size w w1 := (((Below.refl _ w).alloc (Nat.le_refl _) _).drew).grown hgrow1 (by simp) (fun k hk => by simp [Value.ownBlock] at hk; omega); have e0 : w1.cell? ⟨r, 0, none⟩ = some (.slice (some ⟨g, 0, none⟩) n cap) := (hb1.cell (p := ⟨r, 0, none⟩) hrl).trans c0; have e1 : w1.frozen? ⟨r, 0, none⟩ = false := (hb1.frozen (p := ⟨r, 0, none⟩) hrl).trans f0; have HB1 := Lib.hid hb1; clear hb1)
      | (refine step_append_own _ (by rfl) (.tmp 19) (.tmp 26) _ (by rfl) w.heap.size 79 i0 _ 2 16 Try.underlying47 hi0 hz0 hz1 hz2 rfl (by omega) (.slice ao1 i cap1) i ((M.take i).flatMap it2) (by rfl) hown1 ⟨g, (i + 1) * 2, none⟩ (n - (i + 1)) (cap - (i + 1)) ((M.drop (i + 1)).flatMap it2) (by rfl) HL2.out (HNw2.out _ HB1.out) (flat_it2_one _) (by unfold maxLen; omega) (by omega) HB1.out.size ?_; intro v2 w2 hown2 hgrow2; obtain ⟨ao2, cap2, rfl⟩ := own_val hown2; have hb2 : Below w.heap.size w w2 := HB1.out.grown hgrow2 HB1.out.size (fun k hk => (hown1.lt k hk).1); have e2 : w2.cell? ⟨r, 0, none⟩ = some (.slice (some ⟨g, 0, none⟩) n cap) := (hb2.cell (p := ⟨r, 0, none⟩) hrl).trans c0; have e3 : w2.frozen? ⟨r, 0, none⟩ = false := (hb2.frozen (p := ⟨r, 0, none⟩) hrl).trans f0; have HB2 := Lib.hid hb2; clear hb2))
    all_goals
      have hset : Keeps (fun k => k = r) w2 (w2.setCell ⟨r, 0, none⟩ (.slice ao2 (i + (n - (i + 1))) cap2)) := (Keeps.refl (fun k => k = r) w2).setCell (p := ⟨r, 0, none⟩) rfl _
      have hblk : w2.heap[r]? = some (.cells #[.slice (some ⟨g, 0, none⟩) n cap] 49 (0, 0)) := by rw [HN.out]; exact (HB2.out.block r hrl).trans H.out.blk
      have hE : ∃ v', Rq base (w2.setCell ⟨r, 0, none⟩ (.slice ao2 (i + (n - (i + 1))) cap2)) r v' (dropN M nm) ∧ Keeps (fun k => k = r) w (w2.setCell ⟨r, 0, none⟩ (.slice ao2 (i + (n - (i + 1))) cap2)) ∧ ∀ k, v'.ownBlock = some k → w.heap.size ≤ k := by
        refine ⟨_, ⟨block_setCell' hblk, ?_, ?_⟩, (Keeps.ofNew HB2.out _).trans hset, fun k hk => (hown2.lt k hk).1⟩
        · rw [HDr.out]
          have hlen : (M.take i ++ M.drop (i + 1)).length = i + (n - (i + 1)) := by rw [List.length_append, List.length_take, List.length_drop, ← HN.out, Nat.min_eq_left (by omega)]
          rw [hlen, List.flatMap_append]
          refine ownsRow_base (hset.row (by simpa using hown2) (fun k hk e => ?_)) hbase
          subst e
          exact own_ne' hblk (by decide) hown2 hk
        · rw [HDr.out, List.length_append, List.length_take, List.length_drop, ← HN.out]
          omega
      have HE := Lib.hid hE
      clear hset hblk hE hown1 hgrow1 hown2 hgrow2
      go_wp2
      go_ret
      exact ⟨rfl, HE.out⟩
end Go.Proofs.Ytcpcgpanmoellaa
