/-
  A queue in memory, by its list of things: a thing is moved.
-/
import Derived.Test.YtcpcgpanmoellaaHrD
namespace Go.Proofs.Ytcpcgpanmoellaa
open Go.RowKit Go.Lib

theorem flat_set1 (k : Int) : ∀ (L : List En) (i : Nat), i < L.length → (L.flatMap enc).set (i * 3) (.int .i64 k) = (L.set i ⟨k, (pos L i).name, (pos L i).turn⟩).flatMap enc
  | [], i, h => by simp at h
  | a :: r, 0, _ => by simp [enc, pos]
  | a :: r, i + 1, h => by
    have ih := flat_set1 k r i (by simpa using h)
    have e1 : (i + 1) * 3 = i * 3 + 3 := by omega
    have e2 : pos (a :: r) (i + 1) = pos r i := rfl
    simp only [List.flatMap_cons, List.set_cons_succ, e1, e2]
    rw [← ih]
    simp [enc]
theorem row_put1 {w : World} {base g n cap : Nat} {t : TypeId} {L : List En} (h : w.ownsRow base t 3 (.slice (some ⟨g, 0, none⟩) n cap) n (L.flatMap enc)) (i : Nat) (hi : i < L.length) (k : Int) :
    (w.setCell ⟨g, i * 3, none⟩ (.int .i64 k)).ownsRow base t 3 (.slice (some ⟨g, 0, none⟩) n cap) n ((L.set i ⟨k, (pos L i).name, (pos L i).turn⟩).flatMap enc) ∧ Keeps (fun k => k = g) w (w.setCell ⟨g, i * 3, none⟩ (.int .i64 k)) := by
  obtain ⟨g', cap', cur, hv, hb, hg, h1, h2, h3, ht⟩ := h.2.resolve_left (fun h => by simp at h)
  simp only [Value.slice.injEq, Option.some.injEq, Addr.mk.injEq] at hv
  obtain ⟨⟨rfl, -⟩, -, rfl⟩ := hv
  refine ⟨⟨by have := h.1; rw [flat_len enc_len] at this ⊢; simpa using this, .inr ⟨g, cap, _, rfl, hb, block_setCell' hg, h1, h2, by simpa using h3, ?_⟩⟩, (Keeps.refl (fun k => k = g) w).setCell (p := ⟨g, i * 3, none⟩) rfl _⟩
  rw [Array.toList_setIfInBounds, List.take_set, ht]
  exact flat_set1 k L i hi
set_option maxRecDepth 100000 in
set_option maxHeartbeats 2000000 in
theorem quMove [Watch] {base : Nat} {q : Nat} {t : Int} {M : List En} (x k : Int) (w : World) (h : Qu base w q t M) (hx : (kx x).wf = true) :
    Calls Try.prog 12 #[.pointer (some ⟨q, 0, none⟩), .int .i64 x, .int .i64 k] w fun en w' => en = .returned (.int .i64 (if hasN M x = true then 0 else 5)) ∧ Qu base w' q t (moveN M x k) ∧ KeepQ base q w w' := by
  have HTrn := Lib.hid h.trn
  have HQ := Lib.hid h
  obtain ⟨⟨r, m, lv, L, h1, h2⟩, h3⟩ := h
  have HH := Lib.hid (qHas_any x w h1 hx)
  have HM := Lib.hid (qMade_any w h1)
  rw [whr_has] at HH
  cases hb : hasN M x with
  | false =>
    rw [hasN_perm h2, hb] at HH
    have HMv := Lib.hid (moveN_none (k := k) hb)
    clear h1 h2 h3 hx hb
    go_enter Try.func12, Try.ntmps12
    go_wp2_with fail
    refine HH.out.mono ?_
    rintro en w1 ⟨c, rfl, -, rfl⟩
    go_wp2_with fail
    refine HM.out.mono ?_
    rintro en w1 ⟨rfl, rfl⟩
    go_wp2
    go_ret
    exact ⟨rfl, by rw [HMv.out]; exact HQ.out, Keeps.refl _ _⟩
  | true =>
    rw [hasN_perm h2, hb] at HH
    obtain ⟨i, hw⟩ := Option.isSome_iff_exists.1 ((whr_has L x).trans ((hasN_perm h2 x).trans hb))
    obtain ⟨hi, hn⟩ := whr_is hw
    rw [hw] at HH
    obtain ⟨g, cap, rfl⟩ := own_shape h1.row.row (by omega)
    obtain ⟨c0, -⟩ := two_box h1.blk
    obtain ⟨d0, -, -⟩ := h1.row.cells
    obtain ⟨⟨a0, -, -⟩, fa0, -⟩ := row3 h1.row.row i hi
    obtain ⟨hrow, hset⟩ := row_put1 h1.row.row i hi k
    have hle := h1.row.le
    have hrk : ∀ b cs tt, w.heap[b]? = some (.cells cs tt (0, 0)) → tt ≠ 67 → ¬ b = g := fun b cs tt hb ht e => by
      obtain ⟨g', cap', cur, hv, -, hg, -⟩ := h1.row.row.2.resolve_left (fun h => by simp at h)
      simp only [Value.slice.injEq, Option.some.injEq, Addr.mk.injEq] at hv
      obtain ⟨⟨rfl, -⟩, -⟩ := hv
      rw [e, hg] at hb
      simp at hb
      exact ht hb.2.symm
    have hgm : m ≠ g := fun e => by
      obtain ⟨g', cap', cur, hv, -, hg, -⟩ := h1.row.row.2.resolve_left (fun h => by simp at h)
      simp only [Value.slice.injEq, Option.some.injEq, Addr.mk.injEq] at hv
      obtain ⟨⟨rfl, -⟩, -⟩ := hv
      obtain ⟨D, ⟨es, clock, h5, -⟩, -⟩ := h1.row.fn
      rw [e, hg] at h5
      simp at h5
    have hgf : base ≤ g ∧ ∃ cs, w.heap[g]? = some (.cells cs 67 (0, 0)) := by
      obtain ⟨g', cap', cur, hv, hbg, hg, -⟩ := h1.row.row.2.resolve_left (fun h => by simp at h)
      simp only [Value.slice.injEq, Option.some.injEq, Addr.mk.injEq] at hv
      obtain ⟨⟨rfl, -⟩, -⟩ := hv
      exact ⟨hbg, _, hg⟩
    have hmv := move_set h1.row.once hi k
    have hlen : (L.set i ⟨k, (pos L i).name, (pos L i).turn⟩).length = L.length := by simp
    have hq2 := hset.obj h1.blk (hrk _ _ _ h1.blk (by decide))
    have hr2 : RowIs base (w.setCell ⟨g, i * 3, none⟩ (.int .i64 k)) r m (.slice (some ⟨g, 0, none⟩) L.length cap) (L.set i ⟨k, (pos L i).name, (pos L i).turn⟩) :=
      ⟨hset.obj h1.row.blk (hrk _ _ _ h1.row.blk (by decide)), by rw [hlen]; exact hrow, by
        rw [hlen]
        refine (h1.row.fn.keeps hset hgm).ext fun y _ => ?_
        rw [hmv]
        cases hy : whr L y with
        | none =>
          refine (whr_none fun j hj => ?_).symm
          have hj' : j < L.length := by simpa [moveN] using hj
          rw [pos_get hj, moveN_get L _ _ j hj hj']
          have := whr_not hy j hj'
          rw [pos_get hj'] at this
          split <;> exact this
        | some j =>
          obtain ⟨hj', hjn⟩ := whr_is hy
          refine (whr_some (by unfold Once; rw [moveN_names]; exact h1.row.once) (by simpa [moveN] using hj') ?_).symm
          rw [pos_get (by simpa [moveN] using hj'), moveN_get L _ _ j (by simpa [moveN] using hj') hj']
          rw [pos_get hj'] at hjn
          split <;> exact hjn, by rw [hmv]; unfold Once; rw [moveN_names]; exact h1.row.once, by
        rw [hmv]
        intro e he
        have : e.name ∈ (moveN L (pos L i).name k).map (·.name) := List.mem_map_of_mem he
        rw [moveN_names] at this
        obtain ⟨a, ha, hae⟩ := List.mem_map.1 this
        rw [← hae]
        exact h1.row.wf a ha, h1.row.br, h1.row.bm, by rw [hlen]; exact h1.row.le, h1.row.nr, h1.row.nm, h1.row.nl, Nat.le_trans h1.row.lim hset.size⟩
    have hdn : DnI (pos (L.set i ⟨k, (pos L i).name, (pos L i).turn⟩)) (L.set i ⟨k, (pos L i).name, (pos L i).turn⟩).length i false :=
      dn_set (N := L.length) h1.hp (by rw [hlen]; exact Nat.le_refl _) hi (fun j hj hji => by rw [pos_set hi]; simp [hji])
    have HR := Lib.hid (hFix_any i _ hr2 (by rw [hlen]; exact hi) hdn)
    have HQ2 := Lib.hid hq2
    have HMv := Lib.hid hmv
    have Hlen := Lib.hid hlen
    have H1 := Lib.hid h1
    have H2 := Lib.hid h2
    have Hn := Lib.hid hn
    have HSet := Lib.hid (show KeepH base w (w.setCell ⟨g, i * 3, none⟩ (.int .i64 k)) from Keeps.mono hset fun b _ e => by
      subst e
      obtain ⟨h5, cs, h6⟩ := hgf
      exact ⟨⟨h5, h1.row.nl _ rfl⟩, by rw [h6]; simp⟩)
    have c0' : (w.setCell ⟨g, i * 3, none⟩ (.int .i64 k)).cell? ⟨q, 0, none⟩ = some (.pointer (some ⟨r, 0, none⟩)) := (two_box hq2).1
    obtain ⟨n, hnn⟩ : ∃ n, n = L.length := ⟨_, rfl⟩
    rw [← hnn] at d0 hi hle
    have hi' : (i : Int) < n := by omega
    clear h1 h2 h3 hx hb hw hn hrow hset hrk hgm hgf hmv hlen hq2 hr2 hdn hnn
    go_enter Try.func12, Try.ntmps12
    go_wp2_with fail
    refine HH.out.mono ?_
    rintro en w1 ⟨c, rfl, hc, rfl⟩
    rw [hc i rfl]
    clear hc
    go_wp2_with fail
    refine HM.out.mono ?_
    rintro en w1 ⟨rfl, rfl⟩
    go_wp2_with fail
    refine HR.out.mono ?_
    rintro en w4 ⟨rfl, L2, hr, hh, hp, hk⟩
    have hq4 := hk.cells HQ2.out (by decide)
    have HE := Lib.hid (show Qu base w4 q t (moveN M x k) ∧ KeepQ base q w w4 from ⟨⟨⟨r, m, _, L2, ⟨hq4, hr, hh, fun a ha => by
      have h5 := hp.mem_iff.1 ha
      rw [HMv.out] at h5
      have h6 : a.turn ∈ (moveN L (pos L i).name k).map (·.turn) := List.mem_map_of_mem h5
      rw [moveN_turns] at h6
      obtain ⟨b, hb, hbe⟩ := List.mem_map.1 h6
      rw [← hbe]
      exact H1.out.trn b hb, H1.out.bq⟩, by
      rw [HMv.out, Hn.out] at hp
      exact hp.trans (H2.out.map _)⟩, HTrn.out.move _ _⟩, KeepQ.ofH (KeepH.trans HSet.out hk)⟩)
    clear hr hh hp hk hq4
    go_wp2
    go_ret
    exact ⟨rfl, HE.out⟩
end Go.Proofs.Ytcpcgpanmoellaa
