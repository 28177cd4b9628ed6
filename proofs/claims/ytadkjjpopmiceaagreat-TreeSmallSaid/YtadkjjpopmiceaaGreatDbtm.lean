import Derived.Test.YtadkjjpopmiceaaGreatRfvm
import Derived.Test.YtadkjjpopmiceaaGreatTbem
import Derived.Test.YtadkjjpopmiceaaGreatOwtm
namespace Go.Proofs.YtadkjjpopmiceaaGreat
open Go.RowKit Go.Lib

/-- a number brought into 0 to n - 1. -/
def pickN (x n : Int) : Int := if x.tmod n < 0 then x.tmod n + n else x.tmod n
theorem pickN_range (x n : Int) (hn : 0 < n) : 0 ≤ pickN x n ∧ pickN x n < n := by
  have h1 := Int.tmod_lt_of_pos x hn
  have h2 := Int.lt_tmod_of_pos x hn
  unfold pickN
  split <;> omega
set_option maxHeartbeats 1000000 in
theorem pick_any (w : World) (x n : Int) (hn : 0 < n) (hn2 : n ≤ 1000000) :
    Calls Tryz.prog 102 #[.int .i64 x, .int .i64 n] w fun e w' => e = .returned (.int .i64 (pickN x n)) ∧ w = w' := by
  have h1 := Int.tmod_lt_of_pos x hn
  have h2 := Int.lt_tmod_of_pos x hn
  have hw : IntKind.i64.wrap (x.tmod n) = x.tmod n := IntWalk.i64_in _ (by omega)
  have hz : (n == 0) = false := by simp; omega
  have hz2 : decide (n = 0) = false := by simp; omega
  have hz3 : ¬ n < 1 := by omega
  by_cases h0 : x.tmod n < 0
  · have hw2 : IntKind.i64.wrap (x.tmod n + n) = x.tmod n + n := IntWalk.i64_in _ (by omega)
    have hp : pickN x n = x.tmod n + n := if_pos h0
    go_enter Tryz.func102, Tryz.ntmps102
    go_wp2
    go_ret
    first | exact ⟨rfl, rfl⟩ | exact ⟨congrArg (fun z => Ending.returned (.int .i64 z)) hp.symm, rfl⟩
  · have hp : pickN x n = x.tmod n := if_neg h0
    go_enter Tryz.func102, Tryz.ntmps102
    go_wp2
    go_ret
    first | exact ⟨rfl, rfl⟩ | exact ⟨congrArg (fun z => Ending.returned (.int .i64 z)) hp.symm, rfl⟩
/-- a deed. -/
structure Dd where
  what : Int
  mark : Int
  rule : Int
  lev : Int
  fr : Int
  tz : Int
  v : Value
  l : List Tw
def ddc (d : Dd) : List Value := [.int .i64 d.what, .int .i64 d.mark, .int .i64 d.rule, .int .i64 d.lev, .int .i64 d.fr, .int .i64 d.tz, d.v]
abbrev DdOk (w : World) (d : Dd) : Prop := TwAt w d.v d.l ∧ (∀ t ∈ d.l, twOk t) ∧ d.l.length ≤ 140737488355328 ∧ d.tz ≤ 9223372036854775807
/-- deeds that came in. -/
def DdsAt (w : World) (v : Value) (L : List Dd) : Prop := RowsAt w 7 v (L.map ddc) ∧ ∀ d ∈ L, DdOk w d
theorem DdsAt.later {w w' : World} {v : Value} {L : List Dd} (h : DdsAt w v L) (hb : Below w.heap.size w w') : DdsAt w' v L := ⟨RowsAt.later h.1 hb, fun d hd => ⟨(h.2 d hd).1.later hb, (h.2 d hd).2⟩⟩
theorem DdsAt.val {w : World} {v : Value} {L : List Dd} (h : DdsAt w v L) : ∃ ao cap, v = .slice ao L.length cap := by
  obtain ⟨ao, cap, h⟩ := RowsAt.val h.1
  exact ⟨ao, cap, by simpa using h⟩
theorem DdsAt.cells {w : World} {ao : Option Addr} {n cap : Nat} {L : List Dd} (h : DdsAt w (.slice ao n cap) L) : n = L.length ∧ n ≤ cap ∧ cap ≤ maxLen ∧ ∀ i (hi : i < L.length), ∃ b off, ao = some ⟨b, off, none⟩ ∧ b < w.heap.size ∧
    w.cell? ⟨b, off + i * 7, none⟩ = some (.int .i64 L[i].what) ∧ w.cell? ⟨b, off + i * 7 + 1, none⟩ = some (.int .i64 L[i].mark) ∧ w.cell? ⟨b, off + i * 7 + 2, none⟩ = some (.int .i64 L[i].rule) ∧ w.cell? ⟨b, off + i * 7 + 3, none⟩ = some (.int .i64 L[i].lev) ∧
    w.cell? ⟨b, off + i * 7 + 4, none⟩ = some (.int .i64 L[i].fr) ∧ w.cell? ⟨b, off + i * 7 + 5, none⟩ = some (.int .i64 L[i].tz) ∧ w.cell? ⟨b, off + i * 7 + 6, none⟩ = some L[i].v := by
  obtain ⟨⟨ao', b, off, cap', he, hl, hm, hn, ha, _, hc⟩, -⟩ := h
  simp only [Value.slice.injEq, List.length_map] at he hl hn ha hc
  obtain ⟨rfl, rfl, rfl⟩ := he
  refine ⟨rfl, hl, hm, fun i hi => ⟨b, off, (ha (by omega)).1, (ha (by omega)).2, ?_⟩⟩
  have h := fun j hj => hc i hi j hj
  simp only [List.getElem_map] at h
  exact ⟨h 0 (by omega), h 1 (by omega), h 2 (by omega), h 3 (by omega), h 4 (by omega), h 5 (by omega), h 6 (by omega)⟩
def sumD (l : List Dd) : Nat := (l.map fun d => d.l.length).sum
theorem sumD_take (l : List Dd) {k : Nat} (h : k < l.length) : sumD (l.take (k + 1)) = sumD (l.take k) + l[k].l.length := by
  unfold sumD
  rw [List.take_succ_eq_append_getElem h, List.map_append, List.sum_append]
  simp
theorem sumD_le (l : List Dd) (k : Nat) : sumD (l.take k) ≤ sumD l := by
  unfold sumD
  have := List.take_append_drop k l
  conv => rhs; rw [← this]
  rw [List.map_append, List.sum_append]
  omega
set_option maxHeartbeats 1000000 in
theorem law_size (w : World) (u : Value) (l : List Dd) (hu : DdsAt w u l) (h9 : l.length ≤ 140737488351232) :
    Calls Tryz.prog 65 #[u] w fun e w' => ∃ n : Nat, e = .returned (.int .i64 n) ∧ (n ≤ 120 → n = l.length + sumD l) ∧ w = w' := by
  have hok := Lib.hid hu.2
  obtain ⟨ao2, cap2, rfl⟩ := hu.val
  have Hc := Lib.hid hu.cells
  clear hu
  obtain ⟨N, hN⟩ : ∃ N, N = l.length := ⟨_, rfl⟩
  have HN := Lib.hid hN
  go_enter Tryz.func65, Tryz.ntmps65
  go_wp2
  rw [← hN]
  have h9' : N ≤ 140737488351232 := by omega
  clear hN h9
  go_loop [3, 4] (fun n i => ∃ k : Nat, k ≤ N ∧ i = .int .i64 k ∧ n = .int .i64 ((N + sumD (l.take k) : Nat) : Int) ∧ (k < N → True) ∧ N + sumD (l.take k) ≤ 422212465065984) (fun _ i => N - (intOf i).toNat)
  case atStart => exact ⟨0, by omega, rfl, by simp [sumD], fun _ => trivial, by simp [sumD]; omega⟩
  case round =>
    obtain ⟨k, hk, rfl, rfl, _, hb⟩ := hrel
    obtain ⟨S, hS⟩ : ∃ S, S = N + sumD (l.take k) := ⟨_, rfl⟩
    rw [← hS] at hb ⊢
    have HS := Lib.hid hS
    clear hS
    by_cases hlt : k < N
    · have hkI : (k : Int) < N := by omega
      by_cases hle : S ≤ 120
      · have hleI : (S : Int) ≤ 120 := by omega
        have hkl : k < l.length := by have := HN.out; omega
        obtain ⟨b2, off2, rfl, hbl, _, _, _, _, _, _, c6⟩ := Hc.out.2.2.2 k hkl
        obtain ⟨hat, _, hs, _⟩ := hok.out l[k] (List.getElem_mem hkl)
        have hsum := Lib.hid (sumD_take l hkl)
        obtain ⟨m, hm0⟩ : ∃ m, m = l[k].l.length := ⟨_, rfl⟩
        obtain ⟨ao, cap, hv⟩ := hat.val
        rw [hv] at c6
        rw [← hm0] at c6 hs
        have Hm0 := Lib.hid hm0
        clear hm0 hv hat
        have hadd : IntKind.i64.wrap ((S : Int) + m) = ((S + m : Nat) : Int) := by rw [IntWalk.i64_in _ (by omega)]; omega
        go_wp2
        go_round
        case rel =>
          refine ⟨k + 1, by omega, by go_num, ?_, fun _ => trivial, ?_⟩
          · rw [hsum.out, ← Hm0.out, ← Nat.add_assoc, ← HS.out]
            exact congrArg _ (by omega)
          · rw [hsum.out, ← Hm0.out, ← Nat.add_assoc, ← HS.out]
            omega
        case measure => simp [intOf] <;> omega
      · have hleI : ¬ (S : Int) ≤ 120 := by omega
        go_wp2
        go_ret
        exact ⟨S, rfl, fun h => by omega, rfl⟩
    · obtain rfl : k = N := by omega
      have hkI : ¬ (k : Int) < k := by omega
      go_wp2
      go_ret
      refine ⟨S, rfl, fun _ => ?_, rfl⟩
      rw [HS.out, HN.out, List.take_length]
/-- a builder and the document's, what else is watched beside them. -/
structure Bs (W0 wk : World) (b x : Nat) (v : Value) (lp : List Tw) (most pp rb : Nat) (vr : Value) (ld : List Tw) (pd : Nat) (K : List (Nat × Obj)) : Prop where
  bu : BuI W0.heap.size wk b x v lp most pp
  dc : DoB W0.heap.size wk rb vr ld most pd
  bl : Below W0.heap.size W0 wk
  ne : ∀ g, vr.ownBlock = some g → v.ownBlock ≠ some g
  kn : ∀ q ∈ K, wk.heap[q.1]? = some q.2 ∧ W0.heap.size ≤ q.1 ∧ q.1 ≠ b ∧ q.1 ≠ x ∧ v.ownBlock ≠ some q.1 ∧ q.1 ≠ rb ∧ vr.ownBlock ≠ some q.1
theorem Bs.later {W0 wk wk' : World} {b x : Nat} {v : Value} {lp : List Tw} {most pp rb : Nat} {vr : Value} {ld : List Tw} {pd : Nat} {K : List (Nat × Obj)} (h : Bs W0 wk b x v lp most pp rb vr ld pd K) (hb : Below wk.heap.size wk wk') : Bs W0 wk' b x v lp most pp rb vr ld pd K :=
  ⟨h.bu.later hb, h.dc.later hb, h.bl.trans (hb.mono h.bl.size), h.ne, fun q hq => ⟨(hb.block _ (lt_of_block (h.kn q hq).1)).trans (h.kn q hq).1, (h.kn q hq).2⟩⟩
theorem Bs.doc_off {W0 wk : World} {b x : Nat} {v : Value} {lp : List Tw} {most pp rb : Nat} {vr : Value} {ld : List Tw} {pd : Nat} {K : List (Nat × Obj)} (h : Bs W0 wk b x v lp most pp rb vr ld pd K) : rb ≠ b ∧ rb ≠ x ∧ v.ownBlock ≠ some rb ∧ vr.ownBlock ≠ some b ∧ vr.ownBlock ≠ some x := by
  have hd := h.dc.own
  unfold TwOwn at hd
  refine ⟨fun e => ?_, fun e => ?_, own_ne' h.dc.blk (by decide) h.bu.ar.2.1, own_ne' h.bu.blk (by decide) hd, own_ne' h.bu.ar.1 (by decide) hd⟩
  · have h1 := h.dc.blk
    rw [e, h.bu.blk] at h1
    simp at h1
  · have h1 := h.dc.blk
    rw [e, h.bu.ar.1] at h1
    simp at h1
theorem DoB.keep {B : Nat} {w w' : World} {rb : Nat} {v : Value} {l : List Tw} {most peak : Nat} {S : Nat → Prop} (h : DoB B w rb v l most peak) (hk : Keeps S w w') (h1 : ¬ S rb) (h2 : ∀ k, v.ownBlock = some k → ¬ S k) : DoB B w' rb v l most peak :=
  ⟨hk.obj h.blk h1, by have := h.own; unfold TwOwn at this ⊢; exact hk.row this h2, h.ok, h.len, h.pk, h.bb, Nat.le_trans h.bw hk.size⟩
theorem BuI.keep {B : Nat} {w w' : World} {b x : Nat} {v : Value} {l : List Tw} {most peak : Nat} {S : Nat → Prop} (h : BuI B w b x v l most peak) (hk : Keeps S w w') (h0 : ¬ S b) (h1 : ¬ S x) (h2 : ∀ k, v.ownBlock = some k → ¬ S k) : BuI B w' b x v l most peak :=
  ⟨hk.obj h.blk h0, h.ar.keeps hk h1 h2, h.right, h.ok, h.len, h.bb, h.bx, Nat.le_trans h.bw hk.size⟩
/-- behind a call of the builder. -/
theorem Bs.prog {W0 wk wk' : World} {b x : Nat} {v : Value} {lp lp' : List Tw} {most pp pp' rb : Nat} {vr : Value} {ld : List Tw} {pd : Nat} {K : List (Nat × Obj)} (h : Bs W0 wk b x v lp most pp rb vr ld pd K) (hn : BuN W0.heap.size wk b x v lp' most pp' wk') : ∃ v', Bs W0 wk' b x v' lp' most pp' rb vr ld pd K := by
  have hbl := hn.below h.bu
  obtain ⟨o1, o2, o3, o4, o5⟩ := h.doc_off
  obtain ⟨v', h1, h2, h3⟩ := hn
  have hdl := fun g hg => (show World.ownsRow _ _ _ _ _ _ _ from h.dc.own).lt g hg
  refine ⟨v', h1, h.dc.keep h2 (fun hS => ?_) (fun k hk hS => ?_), h.bl.trans hbl, fun g hg hv => ?_, fun q hq => ?_⟩
  · rcases hS with hS | hS
    · exact o2 hS
    · exact o3 hS
  · rcases hS with hS | hS
    · exact o5 (hS ▸ hk)
    · exact h.ne k hk hS
  · rcases h3 g hv with h4 | h4
    · exact h.ne g hg h4
    · have := (hdl g hg).2; omega
  · obtain ⟨k1, k2, k3, k4, k5, k6, k7⟩ := h.kn q hq
    refine ⟨h2.obj k1 (fun hS => ?_), k2, k3, k4, fun hv => ?_, k6, k7⟩
    · rcases hS with hS | hS
      · exact k4 hS
      · exact k5 hS
    · rcases h3 _ hv with h4 | h4
      · exact k5 h4
      · have := lt_of_block k1; omega
/-- behind a call of the document's. -/
theorem Bs.doc {W0 wk wk' : World} {b x : Nat} {v : Value} {lp : List Tw} {most pp rb : Nat} {vr : Value} {ld ld' : List Tw} {pd pd' : Nat} {K : List (Nat × Obj)} (h : Bs W0 wk b x v lp most pp rb vr ld pd K) (hn : DoN W0.heap.size wk rb vr ld' most pd' wk') : ∃ vr', Bs W0 wk' b x v lp most pp rb vr' ld' pd' K := by
  obtain ⟨o1, o2, o3, o4, o5⟩ := h.doc_off
  obtain ⟨vr', h1, h2, h3⟩ := hn
  have hbl := h2.below h.dc.bw (fun k hk => by subst hk; exact h.dc.bb)
  refine ⟨vr', h.bu.keep h2 (fun e => o1 e.symm) (fun e => o2 e.symm) (fun k hk e => o3 (e ▸ hk)), h1, h.bl.trans hbl, fun g hg hv => ?_, fun q hq => ?_⟩
  · rcases h3 g hg with h4 | h4
    · exact h.ne g h4 hv
    · have := (h.bu.ar.2.1.lt g hv).2; omega
  · obtain ⟨k1, k2, k3, k4, k5, k6, k7⟩ := h.kn q hq
    refine ⟨h2.obj k1 k6, k2, k3, k4, k5, k6, fun hv => ?_⟩
    rcases h3 _ hv with h4 | h4
    · exact k7 h4
    · have := lt_of_block k1; omega
/-- new memory is watched. -/
theorem Bs.watch {W0 wk wk' : World} {b x : Nat} {v : Value} {lp : List Tw} {most pp rb : Nat} {vr : Value} {ld : List Tw} {pd : Nat} {K : List (Nat × Obj)} (h : Bs W0 wk b x v lp most pp rb vr ld pd K) (hb : Below wk.heap.size wk wk') {g : Nat} {o : Obj} (hg : wk'.heap[g]? = some o) (hn : wk.heap.size ≤ g) : Bs W0 wk' b x v lp most pp rb vr ld pd ((g, o) :: K) := by
  have h' := h.later hb
  refine ⟨h'.bu, h'.dc, h'.bl, h'.ne, fun q hq => ?_⟩
  rcases List.mem_cons.1 hq with rfl | hq
  · have h1 := lt_of_block h.bu.blk
    have h2 := lt_of_block h.bu.ar.1
    have h3 := lt_of_block h.dc.blk
    refine ⟨hg, Nat.le_trans h.bl.size hn, by simp only; omega, by simp only; omega, fun e => ?_, by simp only; omega, fun e => ?_⟩
    · have := (h.bu.ar.2.1.lt _ e).2; simp only at this; omega
    · have := ((show World.ownsRow _ _ _ _ _ _ _ from h.dc.own).lt _ e).2; simp only at this; omega
  · exact h'.kn q hq
/-- a watched block is written: no more watched. -/
theorem Bs.over {W0 wk wk' : World} {b x : Nat} {v : Value} {lp : List Tw} {most pp rb : Nat} {vr : Value} {ld : List Tw} {pd : Nat} {K : List (Nat × Obj)} {g : Nat} {o : Obj} (h : Bs W0 wk b x v lp most pp rb vr ld pd ((g, o) :: K)) (hk : Keeps (fun k => k = g) wk wk') (hK : ∀ q ∈ K, q.1 ≠ g) : Bs W0 wk' b x v lp most pp rb vr ld pd K := by
  obtain ⟨k1, k2, k3, k4, k5, k6, k7⟩ := h.kn (g, o) (.head _)
  simp only at k2 k3 k4 k5 k6 k7
  refine ⟨h.bu.keep hk (fun e => k3 e.symm) (fun e => k4 e.symm) (fun k hk e => k5 (e ▸ hk)), h.dc.keep hk (fun e => k6 e.symm) (fun k hk e => k7 (e ▸ hk)), h.bl.trans (hk.below h.bl.size (fun k e => by subst e; exact k2)), h.ne, fun q hq => ?_⟩
  obtain ⟨q1, q2⟩ := h.kn q (.tail _ hq)
  exact ⟨hk.obj q1 (hK q hq), q2⟩
theorem Bs.free {W0 wk : World} {b x : Nat} {v : Value} {lp : List Tw} {most pp rb : Nat} {vr : Value} {ld : List Tw} {pd : Nat} {K : List (Nat × Obj)} (h : Bs W0 wk b x v lp most pp rb vr ld pd K) : Bs W0 wk b x v lp most pp rb vr ld pd [] := ⟨h.bu, h.dc, h.bl, h.ne, fun q hq => by simp at hq⟩
end Go.Proofs.YtadkjjpopmiceaaGreat
namespace Go.Proofs.YtadkjjpopmiceaaGreat
open Go.RowKit Go.Lib

/-- two blocks of deeds that a call has laid. -/
def Tu (w u : World) (X1 X2 : Nat) (c1 c2 : Array Value) : Prop := Below w.heap.size w u ∧ u.heap[X1]? = some (.cells c1 50 (0, 0)) ∧ u.heap[X2]? = some (.cells c2 50 (0, 0))
theorem Tu.later {w u u' : World} {X1 X2 : Nat} {c1 c2 : Array Value} (h : Tu w u X1 X2 c1 c2) (hb : Below u.heap.size u u') : Tu w u' X1 X2 c1 c2 :=
  ⟨h.1.trans (hb.mono h.1.size), (hb.block _ (lt_of_block h.2.1)).trans h.2.1, (hb.block _ (lt_of_block h.2.2)).trans h.2.2⟩
theorem Tu.drew {w u : World} {X1 X2 : Nat} {c1 c2 : Array Value} (h : Tu w u X1 X2 c1 c2) : Tu w u.drew X1 X2 c1 c2 := h.later ((Below.refl _ _).drew)
theorem Tu.draws {w u : World} {X1 X2 : Nat} {c1 c2 : Array Value} (h : Tu w u X1 X2 c1 c2) (n : Nat) : Tu w (u.drewN n) X1 X2 c1 c2 := h.later (below_draws (Below.refl _ _) n)
theorem Tu.set1 {w u : World} {X1 X2 : Nat} {c1 c2 : Array Value} (h : Tu w u X1 X2 c1 c2) (hx : w.heap.size ≤ X1) (hne : X2 ≠ X1) (i : Nat) (v : Value) : Tu w (u.setCell ⟨X1, i, none⟩ v) X1 X2 (c1.setIfInBounds i v) c2 :=
  ⟨h.1.setCell (p := ⟨X1, i, none⟩) hx v, block_setCell' h.2.1, ((Keeps.refl (fun k => k = X1) u).setCell (p := ⟨X1, i, none⟩) rfl v).obj h.2.2 hne⟩
theorem seven_box {w : World} {b : Nat} {x0 x1 x2 x3 x4 x5 x6 : Value} {t : TypeId} (h : w.heap[b]? = some (.cells #[x0, x1, x2, x3, x4, x5, x6] t (0, 0))) : w.cell? ⟨b, 0, none⟩ = some x0 ∧ w.cell? ⟨b, 1, none⟩ = some x1 ∧ w.cell? ⟨b, 2, none⟩ = some x2 ∧ w.cell? ⟨b, 3, none⟩ = some x3 ∧ w.cell? ⟨b, 4, none⟩ = some x4 ∧ w.cell? ⟨b, 5, none⟩ = some x5 ∧ w.cell? ⟨b, 6, none⟩ = some x6 := ⟨(block_cell' h 0).1, (block_cell' h 1).1, (block_cell' h 2).1, (block_cell' h 3).1, (block_cell' h 4).1, (block_cell' h 5).1, (block_cell' h 6).1⟩
theorem block_free {w : World} {b : Nat} {c : Array Value} {t : TypeId} (h : w.heap[b]? = some (.cells c t (0, 0))) (i : Nat) : w.frozen? ⟨b, i, none⟩ = false := (block_cell' h i).2
def TurnR (w : World) (rule lev tz : Int) (v : Value) (e : Ending) (w' : World) : Prop :=
  ∃ wh mk fr : Int, e = .returned (.agg #[.int .i64 wh, .int .i64 mk, .int .i64 rule, .int .i64 lev, .int .i64 fr, .int .i64 tz, v]) ∧ (wh = 0 ∨ wh = 1 ∨ wh = 2) ∧ Below w.heap.size w w'
set_option maxRecDepth 100000 in
set_option maxHeartbeats 8000000 in
theorem turned_any {B rb : Nat} {vr : Value} {l : List Tw} {most peak : Nat} (what mark rule lev fr tz : Int) (ao : Option Addr) (dn cap : Nat) (w : World) (h : DoB B w rb vr l most peak) (hr : rightB l = true) :
    Calls Tryz.prog 66 #[.pointer (some ⟨rb, 0, none⟩), .agg #[.int .i64 what, .int .i64 mark, .int .i64 rule, .int .i64 lev, .int .i64 fr, .int .i64 tz, .slice ao dn cap]] w fun e w' => TurnR w rule lev tz (.slice ao dn cap) e w' := by
  have H := Lib.hid h
  have hown := h.own
  unfold TwOwn at hown
  obtain ⟨va, vc, rfl⟩ := own_val hown
  obtain ⟨len, hlen⟩ : ∃ len, len = l.length := ⟨_, rfl⟩
  have HLe := Lib.hid hlen
  have hl5 : len ≤ 100000 := by rw [hlen]; exact h.len
  have HRt := Lib.hid (topR_len hr)
  have HRd := Lib.hid (fun r (hm : r ∈ topR l) => by
    obtain ⟨rs, hF⟩ := (rightB_iff l).1 hr
    rw [topR_of hr hF] at hm
    exact (hF.root r hm).2)
  rw [← hlen] at H hown
  clear h hown hlen hr
  go_enter Tryz.func66, Tryz.ntmps66
  go_upto_region 1 with (fail)
  refine gen_world (S := fun u => Tu w u w.heap.size (w.heap.size + 1) #[.int .i64 what, .int .i64 mark, .int .i64 rule, .int .i64 lev, .int .i64 fr, .int .i64 tz, .slice ao dn cap] #[.int .i64 0, .int .i64 0, .int .i64 0, .int .i64 0, .int .i64 0, .int .i64 0, .slice none 0 0]) (two_new w _ _) (fun u hu => ?_)
  obtain ⟨X1, hX1⟩ : ∃ X1, X1 = w.heap.size := ⟨_, rfl⟩
  rw [← hX1] at hu ⊢
  obtain ⟨X2, hX2⟩ : ∃ X2, X2 = X1 + 1 := ⟨_, rfl⟩
  rw [← hX2] at hu ⊢
  have HU := Lib.hid hu
  have hx1 : w.heap.size ≤ X1 := by omega
  have hx2 : X2 ≠ X1 := by omega
  have hx3 : w.heap.size ≤ X2 := by omega
  have HX1 := Lib.hid hx1
  have HX2 := Lib.hid hx2
  have HX3 := Lib.hid hx3
  obtain ⟨x0, x1, x2, x3, x4, x5, x6⟩ := seven_box hu.2.1
  have f0 := block_free hu.2.1 0
  have hpk := pickN_range what 6 (by omega)
  have HPi := Lib.hid (fun u => pick_any u what 6 (by omega) (by omega))
  obtain ⟨p, hp⟩ : ∃ p, p = pickN what 6 := ⟨_, rfl⟩
  rw [← hp] at HPi hpk
  obtain ⟨hp0, hp6⟩ := hpk
  clear hu hX1 hX2 hx1 hx2 hx3 hp
  go_wp2_with fail
  refine (HPi.out _).mono ?_
  rintro e u1 ⟨rfl, rfl⟩
  go_upto_region 2 with (fail)
  refine gen_world (S := fun u => Tu w u X1 X2 #[.int .i64 p, .int .i64 mark, .int .i64 rule, .int .i64 lev, .int .i64 fr, .int .i64 tz, .slice ao dn cap] #[.int .i64 0, .int .i64 0, .int .i64 0, .int .i64 0, .int .i64 0, .int .i64 0, .slice none 0 0]) (HU.out.set1 HX1.out HX2.out 0 (.int .i64 p)) (fun u1 hu => ?_)
  clear x0 x1 x2 x3 x4 x5 x6 f0
  have HU1 := Lib.hid hu
  obtain ⟨x0, x1, x2, x3, x4, x5, x6⟩ := seven_box hu.2.1
  obtain ⟨y0, y1, y2, y3, y4, y5, y6⟩ := seven_box hu.2.2
  have yf := fun i => block_free hu.2.2 i
  clear hu
  by_cases hp3 : p < 3
  · have HP := Lib.hid (show p = 0 ∨ p = 1 ∨ p = 2 from by omega)
    go_wp2
    have hX := HU1.out.2.2
    obtain ⟨W, hW⟩ : ∃ W, W = (((((((u1.setCell ⟨X2, 0, none⟩ (.int .i64 p)).setCell ⟨X2, 1, none⟩ (.int .i64 mark)).setCell ⟨X2, 2, none⟩ (.int .i64 rule)).setCell ⟨X2, 3, none⟩ (.int .i64 lev)).setCell ⟨X2, 4, none⟩ (.int .i64 fr)).setCell ⟨X2, 5, none⟩ (.int .i64 tz)).setCell ⟨X2, 6, none⟩ (.slice ao dn cap)) := ⟨_, rfl⟩
    have hWb : W.heap[X2]? = some (.cells #[(.int .i64 p), (.int .i64 mark), (.int .i64 rule), (.int .i64 lev), (.int .i64 fr), (.int .i64 tz), (.slice ao dn cap)] 50 (0, 0)) := by rw [hW]; exact block_setCell' (block_setCell' (block_setCell' (block_setCell' (block_setCell' (block_setCell' (block_setCell' hX))))))
    have hWl : Below w.heap.size w W := by
      have h3 := HX3.out
      rw [hW]
      exact (((((((HU1.out.1.setCell (p := ⟨X2, 0, none⟩) h3 _).setCell (p := ⟨X2, 1, none⟩) h3 _).setCell (p := ⟨X2, 2, none⟩) h3 _).setCell (p := ⟨X2, 3, none⟩) h3 _).setCell (p := ⟨X2, 4, none⟩) h3 _).setCell (p := ⟨X2, 5, none⟩) h3 _).setCell (p := ⟨X2, 6, none⟩) h3 _)
    rw [← hW]
    obtain ⟨q0, q1, q2, q3, q4, q5, q6⟩ := seven_box hWb
    exact bodyPost_ret (v := .agg #[(.int .i64 p), (.int .i64 mark), (.int .i64 rule), (.int .i64 lev), (.int .i64 fr), (.int .i64 tz), (.slice ao dn cap)]) (by simp [results, Tryz.f66, go_sem, q0, q1, q2, q3, q4, q5, q6]) rfl ⟨_, _, _, rfl, HP.out, hWl⟩
  · clear y0 y1 y2 y3 y4 y5 y6 yf
    go_upto_region 4 with (fail)
    obtain ⟨i0, hi0, hz0, hz1, hz2⟩ := info_parts Tryz.infoInt
    obtain ⟨rn, hrn⟩ : ∃ rn, rn = (topR l).length := ⟨_, rfl⟩
    have hrn2 : rn ≤ len := by rw [hrn, HLe.out]; exact HRt.out
    have HRn := Lib.hid hrn
    clear x0 x1 x2 x3 x4 x5 x6 hrn
    have HFa := Lib.hid (show ∀ u, Below u1.heap.size u1 u → u.cell? ⟨rb, 0, none⟩ = some (.slice va len vc) from fun u hu => (three_box (H.out.later (HU1.out.later hu).1).blk).1)
    obtain ⟨B0, hB0⟩ : ∃ B0, B0 = u1.heap.size := ⟨_, rfl⟩
    have HBe := Lib.hid hB0
    have HSz := Lib.hid (show ∀ u, Below B0 u1 u → B0 ≤ u.heap.size from fun u h => by rw [hB0]; exact h.size)
    have HSr := Lib.hid (show Below B0 u1 u1.drew from by rw [hB0]; exact (Below.refl u1.heap.size u1).drew)
    rw [← hB0] at HFa
    clear hB0
    apply cut_hid
    · intro keyT
      refine wp_region_held_drew (S := fun u2 => Below B0 u1 u2) (by kernel_rfl) HSr.out (fun hS => ?_)
      refine wpAnyH_take (i := 0) (oi := ⟨_, _, _, _, _, _⟩) (v := ?v1) rfl (by kernel_rfl) (by kernel_rfl) (by kernel_rfl) (fun _ _ _ h => h) ?y1 hS ?_
      case y1 => first | (refine Or.inr ⟨by rfl, ?_⟩; with_reducible rfl) | (refine Or.inl ⟨by rfl, ?_⟩; intro wS hSw; have z0 := HFa.out wS hSw; go_simp; try with_reducible rfl)
      simp only [Act.put, List.setIfInBounds_toArray, List.set_cons_zero, List.set_cons_succ]
      refine wpAnyH_take (i := 1) (oi := ⟨_, _, _, _, _, _⟩) (v := ?v2) rfl (by kernel_rfl) (by kernel_rfl) (by kernel_rfl) (fun _ _ _ h => h) ?y2 hS ?_
      case y2 => first | (refine Or.inr ⟨by rfl, ?_⟩; with_reducible rfl) | (refine Or.inl ⟨by rfl, ?_⟩; intro wS hSw; have z0 := HFa.out wS hSw; go_simp; try with_reducible rfl)
      simp only [Act.put, List.setIfInBounds_toArray, List.set_cons_zero, List.set_cons_succ]
      refine wpAnyH_take (i := 2) (oi := ⟨_, _, _, _, _, _⟩) (v := ?v3) rfl (by kernel_rfl) (by kernel_rfl) (by kernel_rfl) (fun _ _ _ h => h) ?y3 hS ?_
      case y3 => first | (refine Or.inr ⟨by rfl, ?_⟩; with_reducible rfl) | (refine Or.inl ⟨by rfl, ?_⟩; intro wS hSw; have z0 := HFa.out wS hSw; go_simp; try with_reducible rfl)
      simp only [Act.put, List.setIfInBounds_toArray, List.set_cons_zero, List.set_cons_succ]
      refine wpAnyH_take (i := 3) (oi := ⟨_, _, _, _, _, _⟩) (v := ?v4) rfl (by kernel_rfl) (by kernel_rfl) (by kernel_rfl) (fun _ _ _ h => h) ?y4 hS ?_
      case y4 => first | (refine Or.inr ⟨by rfl, ?_⟩; with_reducible rfl) | (refine Or.inl ⟨by rfl, ?_⟩; intro wS hSw; have z0 := HFa.out wS hSw; go_simp; try with_reducible rfl)
      simp only [Act.put, List.setIfInBounds_toArray, List.set_cons_zero, List.set_cons_succ]
      refine wpAnyH_take (i := 5) (oi := ⟨_, _, _, _, _, _⟩) (v := ?v5) rfl (by kernel_rfl) (by kernel_rfl) (by kernel_rfl) (fun _ _ _ h => h) ?y5 hS ?_
      case y5 => first | (refine Or.inr ⟨by rfl, ?_⟩; with_reducible rfl) | (refine Or.inl ⟨by rfl, ?_⟩; intro wS hSw; have z0 := HFa.out wS hSw; go_simp; try with_reducible rfl)
      simp only [Act.put, List.setIfInBounds_toArray, List.set_cons_zero, List.set_cons_succ]
      refine wpAnyH_take (i := 6) (oi := ⟨_, _, _, _, _, _⟩) (v := ?v6) rfl (by kernel_rfl) (by kernel_rfl) (by kernel_rfl) (fun _ _ _ h => h) ?y6 hS ?_
      case y6 => first | (refine Or.inr ⟨by rfl, ?_⟩; with_reducible rfl) | (refine Or.inl ⟨by rfl, ?_⟩; intro wS hSw; have z0 := HFa.out wS hSw; go_simp; try with_reducible rfl)
      simp only [Act.put, List.setIfInBounds_toArray, List.set_cons_zero, List.set_cons_succ]
      refine wpAnyH_take (i := 7) (oi := ⟨_, _, _, _, _, _⟩) (v := ?v7) rfl (by kernel_rfl) (by kernel_rfl) (by kernel_rfl) (fun _ _ _ h => h) ?y7 hS ?_
      case y7 => first | (refine Or.inr ⟨by rfl, ?_⟩; with_reducible rfl) | (refine Or.inl ⟨by rfl, ?_⟩; intro wS hSw; have z0 := HFa.out wS hSw; go_simp; try with_reducible rfl)
      simp only [Act.put, List.setIfInBounds_toArray, List.set_cons_zero, List.set_cons_succ]
      refine wpAnyH_take (i := 8) (oi := ⟨_, _, _, _, _, _⟩) (v := ?v8) rfl (by kernel_rfl) (by kernel_rfl) (by kernel_rfl) (fun _ _ _ h => h) ?y8 hS ?_
      case y8 => first | (refine Or.inr ⟨by rfl, ?_⟩; with_reducible rfl) | (refine Or.inl ⟨by rfl, ?_⟩; intro wS hSw; have z0 := HFa.out wS hSw; go_simp; try with_reducible rfl)
      simp only [Act.put, List.setIfInBounds_toArray, List.set_cons_zero, List.set_cons_succ]
      refine wpAnyH_take (i := 9) (oi := ⟨_, _, _, _, _, _⟩) (v := ?v9) rfl (by kernel_rfl) (by kernel_rfl) (by kernel_rfl) (fun _ _ _ h => h) ?y9 hS ?_
      case y9 => first | (refine Or.inr ⟨by rfl, ?_⟩; with_reducible rfl) | (refine Or.inl ⟨by rfl, ?_⟩; intro wS hSw; have z0 := HFa.out wS hSw; go_simp; try with_reducible rfl)
      simp only [Act.put, List.setIfInBounds_toArray, List.set_cons_zero, List.set_cons_succ]
      refine wpAnyH_ready (rs := [4, 10]) (by kernel_rfl) (by simp) ?_
      refine AllReadyH.cons (o := ⟨_, _, _, _, _, _⟩) rfl (fun K hK => ?_) (AllReadyH.cons (o := ⟨_, _, _, _, _, _⟩) rfl (fun K hK => ?_) AllReadyH.nil)
      · go_simp
        refine (rTop_any _ l _ (H.out.later (HU1.out.later (HBe.out ▸ hS)).1).row).mono ?_
        rintro e wx ⟨vT, rfl, ho, hb⟩
        have hoC := ho.lift (HSz.out _ hS)
        unfold OwnN at hoC
        rw [← HRn.out] at hoC
        obtain ⟨aC, pC, rfl⟩ := own_val hoC
        have HoC := Lib.hid hoC
        have HbC := Lib.hid (hS.trans (hb.mono (HSz.out _ hS)))
        have HbD := Lib.hid hb
        clear ho hoC hb hS
        simp only []
        refine hK.out _ _ HbC.out (fun hS1 => ?_)
        clear hK K
        try simp only [Act.put, List.setIfInBounds_toArray, List.set_cons_zero, List.set_cons_succ]
        have hb := HbD.out
        have hoC := HoC.out
        refine gen_anyH (S2 := fun u => Below B0 u1 u ∧ (u.ownsRow B0 3 1 (.slice aC rn pC) rn (nats (topR l)))) ⟨hS1, hoC⟩ (fun wv hh => ?_)
        obtain ⟨hS, hC⟩ := hh
        clear hb hS1 hoC HoC HbC HbD
        refine wpAnyH_ready (rs := [10]) (by kernel_rfl) (by simp) ?_
        refine AllReadyH.cons (o := ⟨_, _, _, _, _, _⟩) rfl (fun K hK => ?_) AllReadyH.nil
        go_simp
        refine hK.out _ _ (hS.alloc (HSz.out _ hS) _) (fun hS1 => ?_)
        clear hK K
        try simp only [Act.put, List.setIfInBounds_toArray, List.set_cons_zero, List.set_cons_succ]
        have hb := (one_new wv (.cells #[.int .i64 (len : Int)] 3)).1
        have hnew := (one_new wv (.cells #[.int .i64 (len : Int)] 3)).2
        obtain ⟨gD, hg⟩ : ∃ gD, gD = wv.heap.size := ⟨_, rfl⟩
        try rw [← hg] at hnew ⊢
        refine gen_anyH (S2 := fun u => Below B0 u1 u ∧ (u.ownsRow B0 3 1 (.slice aC rn pC) rn (nats (topR l))) ∧ (u.heap[gD]? = some (.cells #[.int .i64 (len : Int)] 3 (0, 0)))) ⟨hS1, (Keeps.ofNew hb (fun _ => False)).row hC (fun _ _ h => h), hnew⟩ (fun wv hh => ?_)
        clear hS hC
        obtain ⟨hS, hC, hD⟩ := hh
        clear hb hnew hS1
        clear hg
        refine wpAnyH_list (L := #[true, true, true, true, true, true, true, true, true, true, true, false, false]) (by kernel_rfl) ?_
        revert hD
        revert hC
        revert pC
        revert aC
        revert gD
        revert hS
        revert wv
        exact keyT.out
      · go_simp
        refine hK.out _ _ (hS.alloc (HSz.out _ hS) _) (fun hS1 => ?_)
        clear hK K
        try simp only [Act.put, List.setIfInBounds_toArray, List.set_cons_zero, List.set_cons_succ]
        have hb := (one_new u1 (.cells #[.int .i64 (len : Int)] 3)).1
        have hnew := (one_new u1 (.cells #[.int .i64 (len : Int)] 3)).2
        obtain ⟨gD, hg⟩ : ∃ gD, gD = u1.heap.size := ⟨_, rfl⟩
        try rw [← hg] at hnew ⊢
        refine gen_anyH (S2 := fun u => Below B0 u1 u ∧ (u.heap[gD]? = some (.cells #[.int .i64 (len : Int)] 3 (0, 0)))) ⟨hS1, hnew⟩ (fun wv hh => ?_)
        clear hS 
        obtain ⟨hS, hD⟩ := hh
        clear hb hnew hS1
        clear hg
        refine wpAnyH_ready (rs := [4]) (by kernel_rfl) (by simp) ?_
        refine AllReadyH.cons (o := ⟨_, _, _, _, _, _⟩) rfl (fun K hK => ?_) AllReadyH.nil
        go_simp
        refine (rTop_any _ l _ (H.out.later (HU1.out.later (HBe.out ▸ hS)).1).row).mono ?_
        rintro e wx ⟨vT, rfl, ho, hb⟩
        have hoC := ho.lift (HSz.out _ hS)
        unfold OwnN at hoC
        rw [← HRn.out] at hoC
        obtain ⟨aC, pC, rfl⟩ := own_val hoC
        have HoC := Lib.hid hoC
        have HbC := Lib.hid (hS.trans (hb.mono (HSz.out _ hS)))
        have HbD := Lib.hid hb
        clear ho hoC hb hS
        simp only []
        refine hK.out _ _ HbC.out (fun hS1 => ?_)
        clear hK K
        try simp only [Act.put, List.setIfInBounds_toArray, List.set_cons_zero, List.set_cons_succ]
        have hb := HbD.out
        have hoC := HoC.out
        refine gen_anyH (S2 := fun u => Below B0 u1 u ∧ (u.ownsRow B0 3 1 (.slice aC rn pC) rn (nats (topR l))) ∧ (u.heap[gD]? = some (.cells #[.int .i64 (len : Int)] 3 (0, 0)))) ⟨hS1, hoC, (hb.block _ (lt_of_block hD)).trans hD⟩ (fun wv hh => ?_)
        clear hD
        obtain ⟨hS, hC, hD⟩ := hh
        clear hb hS1 hoC HoC HbC HbD
        refine wpAnyH_list (L := #[true, true, true, true, true, true, true, true, true, true, true, false, false]) (by kernel_rfl) ?_
        revert hD
        revert hC
        revert pC
        revert aC
        revert gD
        revert hS
        revert wv
        exact keyT.out
    · intro wv hS gD aC pC hC hD
      refine wpAnyH_ready (rs := [11]) (by kernel_rfl) (by simp) ?_
      refine AllReadyH.cons (o := ⟨_, _, _, _, _, _⟩) rfl (fun K hK => ?_) AllReadyH.nil
      have hNw := World.news_of_block hD
      refine step_append_tu (by rfl) _ _ 27 27 (by rfl) B0 3 3 i0 _ 1 8 Tryz.underlying27 Tryz.underlying27 hi0 hz0 hz1 hz2 rfl (by decide) aC rn pC (nats (topR l)) (by rfl) hC (some ⟨gD, 0, none⟩) 1 1 [.int .i64 (len : Int)] (by rfl) (fun h => by cases h) rfl (fun ad h => by cases h; exact hNw) (by simp [Value.oneCell']) (by unfold maxLen; omega) (by omega) (HSz.out _ hS) ?_
      intro v5 w5 hown5 hgrow5
      refine hK.out _ _ (hS.grown hgrow5 (HSz.out _ hS) (fun k hk => (hC.lt k hk).1)) (fun hS5 => ?_)
      clear hK K
      try simp only [Act.put, List.setIfInBounds_toArray, List.set_cons_zero, List.set_cons_succ]
      clear hC hD hgrow5 hS
      refine wpAnyH_take (i := 12) (oi := ⟨_, _, _, _, _, _⟩) (v := ?v10) rfl (by kernel_rfl) (by kernel_rfl) (by kernel_rfl) (fun _ _ _ h => h) ?y10 hS5 ?_
      case y10 => first | (refine Or.inr ⟨by rfl, ?_⟩; with_reducible rfl) | (refine Or.inl ⟨by rfl, ?_⟩; intro wS hSw; go_simp; try with_reducible rfl)
      simp only [Act.put, List.setIfInBounds_toArray, List.set_cons_zero, List.set_cons_succ]
      refine wpAnyH_done (by kernel_rfl) ?_ _
      have hown2 := OwnN.snoc HRn.out hown5
      have hb2 : Below u1.heap.size u1 w5 := HBe.out ▸ hS5
      clear hown5 hS5
      have HU2 := Lib.hid (HU1.out.later hb2)
      have HNm := Lib.hid (OwnN.nm hown2)
      have hrl : (topR l ++ [len]).length = rn + 1 := by simp [HRn.out]
      have HRl := Lib.hid hrl
      unfold OwnN at hown2
      rw [hrl] at hown2 
      obtain ⟨ma, mc, rfl⟩ := own_val hown2
      clear hown2 hb2 hrl
      obtain ⟨q, hq, hqp⟩ : ∃ q : Nat, q < rn + 1 ∧ pickN mark ((rn : Int) + 1) = q := by
        have := pickN_range mark ((rn : Int) + 1) (by omega)
        exact ⟨(pickN mark ((rn : Int) + 1)).toNat, by omega, by omega⟩
      have HPi2 := Lib.hid (fun u => pick_any u mark ((rn : Int) + 1) (by omega) (by omega))
      rw [hqp] at HPi2
      obtain ⟨x0, x1, x2, x3, x4, x5, x6⟩ := seven_box HU2.out.2.1
      have f1 := block_free HU2.out.2.1 1
      have hqM : q < (topR l ++ [len]).length := by rw [HRl.out]; exact hq
      have hmem : (topR l ++ [len])[q] ≤ len := by
        rcases List.mem_append.1 (List.getElem_mem hqM) with hm | hm
        · have := HRd.out _ hm
          have := HLe.out
          omega
        · simp only [List.mem_singleton] at hm
          omega
      obtain ⟨mb, mo, rfl, hmb, m0⟩ := HNm.out.cells hqM
      obtain ⟨mk, hmk⟩ : ∃ mk, mk = (topR l ++ [len])[q] := ⟨_, rfl⟩
      rw [← hmk] at hmem m0
      have hq' : (q : Int) < (rn : Int) + 1 := by omega
      clear hmk hqM hqp
      go_wp2_with fail
      refine (HPi2.out _).mono ?_
      rintro e w6 ⟨rfl, rfl⟩
      go_upto_region 6 with (fail)
      refine gen_world (S := fun u => Tu w u X1 X2 #[.int .i64 p, .int .i64 (mk : Int), .int .i64 rule, .int .i64 lev, .int .i64 fr, .int .i64 tz, .slice ao dn cap] #[.int .i64 0, .int .i64 0, .int .i64 0, .int .i64 0, .int .i64 0, .int .i64 0, .slice none 0 0]) (HU2.out.set1 HX1.out HX2.out 1 (.int .i64 (mk : Int))) (fun u3 hu => ?_)
      clear x0 x1 x2 x3 x4 x5 x6 f1 m0 hmb HPi2
      have HU3 := Lib.hid hu
      obtain ⟨x0, x1, x2, x3, x4, x5, x6⟩ := seven_box hu.2.1
      have H3 := Lib.hid (H.out.later hu.1)
      have c0 := (three_box H3.out.blk).1
      clear hu
      obtain ⟨r, hr, hrr⟩ : ∃ r, p.tmod 2 = r ∧ (r = 0 ∨ r = 1) := ⟨p.tmod 2, rfl, by
        rcases (show p = 3 ∨ p = 4 ∨ p = 5 from by omega) with rfl | rfl | rfl
        · exact .inr rfl
        · exact .inl rfl
        · exact .inr rfl⟩
      have HRw := Lib.hid (show (2 - r = 0 ∨ 2 - r = 1 ∨ 2 - r = 2) from by omega)
      have hw1 : IntKind.i64.wrap r = r := IntWalk.i64_in _ (by omega)
      have hw2 : IntKind.i64.wrap (2 - r) = 2 - r := IntWalk.i64_in _ (by omega)
      have hpb : ∀ b : Bool, (p == 5) = b → (p == 5) = b := fun _ h => h
      clear hpb hrr
      by_cases h5 : p = 5
      · by_cases hml : mk < len
        · have hml' : (mk : Int) < len := by omega
          obtain ⟨tb, toff, rfl, htb, s1, -, -⟩ := H3.out.own.tw.span (show mk < l.length from by rw [← HLe.out]; exact hml)
          obtain ⟨fv, hfv⟩ : ∃ fv, fv = (atT l mk).fr := ⟨_, rfl⟩
          rw [← hfv] at s1
          have f4 := block_free HU3.out.2.1 4
          clear hfv
          go_wp2_with fail
          go_quiet (fail)
          go_upto_region 7 with (fail)
          go_region
          all_goals go_upto_region 8 with (fail)
          refine gen_world (S := fun u => Tu w u X1 X2 #[.int .i64 p, .int .i64 (mk : Int), .int .i64 rule, .int .i64 lev, .int .i64 fv, .int .i64 tz, .slice ao dn cap] #[.int .i64 0, .int .i64 0, .int .i64 0, .int .i64 0, .int .i64 0, .int .i64 0, .slice none 0 0]) ((HU3.out.draws _).set1 HX1.out HX2.out 4 (.int .i64 fv)) (fun u4 hu => ?_)
          have HU4 := Lib.hid hu
          clear hu s1 f4 c0 htb h5
          clear x0 x1 x2 x3 x4 x5 x6
          obtain ⟨x0, x1, x2, x3, x4, x5, x6⟩ := seven_box HU4.out.2.1
          have f0 := block_free HU4.out.2.1 0
          go_upto_region 9 with (fail)
          refine gen_world (S := fun u => Tu w u X1 X2 #[.int .i64 (2 - r), .int .i64 (mk : Int), .int .i64 rule, .int .i64 lev, .int .i64 fv, .int .i64 tz, .slice ao dn cap] #[.int .i64 0, .int .i64 0, .int .i64 0, .int .i64 0, .int .i64 0, .int .i64 0, .slice none 0 0]) (HU4.out.set1 HX1.out HX2.out 0 (.int .i64 (2 - r))) (fun u5 hu => ?_)
          clear x0 x1 x2 x3 x4 x5 x6 f0
          have HU5 := Lib.hid hu
          obtain ⟨x0, x1, x2, x3, x4, x5, x6⟩ := seven_box hu.2.1
          obtain ⟨y0, y1, y2, y3, y4, y5, y6⟩ := seven_box hu.2.2
          have yf := fun i => block_free hu.2.2 i
          clear hu
          go_wp2
          have hX := HU5.out.2.2
          obtain ⟨W, hW⟩ : ∃ W, W = (((((((u5.setCell ⟨X2, 0, none⟩ (.int .i64 (2 - r))).setCell ⟨X2, 1, none⟩ (.int .i64 (mk : Int))).setCell ⟨X2, 2, none⟩ (.int .i64 rule)).setCell ⟨X2, 3, none⟩ (.int .i64 lev)).setCell ⟨X2, 4, none⟩ (.int .i64 fv)).setCell ⟨X2, 5, none⟩ (.int .i64 tz)).setCell ⟨X2, 6, none⟩ (.slice ao dn cap)) := ⟨_, rfl⟩
          have hWb : W.heap[X2]? = some (.cells #[(.int .i64 (2 - r)), (.int .i64 (mk : Int)), (.int .i64 rule), (.int .i64 lev), (.int .i64 fv), (.int .i64 tz), (.slice ao dn cap)] 50 (0, 0)) := by rw [hW]; exact block_setCell' (block_setCell' (block_setCell' (block_setCell' (block_setCell' (block_setCell' (block_setCell' hX))))))
          have hWl : Below w.heap.size w W := by
            have h3 := HX3.out
            rw [hW]
            exact (((((((HU5.out.1.setCell (p := ⟨X2, 0, none⟩) h3 _).setCell (p := ⟨X2, 1, none⟩) h3 _).setCell (p := ⟨X2, 2, none⟩) h3 _).setCell (p := ⟨X2, 3, none⟩) h3 _).setCell (p := ⟨X2, 4, none⟩) h3 _).setCell (p := ⟨X2, 5, none⟩) h3 _).setCell (p := ⟨X2, 6, none⟩) h3 _)
          rw [← hW]
          obtain ⟨q0, q1, q2, q3, q4, q5, q6⟩ := seven_box hWb
          exact bodyPost_ret (v := .agg #[(.int .i64 (2 - r)), (.int .i64 (mk : Int)), (.int .i64 rule), (.int .i64 lev), (.int .i64 fv), (.int .i64 tz), (.slice ao dn cap)]) (by simp [results, Tryz.f66, go_sem, q0, q1, q2, q3, q4, q5, q6]) rfl ⟨_, _, _, rfl, HRw.out, hWl⟩
        · have hml' : ¬ (mk : Int) < len := by omega
          go_wp2_with fail
          go_quiet (fail)
          go_upto_region 8 with (fail)
          refine gen_world (S := fun u => Tu w u X1 X2 #[.int .i64 p, .int .i64 (mk : Int), .int .i64 rule, .int .i64 lev, .int .i64 fr, .int .i64 tz, .slice ao dn cap] #[.int .i64 0, .int .i64 0, .int .i64 0, .int .i64 0, .int .i64 0, .int .i64 0, .slice none 0 0]) (HU3.out.draws _) (fun u4 hu => ?_)
          have HU4 := Lib.hid hu
          clear c0 hu h5
          clear x0 x1 x2 x3 x4 x5 x6
          obtain ⟨x0, x1, x2, x3, x4, x5, x6⟩ := seven_box HU4.out.2.1
          have f0 := block_free HU4.out.2.1 0
          go_upto_region 9 with (fail)
          refine gen_world (S := fun u => Tu w u X1 X2 #[.int .i64 (2 - r), .int .i64 (mk : Int), .int .i64 rule, .int .i64 lev, .int .i64 fr, .int .i64 tz, .slice ao dn cap] #[.int .i64 0, .int .i64 0, .int .i64 0, .int .i64 0, .int .i64 0, .int .i64 0, .slice none 0 0]) (HU4.out.set1 HX1.out HX2.out 0 (.int .i64 (2 - r))) (fun u5 hu => ?_)
          clear x0 x1 x2 x3 x4 x5 x6 f0
          have HU5 := Lib.hid hu
          obtain ⟨x0, x1, x2, x3, x4, x5, x6⟩ := seven_box hu.2.1
          obtain ⟨y0, y1, y2, y3, y4, y5, y6⟩ := seven_box hu.2.2
          have yf := fun i => block_free hu.2.2 i
          clear hu
          go_wp2
          have hX := HU5.out.2.2
          obtain ⟨W, hW⟩ : ∃ W, W = (((((((u5.setCell ⟨X2, 0, none⟩ (.int .i64 (2 - r))).setCell ⟨X2, 1, none⟩ (.int .i64 (mk : Int))).setCell ⟨X2, 2, none⟩ (.int .i64 rule)).setCell ⟨X2, 3, none⟩ (.int .i64 lev)).setCell ⟨X2, 4, none⟩ (.int .i64 fr)).setCell ⟨X2, 5, none⟩ (.int .i64 tz)).setCell ⟨X2, 6, none⟩ (.slice ao dn cap)) := ⟨_, rfl⟩
          have hWb : W.heap[X2]? = some (.cells #[(.int .i64 (2 - r)), (.int .i64 (mk : Int)), (.int .i64 rule), (.int .i64 lev), (.int .i64 fr), (.int .i64 tz), (.slice ao dn cap)] 50 (0, 0)) := by rw [hW]; exact block_setCell' (block_setCell' (block_setCell' (block_setCell' (block_setCell' (block_setCell' (block_setCell' hX))))))
          have hWl : Below w.heap.size w W := by
            have h3 := HX3.out
            rw [hW]
            exact (((((((HU5.out.1.setCell (p := ⟨X2, 0, none⟩) h3 _).setCell (p := ⟨X2, 1, none⟩) h3 _).setCell (p := ⟨X2, 2, none⟩) h3 _).setCell (p := ⟨X2, 3, none⟩) h3 _).setCell (p := ⟨X2, 4, none⟩) h3 _).setCell (p := ⟨X2, 5, none⟩) h3 _).setCell (p := ⟨X2, 6, none⟩) h3 _)
          rw [← hW]
          obtain ⟨q0, q1, q2, q3, q4, q5, q6⟩ := seven_box hWb
          exact bodyPost_ret (v := .agg #[(.int .i64 (2 - r)), (.int .i64 (mk : Int)), (.int .i64 rule), (.int .i64 lev), (.int .i64 fr), (.int .i64 tz), (.slice ao dn cap)]) (by simp [results, Tryz.f66, go_sem, q0, q1, q2, q3, q4, q5, q6]) rfl ⟨_, _, _, rfl, HRw.out, hWl⟩
      · have hnb : (p == 5) = false := by simpa using h5
        go_wp2_with fail
        go_quiet (fail)
        go_upto_region 8 with (fail)
        refine gen_world (S := fun u => Tu w u X1 X2 #[.int .i64 p, .int .i64 (mk : Int), .int .i64 rule, .int .i64 lev, .int .i64 fr, .int .i64 tz, .slice ao dn cap] #[.int .i64 0, .int .i64 0, .int .i64 0, .int .i64 0, .int .i64 0, .int .i64 0, .slice none 0 0]) (HU3.out.draws _) (fun u4 hu => ?_)
        have HU4 := Lib.hid hu
        clear c0 hu
        clear x0 x1 x2 x3 x4 x5 x6
        obtain ⟨x0, x1, x2, x3, x4, x5, x6⟩ := seven_box HU4.out.2.1
        have f0 := block_free HU4.out.2.1 0
        go_upto_region 9 with (fail)
        refine gen_world (S := fun u => Tu w u X1 X2 #[.int .i64 (2 - r), .int .i64 (mk : Int), .int .i64 rule, .int .i64 lev, .int .i64 fr, .int .i64 tz, .slice ao dn cap] #[.int .i64 0, .int .i64 0, .int .i64 0, .int .i64 0, .int .i64 0, .int .i64 0, .slice none 0 0]) (HU4.out.set1 HX1.out HX2.out 0 (.int .i64 (2 - r))) (fun u5 hu => ?_)
        clear x0 x1 x2 x3 x4 x5 x6 f0
        have HU5 := Lib.hid hu
        obtain ⟨x0, x1, x2, x3, x4, x5, x6⟩ := seven_box hu.2.1
        obtain ⟨y0, y1, y2, y3, y4, y5, y6⟩ := seven_box hu.2.2
        have yf := fun i => block_free hu.2.2 i
        clear hu
        go_wp2
        have hX := HU5.out.2.2
        obtain ⟨W, hW⟩ : ∃ W, W = (((((((u5.setCell ⟨X2, 0, none⟩ (.int .i64 (2 - r))).setCell ⟨X2, 1, none⟩ (.int .i64 (mk : Int))).setCell ⟨X2, 2, none⟩ (.int .i64 rule)).setCell ⟨X2, 3, none⟩ (.int .i64 lev)).setCell ⟨X2, 4, none⟩ (.int .i64 fr)).setCell ⟨X2, 5, none⟩ (.int .i64 tz)).setCell ⟨X2, 6, none⟩ (.slice ao dn cap)) := ⟨_, rfl⟩
        have hWb : W.heap[X2]? = some (.cells #[(.int .i64 (2 - r)), (.int .i64 (mk : Int)), (.int .i64 rule), (.int .i64 lev), (.int .i64 fr), (.int .i64 tz), (.slice ao dn cap)] 50 (0, 0)) := by rw [hW]; exact block_setCell' (block_setCell' (block_setCell' (block_setCell' (block_setCell' (block_setCell' (block_setCell' hX))))))
        have hWl : Below w.heap.size w W := by
          have h3 := HX3.out
          rw [hW]
          exact (((((((HU5.out.1.setCell (p := ⟨X2, 0, none⟩) h3 _).setCell (p := ⟨X2, 1, none⟩) h3 _).setCell (p := ⟨X2, 2, none⟩) h3 _).setCell (p := ⟨X2, 3, none⟩) h3 _).setCell (p := ⟨X2, 4, none⟩) h3 _).setCell (p := ⟨X2, 5, none⟩) h3 _).setCell (p := ⟨X2, 6, none⟩) h3 _)
        rw [← hW]
        obtain ⟨q0, q1, q2, q3, q4, q5, q6⟩ := seven_box hWb
        exact bodyPost_ret (v := .agg #[(.int .i64 (2 - r)), (.int .i64 (mk : Int)), (.int .i64 rule), (.int .i64 lev), (.int .i64 fr), (.int .i64 tz), (.slice ao dn cap)]) (by simp [results, Tryz.f66, go_sem, q0, q1, q2, q3, q4, q5, q6]) rfl ⟨_, _, _, rfl, HRw.out, hWl⟩
end Go.Proofs.YtadkjjpopmiceaaGreat
