/-
  Deeds; Pick; size; a builder and the document's beside each other.
-/
import Derived.Test.YtadkjjpopmiceaaRfv
import Derived.Test.YtadkjjpopmiceaaTbe
import Derived.Test.YtadkjjpopmiceaaOwt
namespace Go.Proofs.Ytadkjjpopmiceaa
open Go.RowKit Go.Lib

/-- a number brought into 0 to n - 1. -/
def pickN (x n : Int) : Int := if x.tmod n < 0 then x.tmod n + n else x.tmod n
theorem pickN_range (x n : Int) (hn : 0 < n) : 0 ≤ pickN x n ∧ pickN x n < n := by
  have h1 := Int.tmod_lt_of_pos x hn
  have h2 := Int.lt_tmod_of_pos x hn
  unfold pickN
  split <;> omega
set_option maxHeartbeats 1000000 in
theorem pick_any (w : World) (x n : Int) (hn : 0 < n) (hn2 : n ≤ 1000000) :
    Calls Try.prog 59 #[.int .i64 x, .int .i64 n] w fun e w' => e = .returned (.int .i64 (pickN x n)) ∧ w = w' := by
  have h1 := Int.tmod_lt_of_pos x hn
  have h2 := Int.lt_tmod_of_pos x hn
  have hw : IntKind.i64.wrap (x.tmod n) = x.tmod n := IntWalk.i64_in _ (by omega)
  have hz : (n == 0) = false := by simp; omega
  have hz2 : decide (n = 0) = false := by simp; omega
  have hz3 : ¬ n < 1 := by omega
  by_cases h0 : x.tmod n < 0
  · have hw2 : IntKind.i64.wrap (x.tmod n + n) = x.tmod n + n := IntWalk.i64_in _ (by omega)
    have hp : pickN x n = x.tmod n + n := if_pos h0
    go_enter Try.func59, Try.ntmps59
    go_wp2
    go_ret
    first | exact ⟨rfl, rfl⟩ | exact ⟨congrArg (fun z => Ending.returned (.int .i64 z)) hp.symm, rfl⟩
  · have hp : pickN x n = x.tmod n := if_neg h0
    go_enter Try.func59, Try.ntmps59
    go_wp2
    go_ret
    first | exact ⟨rfl, rfl⟩ | exact ⟨congrArg (fun z => Ending.returned (.int .i64 z)) hp.symm, rfl⟩
/-- a deed. -/
structure Dd where
  what : Int
  mark : Int
  rule : Int
  lev : Int
  fr : Int
  tz : Int
  v : Value
  l : List Tw
def ddc (d : Dd) : List Value := [.int .i64 d.what, .int .i64 d.mark, .int .i64 d.rule, .int .i64 d.lev, .int .i64 d.fr, .int .i64 d.tz, d.v]
abbrev DdOk (w : World) (d : Dd) : Prop := TwAt w d.v d.l ∧ (∀ t ∈ d.l, twOk t) ∧ d.l.length ≤ 140737488355328 ∧ d.tz ≤ 9223372036854775807
/-- deeds that came in. -/
def DdsAt (w : World) (v : Value) (L : List Dd) : Prop := RowsAt w 7 v (L.map ddc) ∧ ∀ d ∈ L, DdOk w d
theorem DdsAt.later {w w' : World} {v : Value} {L : List Dd} (h : DdsAt w v L) (hb : Below w.heap.size w w') : DdsAt w' v L := ⟨RowsAt.later h.1 hb, fun d hd => ⟨(h.2 d hd).1.later hb, (h.2 d hd).2⟩⟩
theorem DdsAt.val {w : World} {v : Value} {L : List Dd} (h : DdsAt w v L) : ∃ ao cap, v = .slice ao L.length cap := by
  obtain ⟨ao, cap, h⟩ := RowsAt.val h.1
  exact ⟨ao, cap, by simpa using h⟩
theorem DdsAt.cells {w : World} {ao : Option Addr} {n cap : Nat} {L : List Dd} (h : DdsAt w (.slice ao n cap) L) : n = L.length ∧ n ≤ cap ∧ cap ≤ maxLen ∧ ∀ i (hi : i < L.length), ∃ b off, ao = some ⟨b, off, none⟩ ∧ b < w.heap.size ∧
    w.cell? ⟨b, off + i * 7, none⟩ = some (.int .i64 L[i].what) ∧ w.cell? ⟨b, off + i * 7 + 1, none⟩ = some (.int .i64 L[i].mark) ∧ w.cell? ⟨b, off + i * 7 + 2, none⟩ = some (.int .i64 L[i].rule) ∧ w.cell? ⟨b, off + i * 7 + 3, none⟩ = some (.int .i64 L[i].lev) ∧
    w.cell? ⟨b, off + i * 7 + 4, none⟩ = some (.int .i64 L[i].fr) ∧ w.cell? ⟨b, off + i * 7 + 5, none⟩ = some (.int .i64 L[i].tz) ∧ w.cell? ⟨b, off + i * 7 + 6, none⟩ = some L[i].v := by
  obtain ⟨⟨ao', b, off, cap', he, hl, hm, hn, ha, _, hc⟩, -⟩ := h
  simp only [Value.slice.injEq, List.length_map] at he hl hn ha hc
  obtain ⟨rfl, rfl, rfl⟩ := he
  refine ⟨rfl, hl, hm, fun i hi => ⟨b, off, (ha (by omega)).1, (ha (by omega)).2, ?_⟩⟩
  have h := fun j hj => hc i hi j hj
  simp only [List.getElem_map] at h
  exact ⟨h 0 (by omega), h 1 (by omega), h 2 (by omega), h 3 (by omega), h 4 (by omega), h 5 (by omega), h 6 (by omega)⟩
def sumD (l : List Dd) : Nat := (l.map fun d => d.l.length).sum
theorem sumD_take (l : List Dd) {k : Nat} (h : k < l.length) : sumD (l.take (k + 1)) = sumD (l.take k) + l[k].l.length := by
  unfold sumD
  rw [List.take_succ_eq_append_getElem h, List.map_append, List.sum_append]
  simp
theorem sumD_le (l : List Dd) (k : Nat) : sumD (l.take k) ≤ sumD l := by
  unfold sumD
  have := List.take_append_drop k l
  conv => rhs; rw [← this]
  rw [List.map_append, List.sum_append]
  omega
set_option maxHeartbeats 1000000 in
theorem law_size (w : World) (u : Value) (l : List Dd) (hu : DdsAt w u l) (h9 : l.length ≤ 140737488351232) :
    Calls Try.prog 22 #[u] w fun e w' => ∃ n : Nat, e = .returned (.int .i64 n) ∧ (n ≤ 120 → n = l.length + sumD l) ∧ w = w' := by
  have hok := Lib.hid hu.2
  obtain ⟨ao2, cap2, rfl⟩ := hu.val
  have Hc := Lib.hid hu.cells
  clear hu
  obtain ⟨N, hN⟩ : ∃ N, N = l.length := ⟨_, rfl⟩
  have HN := Lib.hid hN
  go_enter Try.func22, Try.ntmps22
  go_wp2
  rw [← hN]
  have h9' : N ≤ 140737488351232 := by omega
  clear hN h9
  go_loop [3, 4] (fun n i => ∃ k : Nat, k ≤ N ∧ i = .int .i64 k ∧ n = .int .i64 ((N + sumD (l.take k) : Nat) : Int) ∧ (k < N → True) ∧ N + sumD (l.take k) ≤ 422212465065984) (fun _ i => N - (intOf i).toNat)
  case atStart => exact ⟨0, by omega, rfl, by simp [sumD], fun _ => trivial, by simp [sumD]; omega⟩
  case round =>
    obtain ⟨k, hk, rfl, rfl, _, hb⟩ := hrel
    obtain ⟨S, hS⟩ : ∃ S, S = N + sumD (l.take k) := ⟨_, rfl⟩
    rw [← hS] at hb ⊢
    have HS := Lib.hid hS
    clear hS
    by_cases hlt : k < N
    · have hkI : (k : Int) < N := by omega
      by_cases hle : S ≤ 120
      · have hleI : (S : Int) ≤ 120 := by omega
        have hkl : k < l.length := by have := HN.out; omega
        obtain ⟨b2, off2, rfl, hbl, _, _, _, _, _, _, c6⟩ := Hc.out.2.2.2 k hkl
        obtain ⟨hat, _, hs, _⟩ := hok.out l[k] (List.getElem_mem hkl)
        have hsum := Lib.hid (sumD_take l hkl)
        obtain ⟨m, hm0⟩ : ∃ m, m = l[k].l.length := ⟨_, rfl⟩
        obtain ⟨ao, cap, hv⟩ := hat.val
        rw [hv] at c6
        rw [← hm0] at c6 hs
        have Hm0 := Lib.hid hm0
        clear hm0 hv hat
        have hadd : IntKind.i64.wrap ((S : Int) + m) = ((S + m : Nat) : Int) := by rw [IntWalk.i64_in _ (by omega)]; omega
        go_wp2
        go_round
        case rel =>
          refine ⟨k + 1, by omega, by go_num, ?_, fun _ => trivial, ?_⟩
          · rw [hsum.out, ← Hm0.out, ← Nat.add_assoc, ← HS.out]
            exact congrArg _ (by omega)
          · rw [hsum.out, ← Hm0.out, ← Nat.add_assoc, ← HS.out]
            omega
        case measure => simp [intOf] <;> omega
      · have hleI : ¬ (S : Int) ≤ 120 := by omega
        go_wp2
        go_ret
        exact ⟨S, rfl, fun h => by omega, rfl⟩
    · obtain rfl : k = N := by omega
      have hkI : ¬ (k : Int) < k := by omega
      go_wp2
      go_ret
      refine ⟨S, rfl, fun _ => ?_, rfl⟩
      rw [HS.out, HN.out, List.take_length]
/-- a builder and the document's, what else is watched beside them. -/
structure Bs (W0 wk : World) (b x : Nat) (v : Value) (lp : List Tw) (most pp rb : Nat) (vr : Value) (ld : List Tw) (pd : Nat) (K : List (Nat × Obj)) : Prop where
  bu : BuI W0.heap.size wk b x v lp most pp
  dc : DoB W0.heap.size wk rb vr ld most pd
  bl : Below W0.heap.size W0 wk
  ne : ∀ g, vr.ownBlock = some g → v.ownBlock ≠ some g
  kn : ∀ q ∈ K, wk.heap[q.1]? = some q.2 ∧ W0.heap.size ≤ q.1 ∧ q.1 ≠ b ∧ q.1 ≠ x ∧ v.ownBlock ≠ some q.1 ∧ q.1 ≠ rb ∧ vr.ownBlock ≠ some q.1
theorem Bs.later {W0 wk wk' : World} {b x : Nat} {v : Value} {lp : List Tw} {most pp rb : Nat} {vr : Value} {ld : List Tw} {pd : Nat} {K : List (Nat × Obj)} (h : Bs W0 wk b x v lp most pp rb vr ld pd K) (hb : Below wk.heap.size wk wk') : Bs W0 wk' b x v lp most pp rb vr ld pd K :=
  ⟨h.bu.later hb, h.dc.later hb, h.bl.trans (hb.mono h.bl.size), h.ne, fun q hq => ⟨(hb.block _ (lt_of_block (h.kn q hq).1)).trans (h.kn q hq).1, (h.kn q hq).2⟩⟩
theorem Bs.doc_off {W0 wk : World} {b x : Nat} {v : Value} {lp : List Tw} {most pp rb : Nat} {vr : Value} {ld : List Tw} {pd : Nat} {K : List (Nat × Obj)} (h : Bs W0 wk b x v lp most pp rb vr ld pd K) : rb ≠ b ∧ rb ≠ x ∧ v.ownBlock ≠ some rb ∧ vr.ownBlock ≠ some b ∧ vr.ownBlock ≠ some x := by
  have hd := h.dc.own
  unfold TwOwn at hd
  refine ⟨fun e => ?_, fun e => ?_, own_ne' h.dc.blk (by decide) h.bu.ar.2.1, own_ne' h.bu.blk (by decide) hd, own_ne' h.bu.ar.1 (by decide) hd⟩
  · have h1 := h.dc.blk
    rw [e, h.bu.blk] at h1
    simp at h1
  · have h1 := h.dc.blk
    rw [e, h.bu.ar.1] at h1
    simp at h1
theorem DoB.keep {B : Nat} {w w' : World} {rb : Nat} {v : Value} {l : List Tw} {most peak : Nat} {S : Nat → Prop} (h : DoB B w rb v l most peak) (hk : Keeps S w w') (h1 : ¬ S rb) (h2 : ∀ k, v.ownBlock = some k → ¬ S k) : DoB B w' rb v l most peak :=
  ⟨hk.obj h.blk h1, by have := h.own; unfold TwOwn at this ⊢; exact hk.row this h2, h.ok, h.len, h.pk, h.bb, Nat.le_trans h.bw hk.size⟩
theorem BuI.keep {B : Nat} {w w' : World} {b x : Nat} {v : Value} {l : List Tw} {most peak : Nat} {S : Nat → Prop} (h : BuI B w b x v l most peak) (hk : Keeps S w w') (h0 : ¬ S b) (h1 : ¬ S x) (h2 : ∀ k, v.ownBlock = some k → ¬ S k) : BuI B w' b x v l most peak :=
  ⟨hk.obj h.blk h0, h.ar.keeps hk h1 h2, h.right, h.ok, h.len, h.bb, h.bx, Nat.le_trans h.bw hk.size⟩
/-- behind a call of the builder. -/
theorem Bs.prog {W0 wk wk' : World} {b x : Nat} {v : Value} {lp lp' : List Tw} {most pp pp' rb : Nat} {vr : Value} {ld : List Tw} {pd : Nat} {K : List (Nat × Obj)} (h : Bs W0 wk b x v lp most pp rb vr ld pd K) (hn : BuN W0.heap.size wk b x v lp' most pp' wk') : ∃ v', Bs W0 wk' b x v' lp' most pp' rb vr ld pd K := by
  have hbl := hn.below h.bu
  obtain ⟨o1, o2, o3, o4, o5⟩ := h.doc_off
  obtain ⟨v', h1, h2, h3⟩ := hn
  have hdl := fun g hg => (show World.ownsRow _ _ _ _ _ _ _ from h.dc.own).lt g hg
  refine ⟨v', h1, h.dc.keep h2 (fun hS => ?_) (fun k hk hS => ?_), h.bl.trans hbl, fun g hg hv => ?_, fun q hq => ?_⟩
  · rcases hS with hS | hS
    · exact o2 hS
    · exact o3 hS
  · rcases hS with hS | hS
    · exact o5 (hS ▸ hk)
    · exact h.ne k hk hS
  · rcases h3 g hv with h4 | h4
    · exact h.ne g hg h4
    · have := (hdl g hg).2; omega
  · obtain ⟨k1, k2, k3, k4, k5, k6, k7⟩ := h.kn q hq
    refine ⟨h2.obj k1 (fun hS => ?_), k2, k3, k4, fun hv => ?_, k6, k7⟩
    · rcases hS with hS | hS
      · exact k4 hS
      · exact k5 hS
    · rcases h3 _ hv with h4 | h4
      · exact k5 h4
      · have := lt_of_block k1; omega
/-- behind a call of the document's. -/
theorem Bs.doc {W0 wk wk' : World} {b x : Nat} {v : Value} {lp : List Tw} {most pp rb : Nat} {vr : Value} {ld ld' : List Tw} {pd pd' : Nat} {K : List (Nat × Obj)} (h : Bs W0 wk b x v lp most pp rb vr ld pd K) (hn : DoN W0.heap.size wk rb vr ld' most pd' wk') : ∃ vr', Bs W0 wk' b x v lp most pp rb vr' ld' pd' K := by
  obtain ⟨o1, o2, o3, o4, o5⟩ := h.doc_off
  obtain ⟨vr', h1, h2, h3⟩ := hn
  have hbl := h2.below h.dc.bw (fun k hk => by subst hk; exact h.dc.bb)
  refine ⟨vr', h.bu.keep h2 (fun e => o1 e.symm) (fun e => o2 e.symm) (fun k hk e => o3 (e ▸ hk)), h1, h.bl.trans hbl, fun g hg hv => ?_, fun q hq => ?_⟩
  · rcases h3 g hg with h4 | h4
    · exact h.ne g h4 hv
    · have := (h.bu.ar.2.1.lt g hv).2; omega
  · obtain ⟨k1, k2, k3, k4, k5, k6, k7⟩ := h.kn q hq
    refine ⟨h2.obj k1 k6, k2, k3, k4, k5, k6, fun hv => ?_⟩
    rcases h3 _ hv with h4 | h4
    · exact k7 h4
    · have := lt_of_block k1; omega
/-- new memory is watched. -/
theorem Bs.watch {W0 wk wk' : World} {b x : Nat} {v : Value} {lp : List Tw} {most pp rb : Nat} {vr : Value} {ld : List Tw} {pd : Nat} {K : List (Nat × Obj)} (h : Bs W0 wk b x v lp most pp rb vr ld pd K) (hb : Below wk.heap.size wk wk') {g : Nat} {o : Obj} (hg : wk'.heap[g]? = some o) (hn : wk.heap.size ≤ g) : Bs W0 wk' b x v lp most pp rb vr ld pd ((g, o) :: K) := by
  have h' := h.later hb
  refine ⟨h'.bu, h'.dc, h'.bl, h'.ne, fun q hq => ?_⟩
  rcases List.mem_cons.1 hq with rfl | hq
  · have h1 := lt_of_block h.bu.blk
    have h2 := lt_of_block h.bu.ar.1
    have h3 := lt_of_block h.dc.blk
    refine ⟨hg, Nat.le_trans h.bl.size hn, by simp only; omega, by simp only; omega, fun e => ?_, by simp only; omega, fun e => ?_⟩
    · have := (h.bu.ar.2.1.lt _ e).2; simp only at this; omega
    · have := ((show World.ownsRow _ _ _ _ _ _ _ from h.dc.own).lt _ e).2; simp only at this; omega
  · exact h'.kn q hq
/-- a watched block is written: no more watched. -/
theorem Bs.over {W0 wk wk' : World} {b x : Nat} {v : Value} {lp : List Tw} {most pp rb : Nat} {vr : Value} {ld : List Tw} {pd : Nat} {K : List (Nat × Obj)} {g : Nat} {o : Obj} (h : Bs W0 wk b x v lp most pp rb vr ld pd ((g, o) :: K)) (hk : Keeps (fun k => k = g) wk wk') (hK : ∀ q ∈ K, q.1 ≠ g) : Bs W0 wk' b x v lp most pp rb vr ld pd K := by
  obtain ⟨k1, k2, k3, k4, k5, k6, k7⟩ := h.kn (g, o) (.head _)
  simp only at k2 k3 k4 k5 k6 k7
  refine ⟨h.bu.keep hk (fun e => k3 e.symm) (fun e => k4 e.symm) (fun k hk e => k5 (e ▸ hk)), h.dc.keep hk (fun e => k6 e.symm) (fun k hk e => k7 (e ▸ hk)), h.bl.trans (hk.below h.bl.size (fun k e => by subst e; exact k2)), h.ne, fun q hq => ?_⟩
  obtain ⟨q1, q2⟩ := h.kn q (.tail _ hq)
  exact ⟨hk.obj q1 (hK q hq), q2⟩
theorem Bs.free {W0 wk : World} {b x : Nat} {v : Value} {lp : List Tw} {most pp rb : Nat} {vr : Value} {ld : List Tw} {pd : Nat} {K : List (Nat × Obj)} (h : Bs W0 wk b x v lp most pp rb vr ld pd K) : Bs W0 wk b x v lp most pp rb vr ld pd [] := ⟨h.bu, h.dc, h.bl, h.ne, fun q hq => by simp at hq⟩
end Go.Proofs.Ytadkjjpopmiceaa
