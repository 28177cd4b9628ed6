/-
  TreeBack: a builder with the rows and spans that stand beside it; the arguments.
-/
import Derived.Test.YtadkjjpopmiceaaTbj
import Derived.Test.YtadkjjpopmiceaaTbe
import Derived.Test.YtadkjjpopmiceaaOwt
namespace Go.Proofs.Ytadkjjpopmiceaa
open Go.RowKit Go.Lib

/-- rows of twigs that came in. -/
def RwsAt (w : World) (v : Value) (L : List (Value × List Tw)) : Prop := RowsAt w 1 v (L.map fun p => [p.1]) ∧ ∀ p ∈ L, TwAt w p.1 p.2 ∧ (∀ t ∈ p.2, twOk t) ∧ p.2.length ≤ 140737488355328
theorem RwsAt.later {w w' : World} {v : Value} {L : List (Value × List Tw)} (h : RwsAt w v L) (hb : Below w.heap.size w w') : RwsAt w' v L := ⟨RowsAt.later h.1 hb, fun p hp => ⟨(h.2 p hp).1.later hb, (h.2 p hp).2⟩⟩
/-- spans that came in. -/
def SpsAt (w : World) (v : Value) (S : List (Int × Int)) : Prop := RowsAt w 2 v (S.map fun p => [.int .i64 p.1, .int .i64 p.2]) ∧ ∀ p ∈ S, p.2 ≤ 9223372036854775807
theorem SpsAt.later {w w' : World} {v : Value} {S : List (Int × Int)} (h : SpsAt w v S) (hb : Below w.heap.size w w') : SpsAt w' v S := ⟨RowsAt.later h.1 hb, h.2⟩
theorem RwsAt.cells {w : World} {ao : Option Addr} {n cap : Nat} {L : List (Value × List Tw)} (h : RwsAt w (.slice ao n cap) L) : n = L.length ∧ n ≤ cap ∧ cap ≤ maxLen ∧ ∀ i (hi : i < L.length), ∃ b off, ao = some ⟨b, off, none⟩ ∧ b < w.heap.size ∧ w.cell? ⟨b, off + i, none⟩ = some L[i].1 := by
  obtain ⟨⟨ao', b, off, cap', he, hl, hm, hn, ha, _, hc⟩, -⟩ := h
  simp only [Value.slice.injEq, List.length_map] at he hl hn ha hc
  obtain ⟨rfl, rfl, rfl⟩ := he
  refine ⟨rfl, hl, hm, fun i hi => ⟨b, off, (ha (by omega)).1, (ha (by omega)).2, ?_⟩⟩
  have := hc i hi 0 (by omega)
  simpa using this
theorem SpsAt.cells {w : World} {ao : Option Addr} {n cap : Nat} {S : List (Int × Int)} (h : SpsAt w (.slice ao n cap) S) : n = S.length ∧ n ≤ cap ∧ cap ≤ maxLen ∧ ∀ i (hi : i < S.length), ∃ b off, ao = some ⟨b, off, none⟩ ∧ b < w.heap.size ∧ w.cell? ⟨b, off + i * 2, none⟩ = some (.int .i64 S[i].1) ∧ w.cell? ⟨b, off + i * 2 + 1, none⟩ = some (.int .i64 S[i].2) := by
  obtain ⟨⟨ao', b, off, cap', he, hl, hm, hn, ha, _, hc⟩, -⟩ := h
  simp only [Value.slice.injEq, List.length_map] at he hl hn ha hc
  obtain ⟨rfl, rfl, rfl⟩ := he
  refine ⟨rfl, hl, hm, fun i hi => ⟨b, off, (ha (by omega)).1, (ha (by omega)).2, ?_⟩⟩
  have h0 := hc i hi 0 (by omega)
  have h1 := hc i hi 1 (by omega)
  exact ⟨by simpa using h0, by simpa using h1⟩
/-- a builder; rows and spans of the call's own beside it. -/
structure BkS (W0 wk : World) (b x : Nat) (v : Value) (l : List Tw) (peak : Nat) (R : List (Value × List Tw)) (K : List (Nat × Array Value)) : Prop where
  bu : BuI W0.heap.size wk b x v l 240 peak
  bl : Below W0.heap.size W0 wk
  rows : ∀ r ∈ R, TwOwn W0.heap.size wk r.1 r.2 ∧ ∀ g, r.1.ownBlock = some g → v.ownBlock ≠ some g
  kn : ∀ q ∈ K, wk.heap[q.1]? = some (.cells q.2 30 (0, 0))
theorem BkS.later {W0 wk wk' : World} {b x : Nat} {v : Value} {l : List Tw} {peak : Nat} {R : List (Value × List Tw)} {K : List (Nat × Array Value)} (h : BkS W0 wk b x v l peak R K) (hb : Below wk.heap.size wk wk') : BkS W0 wk' b x v l peak R K :=
  ⟨h.bu.later hb, h.bl.trans (hb.mono h.bl.size), fun r hr => ⟨(h.rows r hr).1.later hb, (h.rows r hr).2⟩, fun q hq => (hb.block _ (lt_of_block (h.kn q hq))).trans (h.kn q hq)⟩
theorem BkS.done {W0 wk wk' : World} {b x : Nat} {v : Value} {l l' : List Tw} {peak peak' : Nat} {R : List (Value × List Tw)} {K : List (Nat × Array Value)} (h : BkS W0 wk b x v l peak R K) (hn : BuN W0.heap.size wk b x v l' 240 peak' wk') : ∃ v', BkS W0 wk' b x v' l' peak' R K := by
  have hbl := hn.below h.bu
  obtain ⟨v', h1, h2, h3⟩ := hn
  refine ⟨v', h1, h.bl.trans hbl, fun r hr => ?_, fun q hq => ?_⟩
  · obtain ⟨ho, hd⟩ := h.rows r hr
    refine ⟨?_, fun g hg hv => ?_⟩
    · unfold TwOwn at ho ⊢
      refine h2.row ho (fun k hk hS => ?_)
      rcases hS with rfl | hS
      · exact own_ne' h.bu.ar.1 (by decide) ho hk
      · exact hd k hk hS
    · rcases h3 g hv with h4 | h4
      · exact hd g hg h4
      · have := (ho.lt g hg).2
        omega
  · refine h2.obj (h.kn q hq) (fun hS => ?_)
    rcases hS with hS | hS
    · have h5 := h.kn q hq
      rw [hS, h.bu.ar.1] at h5
      simp at h5
    · exact own_ne' (h.kn q hq) (by decide) h.bu.ar.2.1 hS
theorem BkS.add {W0 wk wk' : World} {b x : Nat} {v vr : Value} {l lr : List Tw} {peak : Nat} {R : List (Value × List Tw)} {K : List (Nat × Array Value)} (h : BkS W0 wk b x v l peak R K) (ho : TwOwn wk.heap.size wk' vr lr) (hb : Below wk.heap.size wk wk') : BkS W0 wk' b x v l peak ((vr, lr) :: R) K := by
  have h' := h.later hb
  refine ⟨h'.bu, h'.bl, fun r hr => ?_, h'.kn⟩
  rcases List.mem_cons.1 hr with rfl | hr
  · refine ⟨ownsRow_base ho h.bl.size, fun g hg hv => ?_⟩
    have h1 := (ho.lt g hg).1
    have h2 := (h.bu.ar.2.1.lt g hv).2
    omega
  · exact h'.rows r hr
theorem BkS.know {W0 wk : World} {b x : Nat} {v : Value} {l : List Tw} {peak : Nat} {R : List (Value × List Tw)} {K : List (Nat × Array Value)} (h : BkS W0 wk b x v l peak R K) (c : Array Value) : BkS W0 (wk.alloc (.cells c 30 (0, 0))) b x v l peak R ((wk.heap.size, c) :: K) := by
  obtain ⟨hb, hx⟩ := one_new wk (.cells c 30 (0, 0))
  have h' := h.later hb
  refine ⟨h'.bu, h'.bl, h'.rows, fun q hq => ?_⟩
  rcases List.mem_cons.1 hq with rfl | hq
  · exact hx
  · exact h'.kn q hq
theorem BkS.row {W0 wk : World} {b x : Nat} {v vr : Value} {l lr : List Tw} {peak : Nat} {R : List (Value × List Tw)} {K : List (Nat × Array Value)} (h : BkS W0 wk b x v l peak R K) (hm : (vr, lr) ∈ R) (hok : ∀ t ∈ lr, twOk t) (hl : lr.length ≤ 1000000) : TwRow wk vr lr := ⟨(h.rows _ hm).1.tw, hok, hl⟩
theorem BkS.free {W0 wk : World} {b x : Nat} {v : Value} {l : List Tw} {peak : Nat} {R : List (Value × List Tw)} {K : List (Nat × Array Value)} (h : BkS W0 wk b x v l peak R K) : BkS W0 wk b x v l peak [] [] := ⟨h.bu, h.bl, fun r hr => by simp at hr, fun q hq => by simp at hq⟩
abbrev BkN (W0 w' : World) (b x : Nat) (l : List Tw) (R : List (Value × List Tw)) (K : List (Nat × Array Value)) : Prop := ∃ v' pk', BkS W0 w' b x v' l pk' R K
theorem bkPut {W0 wk : World} {b x : Nat} {v vl : Value} {l l2 l' : List Tw} {c : Int} {peak : Nat} {R : List (Value × List Tw)} {K : List (Nat × Array Value)} (h : BkS W0 wk b x v l peak R K) (h2 : TwRow wk vl l2) (hl : l.length + l2.length ≤ 100000) (hp : bPut 240 l l2 = (c, l')) :
    Calls Try.prog 15 #[.pointer (some ⟨b, 0, none⟩), vl] wk fun e w' => e = .returned (.int .i64 c) ∧ BkN W0 w' b x l' R K := by
  have := buPut wk h.bu h2 hl
  rw [hp] at this
  exact this.mono fun e w' hh => ⟨hh.1, by obtain ⟨v', h1⟩ := h.done hh.2; exact ⟨v', _, h1⟩⟩
theorem bkWrap {W0 wk : World} {b x : Nat} {v : Value} {l l' : List Tw} {c : Int} {peak : Nat} {R : List (Value × List Tw)} {K : List (Nat × Array Value)} (n rule lev fr tz : Int) (h : BkS W0 wk b x v l peak R K) (hl : l.length + 1 ≤ 100000) (hto : tz ≤ 9223372036854775807) (hp : bWrap 240 l n rule lev fr tz = (c, l')) :
    Calls Try.prog 16 #[.pointer (some ⟨b, 0, none⟩), .int .i64 n, .int .i64 rule, .int .i64 lev, .agg #[.int .i64 fr, .int .i64 tz]] wk fun e w' => e = .returned (.int .i64 c) ∧ BkN W0 w' b x l' R K := by
  have := buWrap n rule lev fr tz wk h.bu hl hto
  rw [hp] at this
  exact this.mono fun e w' hh => ⟨hh.1, by obtain ⟨v', h1⟩ := h.done hh.2; exact ⟨v', _, h1⟩⟩
theorem bkBack {W0 wk : World} {b x : Nat} {v : Value} {l l' : List Tw} {c : Int} {peak : Nat} {R : List (Value × List Tw)} {K : List (Nat × Array Value)} (n : Int) (h : BkS W0 wk b x v l peak R K) (hp : bBack l n = (c, l')) :
    Calls Try.prog 20 #[.pointer (some ⟨b, 0, none⟩), .int .i64 n] wk fun e w' => e = .returned (.int .i64 c) ∧ BkN W0 w' b x l' R K := by
  have := buBack n wk h.bu
  rw [hp] at this
  exact this.mono fun e w' hh => ⟨hh.1, by obtain ⟨v', h1⟩ := h.done hh.2; exact ⟨v', _, h1⟩⟩
theorem bkSince {W0 wk : World} {b x : Nat} {v : Value} {l : List Tw} {peak : Nat} {R : List (Value × List Tw)} {K : List (Nat × Array Value)} (h : BkS W0 wk b x v l peak R K) :
    Calls Try.prog 17 #[.pointer (some ⟨b, 0, none⟩), .int .i64 0] wk fun e w' => ∃ vr, e = .returned (.tuple #[vr, .int .i64 0]) ∧ BkS W0 w' b x v l peak ((vr, l) :: R) K := by
  refine (buSince 0 wk h.bu).mono fun e w' hh => ?_
  obtain ⟨vr, h1, h2, h3⟩ := hh
  rw [if_pos (mark_zero h.bu.right)] at h1 h2
  exact ⟨vr, h1, h.add (by simpa using h2) h3⟩
/-- the same, whatever the builder has. -/
def BkE (W0 : World) (b x : Nat) (R : List (Value × List Tw)) (K : List (Nat × Array Value)) (u : World) : Prop := ∃ v l pk, BkS W0 u b x v l pk R K
theorem BkS.e {W0 wk : World} {b x : Nat} {v : Value} {l : List Tw} {peak : Nat} {R : List (Value × List Tw)} {K : List (Nat × Array Value)} (h : BkS W0 wk b x v l peak R K) : BkE W0 b x R K wk := ⟨_, _, _, h⟩
theorem cells_over {B : Nat} {w : World} {g n cap : Nat} {t : Tw} {l : List Tw} (h : TwOwn B w (.slice (some ⟨g, 0, none⟩) n cap) (t :: l)) (hn : n = l.length + 1) : w.cell? ⟨g, 2, none⟩ = some (.int .i64 t.fr) ∧ w.cell? ⟨g, 3, none⟩ = some (.int .i64 t.to) ∧ w.cell? ⟨g, 4, none⟩ = some (.int .i64 t.kids) := by
  unfold TwOwn at h
  rw [List.length_cons, ← hn] at h
  have := fun j hj => (own_cellC twc_len h 0 (by simp) j hj).1
  simp only [Nat.zero_mul, Nat.zero_add] at this
  exact ⟨this 2 (by omega), this 3 (by omega), this 4 (by omega)⟩
theorem BkE.cells {W0 u : World} {b x g n cap Y : Nat} {a c : Value} {t : Tw} {l : List Tw} {R : List (Value × List Tw)} {K : List (Nat × Array Value)} (h : BkE W0 b x ((.slice (some ⟨g, 0, none⟩) n cap, t :: l) :: R) ((Y, #[a, c]) :: K) u) (hn : n = l.length + 1) :
    (u.cell? ⟨g, 2, none⟩ = some (.int .i64 t.fr) ∧ u.cell? ⟨g, 3, none⟩ = some (.int .i64 t.to) ∧ u.cell? ⟨g, 4, none⟩ = some (.int .i64 t.kids)) ∧ u.cell? ⟨Y, 0, none⟩ = some a ∧ u.cell? ⟨Y, 1, none⟩ = some c := by
  obtain ⟨v, l', pk, h⟩ := h
  exact ⟨cells_over (h.rows _ (.head _)).1 hn, two_box (h.kn _ (.head _))⟩
end Go.Proofs.Ytadkjjpopmiceaa
