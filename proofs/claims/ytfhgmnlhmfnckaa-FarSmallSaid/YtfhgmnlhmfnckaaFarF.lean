/-
  Package far: a record's methods: a part ends; new records.
-/
import Derived.Test.YtfhgmnlhmfnckaaFarE
import Derived.Test.YtfhgmnlhmfnckaaEqC
import Derived.Deep.DeepCutAuto
namespace Go.Proofs.Ytfhgmnlhmfnckaa
open Go.RowKit Go.Lib

theorem slice_to (t : TypeId) (hu : Try.prog.underlying t = some (.slice (Try.prog.elem t))) (sz : Nat) (hs : ∀ w, (sizeOf (Try.prog.elem t)).run Try.prog w = .ok sz w) (g n m cap : Nat) (h : n ≤ cap) (w : World) :
    (Instr.slice t (.slice (some ⟨g, 0, none⟩) m cap) none (some (.int .i64 n)) none).run Try.prog w = .ok (.slice (some ⟨g, 0, none⟩) n cap) w := by
  rw [run_slice_h (P := Try.prog) (w := w) t (some ⟨g, 0, none⟩) m cap hu .i64 n (by omega) (by omega), hs]
  simp [Result.andThen, sliced, Addr.add]

/-- what is known of a world stands for it. -/
theorem gen_world {P : Program} {c : Code} {Q : Exit → Act → World → Prop} {a : Act} {w : World} (S : World → Prop) (h : S w) (k : ∀ w', S w' → c.wp P Q a w') : c.wp P Q a w := k w h

theorem word_none : word clNone 0 = 0 ∧ word clNone 1 = 0 ∧ word clNone 2 = 0 ∧ word clNone 3 = 0 := by
  have h := clc_none
  simp only [clc, Array.mk.injEq, List.cons.injEq, Value.int.injEq, and_true] at h
  omega
theorem f3_end (w : World) (m a : Nat) (v : Value) (Z P : Obj) (h : a ≠ w.heap.size) : ((((w.alloc Z).drewN m).setCell ⟨a, 0, none⟩ v).alloc P).drew.heap[w.heap.size]? = some Z := by
  show ((((w.alloc Z).drewN m).setCell ⟨a, 0, none⟩ v).alloc P).heap[w.heap.size]? = some Z
  rw [Below.heap_alloc _ _ _ (by simp [World.setCell, World.drewN]), Below.heap_setCell _ _ _ _ (by simpa using fun e => h e.symm)]
  exact heap_alloc_new w Z
theorem f4_end (w : World) (m a : Nat) (v : Value) (Z P : Obj) : ((((w.alloc Z).drewN m).setCell ⟨a, 0, none⟩ v).alloc P).drew.heap[w.heap.size + 1]? = some P := by
  have h := heap_alloc_new (((w.alloc Z).drewN m).setCell ⟨a, 0, none⟩ v) P
  have hs : (((w.alloc Z).drewN m).setCell ⟨a, 0, none⟩ v).heap.size = w.heap.size + 1 := by simp [World.setCell, World.drewN]
  rw [hs] at h
  exact h
/-- a part that has ended goes into the one around it: what the call leaves. -/
def EndPost (H : Nat → Prop) (a : Nat) (init : List Part) (q : Part) (p : Part) (W : List UInt8) (w : World) (w' : World) : Prop := Far H w' a (init ++ [endP q p]) W ∧ Keeps H w w'

theorem five_cells {w : World} {x : Nat} {a b c d e : Value} {t : TypeId} (h : w.heap[x]? = some (.cells #[a, b, c, d, e] t (0, 0))) :
    (w.cell? ⟨x, 0, none⟩ = some a ∧ w.frozen? ⟨x, 0, none⟩ = false) ∧ (w.cell? ⟨x, 1, none⟩ = some b ∧ w.frozen? ⟨x, 1, none⟩ = false) ∧ (w.cell? ⟨x, 2, none⟩ = some c ∧ w.frozen? ⟨x, 2, none⟩ = false) ∧ (w.cell? ⟨x, 3, none⟩ = some d ∧ w.frozen? ⟨x, 3, none⟩ = false) ∧ w.cell? ⟨x, 4, none⟩ = some e ∧ w.frozen? ⟨x, 4, none⟩ = false :=
  ⟨block_cell' h 0, block_cell' h 1, block_cell' h 2, block_cell' h 3, block_cell' h 4⟩
theorem store5 {w : World} {x : Nat} {a b c d e u0 u1 u2 u3 u4 : Value} {t : TypeId} {fr : Nat × Nat} (h : w.heap[x]? = some (.cells #[a, b, c, d, e] t fr)) :
    (((((w.setCell ⟨x, 0, none⟩ u0).setCell ⟨x, 1, none⟩ u1).setCell ⟨x, 2, none⟩ u2).setCell ⟨x, 3, none⟩ u3).setCell ⟨x, 4, none⟩ u4).heap[x]? = some (.cells #[u0, u1, u2, u3, u4] t fr) :=
  block_setCell' (block_setCell' (block_setCell' (block_setCell' (block_setCell' h))))

theorem end_close {H : Nat → Prop} {a : Nat} {ps : List Part} {W : List UInt8} {w w2 w3 : World} (h1 : ∀ k, H k → k < w.heap.size) (hF : Far H w2 a ps W) (hK : Keeps H w w2) (hk : Keeps (fun k => k = w.heap.size) w2 w3) : Far H w3 a ps W ∧ Keeps H w w3 := by
  refine ⟨hF.keep hk (fun k hk' e => by have := h1 k hk'; omega), ?_⟩
  exact ⟨hk.os.trans hK.os, hk.tape.trans hK.tape, hk.output.trans hK.output, Nat.le_trans hK.size hk.size, fun k hl hn => (hk.block k (Nat.lt_of_lt_of_le hl hK.size) (by omega)).trans (hK.block k hl hn)⟩
theorem keeps_store5 (w : World) (x : Nat) (u0 u1 u2 u3 u4 : Value) : Keeps (fun k => k = x) w (((((w.setCell ⟨x, 0, none⟩ u0).setCell ⟨x, 1, none⟩ u1).setCell ⟨x, 2, none⟩ u2).setCell ⟨x, 3, none⟩ u3).setCell ⟨x, 4, none⟩ u4) :=
  (((((Keeps.refl (fun k => k = x) w).setCell (p := ⟨x, 0, none⟩) rfl u0).setCell (p := ⟨x, 1, none⟩) rfl u1).setCell (p := ⟨x, 2, none⟩) rfl u2).setCell (p := ⟨x, 3, none⟩) rfl u3).setCell (p := ⟨x, 4, none⟩) rfl u4

set_option maxHeartbeats 2000000 in
theorem far_end_fresh {H : Nat → Prop} {a : Nat} {init : List Part} {q : Part} {W : List UInt8} (w : World) (h : Far H w a (init ++ [q] ++ [((-1, clNone) : Part)]) W) (hn : init.length ≤ 900000) :
    Calls Try.prog 42 #[.pointer (some ⟨a, 0, none⟩)] w fun e w' => e = .returned (.agg #[.int .i64 (-1), .int .u64 0, .int .u64 0, .int .u64 0, .int .u64 0]) ∧ EndPost H a init q ((-1, clNone) : Part) W w w' := by
  have hq := eqc_9999
  have HF := Lib.hid h
  have hal := h.1 a h.2.1
  obtain ⟨g, cap, wv, cs, ha, hc, hm, hg, hcs, hHg, _, _⟩ := h.open
  have hlen : (init ++ [q]).length = init.length + 1 := by simp
  have hgl := h.1 g hHg
  obtain ⟨⟨d0, _⟩, ⟨d1, _⟩, ⟨d2, _⟩, ⟨d3, _⟩, ⟨d4, _⟩⟩ := part_cells hg hcs
  rw [hlen] at hc ha d0 d1 d2 d3 d4
  obtain ⟨n0, n1, n2, n3⟩ := word_none
  simp only [n0, n1, n2, n3] at d1 d2 d3 d4
  clear n0 n1 n2 n3
  obtain ⟨n, hn1⟩ : ∃ n, n = init.length + 1 := ⟨_, rfl⟩
  have Hn := Lib.hid hn1
  rw [← hn1] at hc ha d0 d1 d2 d3 d4
  obtain ⟨c0, f0⟩ := block_cell' ha 0
  have hc0 : w.cell? ⟨a, 0, none⟩ = some (.slice (some ⟨g, 0, none⟩) (n + 1) cap) := c0
  have hlast := Lib.hid (fun w1 (hb : Below w.heap.size w w1) => far_last w1 a g n cap (cell_later hb hc0) hc hm)
  have hnl : n ≤ 1000000 := by omega
  have h2s : n ≤ cap := by omega
  have hsub2 : IntKind.i64.wrap (n : Int) = n := IntWalk.i64_in _ (by omega)
  have hsl := fun wq => slice_to 64 Try.underlying64 5 (fun _ => by kernel_rfl) g n (n + 1) cap h2s wq
  clear hg hcs ha c0 h hlen hn1 hn
  go_enter Try.func42, Try.ntmps42
  go_upto_region 2 with (go_at_call 39; refine (hlast.out _ ((Below.refl _ _).alloc (Nat.le_refl _) _)).mono ?_; rintro e w' ⟨rfl, m, rfl⟩)
  go_cut [19] (fun _ w1 => Far H w1 a (init ++ [q]) W ∧ Keeps H w w1 ∧ w1.heap[w.heap.size]? = some (.cells #[.int .i64 0, .int .u64 0, .int .u64 0, .int .u64 0, .int .u64 0] 62 (0, 0)) ∧ w1.heap[w.heap.size + 1]? = some (.cells #[.int .i64 (-1), .int .u64 0, .int .u64 0, .int .u64 0, .int .u64 0] 62 (0, 0)))
  case first =>
    go_region_with (fail)
    all_goals go_wp2_with fail
    all_goals
      go_meet
      obtain ⟨hs1, hs2⟩ := shrink_close (HF.out.later (below_draws ((Below.refl w.heap.size w).alloc (Nat.le_refl _) (.cells #[.int .i64 0, .int .u64 0, .int .u64 0, .int .u64 0, .int .u64 0] 62 (0, 0))) m)) (g := g) (cap := cap) (by have := Hn.out; rw [List.length_append, List.length_singleton, ← this]; exact cell_later (below_draws ((Below.refl w.heap.size w).alloc (Nat.le_refl _) _) m) hc0)
      have hlq : (init ++ [q]).length = n := by have := Hn.out; simp; omega
      rw [hlq] at hs1 hs2
      exact ⟨hs1.later (((Below.refl _ _).alloc (Nat.le_refl _) _).drew), (((((Keeps.refl H w).alloc _).drewN m).trans hs2).alloc _).drew, f3_end w m a _ _ _ (by omega), f4_end w m a _ _ _⟩
  case rest =>
    clear hsl hsub2 h2s hlast d0 d1 d2 d3 d4 hc0 f0
    obtain ⟨hF1, hK1, b0, b1⟩ := hcut
    obtain ⟨w1, rfl⟩ : ∃ w1 : World, w1 = wc := ⟨_, rfl⟩
    have hwl := lt_of_block b0
    have hwl1 := lt_of_block b1
    have hal1 := hF1.1 a hF1.2.1
    obtain ⟨⟨x0, z0⟩, ⟨x1, z1⟩, ⟨x2, z2⟩, ⟨x3, z3⟩, ⟨x4, z4⟩⟩ := five_cells b1
    have HF1 := Lib.hid hF1
    have HK1 := Lib.hid hK1
    have B0 := Lib.hid b0
    have B1 := Lib.hid b1
    clear hF1 hK1 b0 b1
    go_upto_region 3 with (fail)
    go_cut [24] (fun b w2 => b = .bool false ∧ Below w1.heap.size w1 w2)
    case first =>
      go_region_with (go_at_call 35; refine (far_fresh _).mono ?_; rintro e w2 ⟨rfl, hb2⟩; have hbb : Below w1.heap.size w1 w2 := (Below.refl w1.heap.size w1).drew.trans hb2; obtain ⟨⟨y0, _⟩, ⟨y1, _⟩, ⟨y2, _⟩, ⟨y3, _⟩, ⟨y4, _⟩⟩ := five_cells ((hbb.block _ hwl1).trans B1.out))
      all_goals go_wp2_with fail
      all_goals
        go_meet
        first | exact ⟨rfl, hbb⟩ | exact ⟨rfl, hbb.drew⟩
    case rest =>
      obtain ⟨rfl, hbb⟩ := hcut
      obtain ⟨w2, rfl⟩ : ∃ w2 : World, w2 = wc := ⟨_, rfl⟩
      have C0 := (hbb.block _ hwl).trans B0.out
      have C1 := (hbb.block _ hwl1).trans B1.out
      have HB := Lib.hid hbb
      have HC0 := Lib.hid C0
      have HC1 := Lib.hid C1
      obtain ⟨⟨y0, _⟩, ⟨y1, _⟩, ⟨y2, _⟩, ⟨y3, _⟩, ⟨y4, _⟩⟩ := five_cells C1
      obtain ⟨⟨_, f0⟩, ⟨_, f1⟩, ⟨_, f2⟩, ⟨_, f3⟩, ⟨_, f4⟩⟩ := five_cells HC0.out
      clear C0 C1 hbb
      go_wp2_with fail
      refine bodyPost_ret (results_cell_row rfl _ _ w.heap.size _ _ _ _ rfl (store5 HC0.out) Try.underlying62 rfl Try.size_part) rfl ⟨rfl, ?_⟩
      unfold EndPost endP
      rw [if_pos (by decide)]
      exact end_close HF.out.1 (HF1.out.later HB.out) (HK1.out.trans (Keeps.ofNew HB.out H)) (keeps_store5 _ _ _ _ _ _ _)

set_option maxHeartbeats 2000000 in
theorem far_end_far {H : Nat → Prop} {a : Nat} {init : List Part} {q p : Part} {W : List UInt8} (w : World) (h : Far H w a (init ++ [q] ++ [p]) W) (hn : init.length ≤ 900000) (hp : 0 ≤ p.1) :
    Calls Try.prog 42 #[.pointer (some ⟨a, 0, none⟩)] w fun e w' => e = .returned (.agg #[.int .i64 p.1, .int .u64 (word p.2 0), .int .u64 (word p.2 1), .int .u64 (word p.2 2), .int .u64 (word p.2 3)]) ∧ EndPost H a init q p W w w' := by
  have hq := eqc_9999
  have HF := Lib.hid h
  have hal := h.1 a h.2.1
  obtain ⟨g, cap, wv, cs, ha, hc, hm, hg, hcs, hHg, _, _⟩ := h.open
  have hlen : (init ++ [q]).length = init.length + 1 := by simp
  have hgl := h.1 g hHg
  obtain ⟨⟨d0, _⟩, ⟨d1, _⟩, ⟨d2, _⟩, ⟨d3, _⟩, ⟨d4, _⟩⟩ := part_cells hg hcs
  rw [hlen] at hc ha d0 d1 d2 d3 d4
  have hpne : (p.1 == (-1 : Int)) = false := by simp; omega
  obtain ⟨n, hn1⟩ : ∃ n, n = init.length + 1 := ⟨_, rfl⟩
  have Hn := Lib.hid hn1
  rw [← hn1] at hc ha d0 d1 d2 d3 d4
  obtain ⟨c0, f0⟩ := block_cell' ha 0
  have hc0 : w.cell? ⟨a, 0, none⟩ = some (.slice (some ⟨g, 0, none⟩) (n + 1) cap) := c0
  have hlast := Lib.hid (fun w1 (hb : Below w.heap.size w w1) => far_last w1 a g n cap (cell_later hb hc0) hc hm)
  have hnl : n ≤ 1000000 := by omega
  have h2s : n ≤ cap := by omega
  have hsub2 : IntKind.i64.wrap (n : Int) = n := IntWalk.i64_in _ (by omega)
  have hsl := fun wq => slice_to 64 Try.underlying64 5 (fun _ => by kernel_rfl) g n (n + 1) cap h2s wq
  clear hg hcs ha c0 h hlen hn1 hn
  go_enter Try.func42, Try.ntmps42
  go_upto_region 2 with (go_at_call 39; refine (hlast.out _ ((Below.refl _ _).alloc (Nat.le_refl _) _)).mono ?_; rintro e w' ⟨rfl, m, rfl⟩)
  go_cut [19] (fun _ w1 => Far H w1 a (init ++ [q]) W ∧ Keeps H w w1 ∧ w1.heap[w.heap.size]? = some (.cells #[.int .i64 0, .int .u64 0, .int .u64 0, .int .u64 0, .int .u64 0] 62 (0, 0)) ∧ w1.heap[w.heap.size + 1]? = some (.cells #[.int .i64 p.1, .int .u64 (word p.2 0), .int .u64 (word p.2 1), .int .u64 (word p.2 2), .int .u64 (word p.2 3)] 62 (0, 0)))
  case first =>
    go_region_with (fail)
    all_goals go_wp2_with fail
    all_goals
      go_meet
      obtain ⟨hs1, hs2⟩ := shrink_close (HF.out.later (below_draws ((Below.refl w.heap.size w).alloc (Nat.le_refl _) (.cells #[.int .i64 0, .int .u64 0, .int .u64 0, .int .u64 0, .int .u64 0] 62 (0, 0))) m)) (g := g) (cap := cap) (by have := Hn.out; rw [List.length_append, List.length_singleton, ← this]; exact cell_later (below_draws ((Below.refl w.heap.size w).alloc (Nat.le_refl _) _) m) hc0)
      have hlq : (init ++ [q]).length = n := by have := Hn.out; simp; omega
      rw [hlq] at hs1 hs2
      exact ⟨hs1.later (((Below.refl _ _).alloc (Nat.le_refl _) _).drew), (((((Keeps.refl H w).alloc _).drewN m).trans hs2).alloc _).drew, f3_end w m a _ _ _ (by omega), f4_end w m a _ _ _⟩
  case rest =>
    clear hsl hsub2 h2s hlast d0 d1 d2 d3 d4 hc0 f0
    obtain ⟨hF1, hK1, b0, b1⟩ := hcut
    obtain ⟨w1, rfl⟩ : ∃ w1 : World, w1 = wc := ⟨_, rfl⟩
    have hwl := lt_of_block b0
    have hwl1 := lt_of_block b1
    have hal1 := hF1.1 a hF1.2.1
    obtain ⟨⟨x0, z0⟩, ⟨x1, z1⟩, ⟨x2, z2⟩, ⟨x3, z3⟩, ⟨x4, z4⟩⟩ := five_cells b1
    have HF1 := Lib.hid hF1
    have HK1 := Lib.hid hK1
    have B0 := Lib.hid b0
    have B1 := Lib.hid b1
    clear hF1 hK1 b0 b1
    go_upto_region 3 with (fail)
    go_cut [24] (fun b w2 => b = .bool true ∧ Below w1.heap.size w1 w2)
    case first =>
      go_region_with (go_at_call 35; refine (far_fresh _).mono ?_; rintro e w2 ⟨rfl, hb2⟩; have hbb : Below w1.heap.size w1 w2 := (Below.refl w1.heap.size w1).drew.trans hb2; obtain ⟨⟨y0, _⟩, ⟨y1, _⟩, ⟨y2, _⟩, ⟨y3, _⟩, ⟨y4, _⟩⟩ := five_cells ((hbb.block _ hwl1).trans B1.out))
      all_goals go_wp2_with fail
      all_goals
        go_meet
        first | exact ⟨rfl, hbb⟩ | exact ⟨rfl, hbb.drew⟩
    case rest =>
      obtain ⟨rfl, hbb⟩ := hcut
      obtain ⟨w2, rfl⟩ : ∃ w2 : World, w2 = wc := ⟨_, rfl⟩
      have C0 := (hbb.block _ hwl).trans B0.out
      have C1 := (hbb.block _ hwl1).trans B1.out
      have HB := Lib.hid hbb
      have HC0 := Lib.hid C0
      have HC1 := Lib.hid C1
      obtain ⟨⟨y0, _⟩, ⟨y1, _⟩, ⟨y2, _⟩, ⟨y3, _⟩, ⟨y4, _⟩⟩ := five_cells C1
      clear C0 C1 hbb
      obtain ⟨_, _, _, _, _, _, _, hl3, hm3⟩ := (HF1.out.later HB.out).miss p.1 p.2
      have Hl3 := Lib.hid hl3
      unfold clv clc at hm3
      have Hm3 := Lib.hid hm3
      clear hl3 hm3
      go_upto_region 4 with (fail)
      go_cut [31] (fun _ w4 => Far H w4 a (init ++ [missP q p.1 p.2]) W ∧ Keeps H w2 w4)
      case first =>
        go_region_with (first
          | (go_at_call 39; refine (Hl3.out _ (by repeat (first | exact Below.refl _ _ | refine Below.drew ?_ | refine below_draws ?_ _))).mono ?_; rintro e w'' ⟨rfl, m3, rfl⟩)
          | (go_at_call 40; refine (Hm3.out _ (by repeat (first | exact Below.refl _ _ | refine Below.drew ?_ | refine below_draws ?_ _))).mono ?_; rintro e w4 ⟨rfl, hF4, hK4⟩; have HF4 := Lib.hid hF4; have HK4 := Lib.hid hK4; clear hF4 hK4))
        all_goals go_wp2_with fail
        all_goals
          go_meet
          refine ⟨HF4.out, ?_⟩
          first | exact HK4.out | exact (Keeps.refl _ _).drew.trans HK4.out | exact ((Keeps.refl _ _).drewN _).trans HK4.out | exact ((Keeps.refl _ _).drew.drewN _).trans HK4.out | exact ((Keeps.refl _ _).drewN _).drew.trans HK4.out
      case rest =>
        obtain ⟨hF4, hK4⟩ := hcut
        obtain ⟨w4, rfl⟩ : ∃ w4 : World, w4 = wc := ⟨_, rfl⟩
        have D0 := hK4.obj HC0.out (fun h => by have := HF.out.1 _ h; omega)
        have D1 := hK4.obj HC1.out (fun h => by have := HF.out.1 _ h; omega)
        obtain ⟨⟨v0, _⟩, ⟨v1, _⟩, ⟨v2, _⟩, ⟨v3, _⟩, ⟨v4, _⟩⟩ := five_cells D1
        obtain ⟨⟨_, f0⟩, ⟨_, f1⟩, ⟨_, f2⟩, ⟨_, f3⟩, ⟨_, f4⟩⟩ := five_cells D0
        have HD0 := Lib.hid D0
        have HF4 := Lib.hid hF4
        have HK4 := Lib.hid hK4
        clear D0 D1 hF4 hK4
        go_wp2_with fail
        refine bodyPost_ret (results_cell_row rfl _ _ w.heap.size _ _ _ _ rfl (store5 HD0.out) Try.underlying62 rfl Try.size_part) rfl ⟨rfl, ?_⟩
        unfold EndPost endP
        rw [if_neg (by omega)]
        exact end_close HF.out.1 HF4.out ((HK1.out.trans (Keeps.ofNew HB.out H)).trans HK4.out) (keeps_store5 _ _ _ _ _ _ _)

end Go.Proofs.Ytfhgmnlhmfnckaa
