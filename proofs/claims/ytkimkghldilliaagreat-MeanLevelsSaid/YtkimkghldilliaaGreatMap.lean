/-
  A map that is keyed by pairs of numbers: its entries in their order; what is looked up, put, let go.
-/
import Derived.Test.YtkimkghldilliaaGreatCat
import Derived.Test.YtkimkghldilliaaGreatOwg
import Derived.DeepKeys4
import Derived.Maps.Keyed
import Derived.Maps.OwnSet
namespace Go.Proofs.YtkimkghldilliaaGreat
open Go.RowKit Go.Maps Go.ChangeMaps

theorem Tryz.zeroFound : Tryz.t177.zero = some (.agg #[.bool false, .int .i64 0, .int .i64 0, .slice none 0 0]) := by kernel_rfl
theorem Tryz.keyPair : Tryz.prog.keyType 175 = true := by kernel_rfl
set_option maxRecDepth 100000 in
theorem pair_law : Keyed Tryz.prog 175 := Keyed.of_law (deep_law_laid Tryz.laidOut (m := Tryz.prog.types.size + 1) (by decide +kernel) (by decide +kernel) Tryz.keyPair (by kernel_rfl))
abbrev Pr := Int × Int
def pkv (p : Pr) : Value := .agg #[.int .i64 p.1, .int .i64 p.2]
def W64 (p : Pr) : Prop := (Lit.int .i64 p.1).wf = true ∧ (Lit.int .i64 p.2).wf = true
theorem pkv_inj {p q : Pr} (h : pkv p = pkv q) : p = q := by
  simp [pkv] at h
  exact Prod.ext h.1 h.2
set_option maxRecDepth 100000 in
theorem pkv_key {p : Pr} (h : W64 p) : ∃ l, keyOf Tryz.prog 175 (pkv p) = some l := by
  obtain ⟨h1, h2⟩ := h
  have hf : (pkv p).formed Tryz.prog 175 = true := by kernel_rfl
  have hL : ∃ ls, Tryz.prog.keyLits (Tryz.prog.types.size + 1) 175 (pkv p).cells.toList = some ls := by
    obtain ⟨m, hm⟩ : ∃ m, Tryz.prog.types.size = m + 1 := ⟨_, (Nat.succ_pred_eq_of_pos (by decide +kernel)).symm⟩
    rw [hm]
    have e1 : ∀ n : Int, (Lit.int .i64 n).wf = true → Tryz.prog.keyLits (m + 1) 3 [.int .i64 n] = some [.int .i64 n] := fun n hn => by
      unfold Program.keyLits
      simp [Tryz.underlying3, hn]
    unfold Program.keyLits
    simp [Tryz.underlying175, pkv, Value.cells, e1 _ h1, e1 _ h2]
    have c1 : Tryz.prog.cellsOf 175 = 2 := by kernel_rfl
    simp [c1, Tryz.cells3, e1 _ h1, e1 _ h2]
  obtain ⟨ls, hls⟩ := hL
  refine ⟨.string (keyBytes ls), ?_⟩
  unfold keyOf
  simp only [Tryz.underlying175, Tryz.keyPair, hf, hls]
  simp

/-- block b is a map of these entries, in this order. -/
def MapIs (w : World) (b : Nat) (L : List (Pr × Value)) : Prop :=
  ∃ es clock, w.heap[b]? = some (.map es clock) ∧ es.toList.map (fun e : MapEntry => (e.key, e.val)) = L.map fun x => (pkv x.1, x.2)

theorem MapIs.lt {w : World} {b : Nat} {L : List (Pr × Value)} (h : MapIs w b L) : b < w.heap.size := by
  obtain ⟨es, clock, hb, _⟩ := h
  exact lt_of_block hb
theorem MapIs.keeps {S : Nat → Prop} {w w' : World} {b : Nat} {L : List (Pr × Value)} (h : MapIs w b L) (hk : Keeps S w w') (hn : ¬ S b) : MapIs w' b L := by
  obtain ⟨es, clock, hb, he⟩ := h
  exact ⟨es, clock, hk.obj hb hn, he⟩

theorem map_find {w : World} {es : Array MapEntry} {L : List (Pr × Value)} (he : es.toList.map (fun e : MapEntry => (e.key, e.val)) = L.map fun x => (pkv x.1, x.2)) (hw : ∀ x ∈ L, W64 x.1) {p : Pr} (hp : W64 p) :
    ((Instr.findKey 175 (pkv p) es.toList).run Tryz.prog w = .ok none w ∧ ∀ x ∈ L, x.1 ≠ p) ∨
    ∃ j v, (Instr.findKey 175 (pkv p) es.toList).run Tryz.prog w = .ok (some (j, v)) w ∧ L[j]? = some (p, v) ∧ ∃ e, es[j]? = some e ∧ e.key = pkv p := by
  obtain ⟨l, hl⟩ := pkv_key hp
  have hk : ∀ e ∈ es.toList, ∃ l, keyOf Tryz.prog 175 e.key = some l := by
    intro e hm
    have : (e.key, e.val) ∈ L.map fun x => (pkv x.1, x.2) := he ▸ List.mem_map.2 ⟨e, hm, rfl⟩
    obtain ⟨x, hx, h⟩ := List.mem_map.1 this
    simp only [Prod.mk.injEq] at h
    rw [← h.1]
    exact pkv_key (hw x hx)
  rcases pair_law.find w hl es.toList hk with ⟨h1, h2⟩ | ⟨j, e, h1, h2, h3⟩
  · refine .inl ⟨h1, fun x hx hxp => ?_⟩
    have : (pkv x.1, x.2) ∈ es.toList.map (fun e : MapEntry => (e.key, e.val)) := he ▸ List.mem_map.2 ⟨x, hx, rfl⟩
    obtain ⟨e, hm, h⟩ := List.mem_map.1 this
    simp only [Prod.mk.injEq] at h
    exact h2 e hm (by rw [h.1, hxp])
  · refine .inr ⟨j, e.val, h1, ?_, e, by simpa using h2, h3⟩
    have : (es.toList.map (fun e : MapEntry => (e.key, e.val)))[j]? = some (e.key, e.val) := by rw [List.getElem?_map, h2]; rfl
    rw [he, List.getElem?_map] at this
    simp only [Option.map_eq_some_iff] at this
    obtain ⟨x, hx, h⟩ := this
    simp only [Prod.mk.injEq] at h
    rw [hx, ← h.2, ← pkv_inj (h.1.trans h3)]

theorem map_miss {w : World} {b : Nat} {L : List (Pr × Value)} (h : MapIs w b L) (hw : ∀ x ∈ L, W64 x.1) {p : Pr} (hp : W64 p) (hm : ∀ x ∈ L, x.1 ≠ p) (c : Bool) :
    (Instr.lookup 125 (.map (some b)) (pkv p) c).run Tryz.prog w = .ok (if c then .tuple #[.agg #[.bool false, .int .i64 0, .int .i64 0, .slice none 0 0], .bool false] else .agg #[.bool false, .int .i64 0, .int .i64 0, .slice none 0 0]) w := by
  obtain ⟨es, clock, hb, he⟩ := h
  obtain ⟨l, hl⟩ := pkv_key hp
  rcases map_find (w := w) he hw hp with ⟨h1, _⟩ | ⟨j, v, _, h2, _⟩
  · have hz : (zeroValue 177).run Tryz.prog w = .ok (.agg #[.bool false, .int .i64 0, .int .i64 0, .slice none 0 0]) w := by
      simp [zeroValue, Tryz.zeroFound]
    simp [Instr.lookup, run_underlying Tryz.underlying125, MapKept.run_getObj_map hb, pair_law.check w _ hl, h1, hz, Result.andThen]
  · exact absurd rfl (hm _ (List.mem_of_getElem? h2))
theorem map_hit {w : World} {b : Nat} {L : List (Pr × Value)} (h : MapIs w b L) (hw : ∀ x ∈ L, W64 x.1) {p : Pr} {v : Value} (hm : (p, v) ∈ L) (hn : L.Pairwise fun a b => a.1 ≠ b.1) (c : Bool) :
    (Instr.lookup 125 (.map (some b)) (pkv p) c).run Tryz.prog w = .ok (if c then .tuple #[v, .bool true] else v) w := by
  obtain ⟨es, clock, hb, he⟩ := h
  have hp := hw _ hm
  obtain ⟨l, hl⟩ := pkv_key hp
  rcases map_find (w := w) he hw hp with ⟨_, h1⟩ | ⟨j, v', h1, h2, _⟩
  · exact absurd rfl (h1 _ hm)
  · have hv : v' = v := by
      obtain ⟨i, hi, e⟩ := List.getElem_of_mem hm
      obtain ⟨hj, e2⟩ := List.getElem?_eq_some_iff.1 h2
      have : i = j := by
        rcases Nat.lt_trichotomy i j with h | h | h
        · exact absurd (by rw [e, e2]) (List.pairwise_iff_getElem.1 hn i j hi hj h)
        · exact h
        · exact absurd (by rw [e, e2]) (List.pairwise_iff_getElem.1 hn j i hj hi h)
      subst this
      rw [e] at e2
      exact (Prod.mk.inj e2).2.symm
    subst hv
    simp [Instr.lookup, run_underlying Tryz.underlying125, MapKept.run_getObj_map hb, pair_law.check w _ hl, h1, Result.andThen]
theorem map_new {w : World} {b : Nat} {L : List (Pr × Value)} (h : MapIs w b L) (hw : ∀ x ∈ L, W64 x.1) {p : Pr} (hp : W64 p) (hm : ∀ x ∈ L, x.1 ≠ p) (v : Value) :
    ∃ w', (Instr.mapUpdate 125 (.map (some b)) (pkv p) v).run Tryz.prog w = .ok () w' ∧ MapIs w' b (L ++ [(p, v)]) ∧ Keeps (· = b) w w' := by
  obtain ⟨es, clock, hb, he⟩ := h
  obtain ⟨l, hl⟩ := pkv_key hp
  rcases map_find (w := w) he hw hp with ⟨h1, _⟩ | ⟨j, v, _, h2, _⟩
  · refine ⟨setBlock w b (.map (es.push ⟨pkv p, v, clock⟩) (clock + 1)), ?_, ⟨_, _, heap_setBlock_same hb _, ?_⟩, ⟨rfl, rfl, rfl, by simp [setBlock], fun k _ hk => heap_setBlock_other hb _ hk⟩⟩
    · simp [Instr.mapUpdate, run_underlying Tryz.underlying125, MapKept.run_getObj_map hb, pair_law.check w false hl, h1, MapKept.run_setObj_map _ hb, Result.andThen, setBlock]
    · simp [he]
  · exact absurd rfl (hm _ (List.mem_of_getElem? h2))
theorem map_last {w : World} {b : Nat} {L : List (Pr × Value)} {p : Pr} {v0 : Value} (h : MapIs w b (L ++ [(p, v0)])) (hw : ∀ x ∈ L, W64 x.1) (hp : W64 p) (hm : ∀ x ∈ L, x.1 ≠ p) :
    (∀ v, ∃ w', (Instr.mapUpdate 125 (.map (some b)) (pkv p) v).run Tryz.prog w = .ok () w' ∧ MapIs w' b (L ++ [(p, v)]) ∧ Keeps (· = b) w w') ∧
    (∀ ty, ∃ w', (Builtin.delete_ #[125, 175] ty #[.map (some b), pkv p]).run Tryz.prog w = .ok (.tuple #[]) w' ∧ MapIs w' b L ∧ Keeps (· = b) w w') := by
  obtain ⟨es, clock, hb, he⟩ := h
  obtain ⟨l, hl⟩ := pkv_key hp
  have hw' : ∀ x ∈ L ++ [(p, v0)], W64 x.1 := by
    intro x hx
    rcases List.mem_append.1 hx with hx | hx
    · exact hw x hx
    · simp at hx; subst hx; exact hp
  rcases map_find (w := w) he hw' hp with ⟨_, h1⟩ | ⟨j, v', h1, h2, e, hej, hek⟩
  · exact absurd rfl (h1 _ (List.mem_append_right _ (List.mem_singleton.2 rfl)))
  · have hj : j = L.length := by
      rcases Nat.lt_or_ge j L.length with hlt | hge
      · rw [List.getElem?_append_left hlt] at h2
        exact absurd rfl (hm _ (List.mem_of_getElem? h2))
      · have := (List.getElem?_eq_some_iff.1 h2).1
        simp at this; omega
    subst hj
    have hes : es.size = L.length + 1 := by have := congrArg List.length he; simpa using this
    refine ⟨fun v => ⟨setBlock w b (.map (es.modify L.length fun e => { e with key := pkv p, val := v }) clock), ?_, ⟨_, _, heap_setBlock_same hb _, ?_⟩, ⟨rfl, rfl, rfl, by simp [setBlock], fun k _ hk => heap_setBlock_other hb _ hk⟩⟩,
      fun ty => ⟨setBlock w b (.map (es.eraseIdxIfInBounds L.length) clock), ?_, ⟨_, _, heap_setBlock_same hb _, ?_⟩, ⟨rfl, rfl, rfl, by simp [setBlock], fun k _ hk => heap_setBlock_other hb _ hk⟩⟩⟩
    · simp [Instr.mapUpdate, run_underlying Tryz.underlying125, MapKept.run_getObj_map hb, pair_law.check w false hl, h1, hej, hek, pair_law.stays w hl, MapKept.run_setObj_map _ hb, Result.andThen, setBlock]
    · have h3 : es.toList[L.length]? = some e := by simpa using hej
      rw [Array.toList_modify, modify_eq_set _ _ _ _ h3, List.map_set, he]
      simp
    · simp [Builtin.delete_, run_underlying Tryz.underlying125, MapKept.run_getObj_map hb, pair_law.check w _ hl, h1, MapKept.run_setObj_map _ hb, Result.andThen, setBlock]
    · have : (es.eraseIdxIfInBounds L.length).toList = es.toList.eraseIdx L.length := by
        unfold Array.eraseIdxIfInBounds
        rw [dif_pos (by omega)]
        simp
      rw [this, map_eraseIdx, he, List.map_append, List.eraseIdx_append_of_length_le (by simp)]
      simp
end Go.Proofs.YtkimkghldilliaaGreat
