import Derived.Test.YtpchjpmkkiopiaaHpMm
import Derived.WideKeyEntry
namespace Go.Proofs.Ytpchjpmkkiopiaa
open Go.RowKit Go.Lib Go.Maps Go.WideElems Go.ChangeMaps

theorem MapFn.of_block {w w' : World} {m s : Nat} {f : Int → Option Nat} (h : MapFn w m s f) (hb : w'.heap[m]? = w.heap[m]?) : MapFn w' m s f := by
  obtain ⟨D, ⟨es, clock, h1, F, hs, hD⟩, h2, h3⟩ := h
  exact ⟨D, ⟨es, clock, by rw [hb]; exact h1, F, hs, hD⟩, h2, h3⟩
theorem set_same {w : World} {m : Nat} {o : Obj} (hb : w.heap[m]? = some o) : { w with heap := w.heap.setIfInBounds m o } = w := by
  have e : w.heap.setIfInBounds m o = w.heap := by
    apply Array.ext_getElem?
    intro i
    rw [Array.getElem?_setIfInBounds]
    split
    · rename_i h
      subst h
      split
      · exact hb.symm
      · rename_i h2; simp at h2; simp [h2]
    · rfl
  rw [e]
theorem MapFn.entry {w : World} {m s : Nat} {f : Int → Option Nat} (h : MapFn w m s f) (hs : s < 1000000) {x : Int} (hx : (kx x).wf = true) (hf : (f x).isSome = true) :
    ∃ (v0 : Value) (st : Nat), (Instr.mapEntry 107 (.map (some m)) (.int .i64 x)).run Try.prog w = .ok (.tuple #[v0, .int .i64 st]) w ∧
      ∀ (i : Nat), i < 1000000 → ∃ w3, (Instr.entryStore 107 (.map (some m)) (.int .i64 st) (.int .i64 i)).run Try.prog w = .ok () w3 ∧
        MapFn w3 m s (setF f x (some i)) ∧ Keeps (· = m) w w3 := by
  have h0 := h
  obtain ⟨D, ⟨es, clock, hb, F, hss, rfl⟩, h2, h3⟩ := h
  have hkey := kx_of hx
  obtain ⟨-, s2, -⟩ := F.stamped
  rcases int_law.find w hkey es.toList F.keys with ⟨h4, h5⟩ | ⟨j, e0, h4, h5, h6⟩
  · exfalso
    rcases Maps.fit_look false int_law Try.underlying107 (z := .int .i64 0) (by kernel_rfl) hb F hkey with ⟨-, -, hat⟩ | ⟨e0, y, h7, h8, -⟩
    · have h7 := Maps.has_false_of_atKey hat
      rw [(h3 x hx).1, hf] at h7
      simp at h7
    · exact h5 e0 h7 h8
  · have hj : es[j]? = some e0 := by simpa using h5
    have hsame : es.modify j (fun e => { e with key := .int .i64 x }) = es := by
      apply Array.ext_getElem?
      intro i
      rw [Array.getElem?_modify]
      split
      · rename_i h; subst h
        rw [hj]
        simp only [Option.map_some, ← h6]
      · rfl
    have hst : (Instr.keyThatStays (.int .i64 x) (.int .i64 x)).run Try.prog w = .ok (.int .i64 x) w := int_law.stays w hkey
    refine ⟨e0.val, e0.born, ?_, fun i hi => ?_⟩
    · simp [Instr.mapEntry, run_underlying Try.underlying107, MapKept.run_getObj_map hb, int_law.check w false hkey, h4, hj, h6, hst, hsame, MapKept.run_setObj_map _ hb, Result.andThen, set_same hb, goInt]
    · obtain ⟨w', hr4, hm, hk⟩ := h0.put hs hx hi
      rw [hf, if_pos rfl] at hm
      have hidx : es.findIdx? (fun e => ((e.born : Nat) : Int) == ((e0.born : Nat) : Int)) = some j := by
        rw [findIdx_arr]
        exact findIdx_born s2 h5
      have hmod : es.modify j (fun e => { e with key := .int .i64 x, val := .int .i64 i }) = es.modify j (fun e => { e with val := .int .i64 i }) := by
        apply Array.ext_getElem?
        intro k
        rw [Array.getElem?_modify, Array.getElem?_modify]
        split
        · rename_i h; subst h
          rw [hj]
          simp only [Option.map_some, ← h6]
        · rfl
      have hr5 : (Instr.mapUpdate 107 (.map (some m)) (.int .i64 x) (.int .i64 i)).run Try.prog w = .ok () { w with heap := w.heap.setIfInBounds m (.map (es.modify j (fun e => { e with val := .int .i64 i })) clock) } := by
        simp [Instr.mapUpdate, run_underlying Try.underlying107, MapKept.run_getObj_map hb, int_law.check w false hkey, h4, hj, h6, hst, hmod, MapKept.run_setObj_map _ hb, Result.andThen]
      rw [hr5] at hr4
      simp only [Result.ok.injEq, true_and] at hr4
      subst hr4
      refine ⟨_, ?_, hm, hk⟩
      simp [Instr.entryStore, MapKept.run_getObj_map hb, asInt, asIntOf, goInt, hidx, MapKept.run_setObj_map _ hb, Result.andThen]
end Go.Proofs.Ytpchjpmkkiopiaa
