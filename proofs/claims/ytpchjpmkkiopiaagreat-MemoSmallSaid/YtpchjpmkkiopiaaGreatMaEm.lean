import Derived.Test.YtpchjpmkkiopiaaGreatMbAm
import Derived.Test.YtpchjpmkkiopiaaGreatHpCm
import Derived.WideKeyEntry
namespace Go.Proofs.YtpchjpmkkiopiaaGreat
open Go.RowKit Go.Lib Go.Maps Go.WideElems Go.ChangeMaps

section
variable {k : TypeId} {κ : Type} {K : KK k κ} {w : World} {m s : Nat} {f : κ → Option Value}
/-- a map, in which the entry of a key bears a stamp. -/
def EntV (K : KK k κ) (w : World) (m s : Nat) (f : κ → Option Value) (x : κ) (st : Nat) : Prop :=
  MapV K w m s f ∧ (f x).isSome = true ∧ ∃ es clock e, w.heap[m]? = some (.map es clock) ∧ e ∈ es.toList ∧ e.key = K.val x ∧ e.born = st
theorem EntV.keeps {S : Nat → Prop} {w' : World} {x : κ} {st : Nat} (h : EntV K w m s f x st) (hk : Keeps S w w') (hn : ¬ S m) : EntV K w' m s f x st := by
  obtain ⟨h1, h2, es, clock, e, h3, h4⟩ := h
  exact ⟨h1.keeps hk hn, h2, es, clock, e, hk.obj h3 hn, h4⟩
theorem MapV.entryNew [DecidableEq κ] (h : MapV K w m s f) {t e : TypeId} (ht : Tryz.prog.underlying t = some (.map k e)) (hs : s < 1000000) {z : Value} (hz : (zeroValue e).run Tryz.prog w = .ok z w) {x : κ} (hx : K.wf x) (hf : f x = none) :
    ∃ (st : Nat) (w1 : World), (Instr.mapEntry t (.map (some m)) (K.val x)).run Tryz.prog w = .ok (.tuple #[z, .int .i64 st]) w1 ∧ EntV K w1 m (s + 1) (setV f x (some z)) x st ∧ Keeps (· = m) w w1 := by
  have h0 := h
  obtain ⟨D, ⟨es, clock, hb, F, hss, rfl⟩, h2, h3⟩ := h
  obtain ⟨l, hkey⟩ := K.of x hx
  rcases K.law.find w hkey es.toList F.keys with ⟨h4, h5⟩ | ⟨j, e0, h4, h5, h6⟩
  · obtain ⟨w', hr, hm, hk⟩ := h0.put ht hs hx z
    have hr5 : (Instr.mapUpdate t (.map (some m)) (K.val x) z).run Tryz.prog w = .ok () { w with heap := w.heap.setIfInBounds m (.map (es.push ⟨K.val x, z, clock⟩) (clock + 1)) } := by
      simp [Instr.mapUpdate, run_underlying ht, MapKept.run_getObj_map hb, K.law.check w false hkey, h4, MapKept.run_setObj_map _ hb, Result.andThen]
    rw [hr5] at hr
    simp only [Result.ok.injEq, true_and] at hr
    subst hr
    rw [hf] at hm
    have hm : MapV K (setBlock w m (.map (es.push ⟨K.val x, z, clock⟩) (clock + 1))) m (s + 1) (setV f x (some z)) := hm
    refine ⟨clock, setBlock w m (.map (es.push ⟨K.val x, z, clock⟩) (clock + 1)), ?_, ⟨hm, by rw [setV_same]; rfl, _, _, ⟨K.val x, z, clock⟩, heap_setBlock_same hb _, by simp, rfl, rfl⟩, hk⟩
    simp [Instr.mapEntry, run_underlying ht, MapKept.run_getObj_map hb, K.law.check w false hkey, h4, hz, MapKept.run_setObj_map _ hb, Result.andThen, goInt, setBlock]
  · exfalso
    rcases Maps.fit_look false K.law ht hz hb F hkey with ⟨-, h7, -⟩ | ⟨e1, y, h7, h8, -, -, hat, -⟩
    · exact h7 e0 (List.mem_of_getElem? h5) h6
    · have h9 := Maps.has_true_of_atKey hat
      rw [(h3 x l hkey).1, hf] at h9
      simp at h9
theorem EntV.store [DecidableEq κ] {x : κ} {st : Nat} (h : EntV K w m s f x st) {t e : TypeId} (ht : Tryz.prog.underlying t = some (.map k e)) (hs : s < 1000000) (hx : K.wf x) (v : Value) :
    ∃ w1, (Instr.entryStore t (.map (some m)) (.int .i64 st) v).run Tryz.prog w = .ok () w1 ∧ MapV K w1 m s (setV f x (some v)) ∧ Keeps (· = m) w w1 := by
  obtain ⟨h0, hf, es2, clock2, e2, hb2, he2, hek, hst⟩ := h
  obtain ⟨w', hr, hm, hk⟩ := h0.put ht hs hx v
  rw [hf, if_pos rfl] at hm
  obtain ⟨D, ⟨es, clock, hb, F, hss, rfl⟩, h2, h3⟩ := h0
  rw [hb] at hb2
  simp only [Option.some.injEq, Obj.map.injEq] at hb2
  obtain ⟨rfl, rfl⟩ := hb2
  obtain ⟨l, hkey⟩ := K.of x hx
  obtain ⟨-, s2, s3⟩ := F.stamped
  rcases K.law.find w hkey es.toList F.keys with ⟨h4, h5⟩ | ⟨j, e0, h4, h5, h6⟩
  · exact absurd hek (h5 e2 he2)
  · have hj : es[j]? = some e0 := by simpa using h5
    obtain rfl : e0 = e2 := entry_eq_of_key ((MapKept.stamped_iff es clock).1 F.stamped).2.2 (List.mem_of_getElem? h5) he2 (h6.trans hek.symm)
    subst hst
    have hstay : (Instr.keyThatStays (K.val x) (K.val x)).run Tryz.prog w = .ok (K.val x) w := K.law.stays w hkey
    have hidx : es.findIdx? (fun e => ((e.born : Nat) : Int) == ((e0.born : Nat) : Int)) = some j := by
      rw [findIdx_arr]
      exact findIdx_born s2 h5
    have hmod : es.modify j (fun e => { e with key := K.val x, val := v }) = es.modify j (fun e => { e with val := v }) := by
      apply Array.ext_getElem?
      intro k
      rw [Array.getElem?_modify, Array.getElem?_modify]
      split
      · rename_i h; subst h
        rw [hj]
        simp only [Option.map_some, ← h6]
      · rfl
    have hr5 : (Instr.mapUpdate t (.map (some m)) (K.val x) v).run Tryz.prog w = .ok () { w with heap := w.heap.setIfInBounds m (.map (es.modify j (fun e => { e with val := v })) clock) } := by
      simp [Instr.mapUpdate, run_underlying ht, MapKept.run_getObj_map hb, K.law.check w false hkey, h4, hj, h6, hstay, hmod, MapKept.run_setObj_map _ hb, Result.andThen]
    rw [hr5] at hr
    simp only [Result.ok.injEq, true_and] at hr
    subst hr
    refine ⟨_, ?_, hm, hk⟩
    simp [Instr.entryStore, MapKept.run_getObj_map hb, asInt, asIntOf, goInt, hidx, MapKept.run_setObj_map _ hb, Result.andThen]
end
end Go.Proofs.YtpchjpmkkiopiaaGreat
