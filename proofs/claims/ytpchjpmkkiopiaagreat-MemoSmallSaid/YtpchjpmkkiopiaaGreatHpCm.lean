import Derived.Test.YtpchjpmkkiopiaaGreatHpMm
import Derived.WideKeyEntry
namespace Go.Proofs.YtpchjpmkkiopiaaGreat
open Go.RowKit Go.Lib Go.Maps Go.WideElems Go.ChangeMaps

theorem MapFn.of_block {w w' : World} {m s : Nat} {f : Int → Option Nat} (h : MapFn w m s f) (hb : w'.heap[m]? = w.heap[m]?) : MapFn w' m s f := by
  obtain ⟨D, ⟨es, clock, h1, F, hs, hD⟩, h2, h3⟩ := h
  exact ⟨D, ⟨es, clock, by rw [hb]; exact h1, F, hs, hD⟩, h2, h3⟩
theorem set_same {w : World} {m : Nat} {o : Obj} (hb : w.heap[m]? = some o) : { w with heap := w.heap.setIfInBounds m o } = w := by
  have e : w.heap.setIfInBounds m o = w.heap := by
    apply Array.ext_getElem?
    intro i
    rw [Array.getElem?_setIfInBounds]
    split
    · rename_i h
      subst h
      split
      · exact hb.symm
      · rename_i h2; simp at h2; simp [h2]
    · rfl
  rw [e]
theorem MapFn.entry {w : World} {m s : Nat} {f : Int → Option Nat} (h : MapFn w m s f) (hs : s < 1000000) {x : Int} (hx : (kx x).wf = true) (hf : (f x).isSome = true) :
    ∃ (v0 : Value) (st : Nat), (Instr.mapEntry 108 (.map (some m)) (.int .i64 x)).run Tryz.prog w = .ok (.tuple #[v0, .int .i64 st]) w ∧
      ∀ (i : Nat), i < 1000000 → ∃ w3, (Instr.entryStore 108 (.map (some m)) (.int .i64 st) (.int .i64 i)).run Tryz.prog w = .ok () w3 ∧
        MapFn w3 m s (setF f x (some i)) ∧ Keeps (· = m) w w3 := by
  have h0 := h
  obtain ⟨D, ⟨es, clock, hb, F, hss, rfl⟩, h2, h3⟩ := h
  have hkey := kx_of hx
  obtain ⟨-, s2, -⟩ := F.stamped
  rcases int_law.find w hkey es.toList F.keys with ⟨h4, h5⟩ | ⟨j, e0, h4, h5, h6⟩
  · exfalso
    rcases Maps.fit_look false int_law Tryz.underlying108 (z := .int .i64 0) (by kernel_rfl) hb F hkey with ⟨-, -, hat⟩ | ⟨e0, y, h7, h8, -⟩
    · have h7 := Maps.has_false_of_atKey hat
      rw [(h3 x hx).1, hf] at h7
      simp at h7
    · exact h5 e0 h7 h8
  · have hj : es[j]? = some e0 := by simpa using h5
    have hsame : es.modify j (fun e => { e with key := .int .i64 x }) = es := by
      apply Array.ext_getElem?
      intro i
      rw [Array.getElem?_modify]
      split
      · rename_i h; subst h
        rw [hj]
        simp only [Option.map_some, ← h6]
      · rfl
    have hst : (Instr.keyThatStays (.int .i64 x) (.int .i64 x)).run Tryz.prog w = .ok (.int .i64 x) w := int_law.stays w hkey
    refine ⟨e0.val, e0.born, ?_, fun i hi => ?_⟩
    · simp [Instr.mapEntry, run_underlying Tryz.underlying108, MapKept.run_getObj_map hb, int_law.check w false hkey, h4, hj, h6, hst, hsame, MapKept.run_setObj_map _ hb, Result.andThen, set_same hb, goInt]
    · obtain ⟨w', hr4, hm, hk⟩ := h0.put hs hx hi
      rw [hf, if_pos rfl] at hm
      have hidx : es.findIdx? (fun e => ((e.born : Nat) : Int) == ((e0.born : Nat) : Int)) = some j := by
        rw [findIdx_arr]
        exact findIdx_born s2 h5
      have hmod : es.modify j (fun e => { e with key := .int .i64 x, val := .int .i64 i }) = es.modify j (fun e => { e with val := .int .i64 i }) := by
        apply Array.ext_getElem?
        intro k
        rw [Array.getElem?_modify, Array.getElem?_modify]
        split
        · rename_i h; subst h
          rw [hj]
          simp only [Option.map_some, ← h6]
        · rfl
      have hr5 : (Instr.mapUpdate 108 (.map (some m)) (.int .i64 x) (.int .i64 i)).run Tryz.prog w = .ok () { w with heap := w.heap.setIfInBounds m (.map (es.modify j (fun e => { e with val := .int .i64 i })) clock) } := by
        simp [Instr.mapUpdate, run_underlying Tryz.underlying108, MapKept.run_getObj_map hb, int_law.check w false hkey, h4, hj, h6, hst, hmod, MapKept.run_setObj_map _ hb, Result.andThen]
      rw [hr5] at hr4
      simp only [Result.ok.injEq, true_and] at hr4
      subst hr4
      refine ⟨_, ?_, hm, hk⟩
      simp [Instr.entryStore, MapKept.run_getObj_map hb, asInt, asIntOf, goInt, hidx, MapKept.run_setObj_map _ hb, Result.andThen]
end Go.Proofs.YtpchjpmkkiopiaaGreat
namespace Go.Proofs.YtpchjpmkkiopiaaGreat
open Go.RowKit Go.Lib

def cmpI (a b : Int) : Int := if a < b then -1 else if b < a then 1 else 0
def orI (a b : Int) : Int := if a ≠ 0 then a else b
def cmpE (a b : En) : Int := orI (cmpI a.key b.key) (cmpI a.turn b.turn)
theorem cmpE_lt (a b : En) : cmpE a b < 0 ↔ En.lt a b := by
  unfold cmpE orI cmpI En.lt
  split <;> (repeat' split) <;> omega
set_option maxHeartbeats 400000 in
theorem isNaN_any (a : Int) (w : World) : Calls Tryz.prog 78 #[.int .i64 a] w fun e w' => e = .returned (.bool false) ∧ w = w' := by
  go_enter Tryz.func78, Tryz.ntmps78
  go_wp2
  go_ret
  exact ⟨by simp, rfl⟩
set_option maxHeartbeats 1000000 in
theorem cmp_any (a b : Int) (w : World) : Calls Tryz.prog 67 #[.int .i64 a, .int .i64 b] w fun e w' => e = .returned (.int .i64 (cmpI a b)) ∧ w = w' := by
  go_enter Tryz.func67, Tryz.ntmps67
  go_wp2_with fail
  refine (isNaN_any a w).mono ?_
  rintro e w1 ⟨rfl, rfl⟩
  go_wp2_with fail
  refine (isNaN_any b w).mono ?_
  rintro e w1 ⟨rfl, rfl⟩
  by_cases h1 : a < b
  · have q1 : decide (a < b) = true := by simpa using h1
    have e1 : cmpI a b = -1 := by unfold cmpI; rw [if_pos h1]
    have E1 := Lib.hid e1
    clear e1
    go_wp2
    go_ret
    exact ⟨by rw [E1.out]; rfl, rfl⟩
  · have q1 : decide (a < b) = false := by simpa using h1
    by_cases h2 : b < a
    · have q2 : decide (b < a) = true := by simpa using h2
      have e1 : cmpI a b = 1 := by unfold cmpI; rw [if_neg h1, if_pos h2]
      have E1 := Lib.hid e1
      clear e1
      go_wp2
      go_ret
      exact ⟨by rw [E1.out]; rfl, rfl⟩
    · have q2 : decide (b < a) = false := by simpa using h2
      have e1 : cmpI a b = 0 := by unfold cmpI; rw [if_neg h1, if_neg h2]
      have E1 := Lib.hid e1
      clear e1
      go_wp2
      go_ret
      exact ⟨by rw [E1.out]; rfl, rfl⟩
set_option maxHeartbeats 1000000 in
theorem or_any (g : Nat) (a b : Int) (w : World) (h : w.heap[g]? = some (.cells #[.int .i64 a, .int .i64 b] 3 (0, 0))) : Calls Tryz.prog 66 #[.slice (some ⟨g, 0, none⟩) 2 2] w fun e w' => e = .returned (.int .i64 (orI a b)) ∧ w = w' := by
  have c0 : w.cell? ⟨g, 0, none⟩ = some (.int .i64 a) := by simp [World.cell?, h]
  have c1 : w.cell? ⟨g, 1, none⟩ = some (.int .i64 b) := by simp [World.cell?, h]
  clear h
  go_enter Tryz.func66, Tryz.ntmps66
  go_wp2
  go_loopw [8] (fun v8 wr => ∃ i : Nat, i ≤ 2 ∧ v8 = .int .i64 i ∧ (0 < i → a = 0) ∧ (1 < i → b = 0) ∧ w = wr) (fun i _ => 2 - (intOf i).toNat)
  case atStart => exact ⟨0, by omega, rfl, by omega, by omega, rfl⟩
  case round =>
    obtain ⟨i, hi, rfl, ha, hb, rfl⟩ := hrel
    have Ha := Lib.hid ha
    have Hb := Lib.hid hb
    clear ha hb
    by_cases hlt : i < 2
    · have hlt' : (i : Int) < 2 := by omega
      obtain ⟨v, hv, hc⟩ : ∃ v, v = (if i = 0 then a else b) ∧ w.cell? ⟨g, i, none⟩ = some (.int .i64 v) := by
        refine ⟨_, rfl, ?_⟩
        by_cases h0 : i = 0
        · rw [if_pos h0, h0]; exact c0
        · rw [if_neg h0, show i = 1 by omega]; exact c1
      have Hv := Lib.hid hv
      have Hlt := Lib.hid hlt
      clear hv hlt c0 c1
      by_cases hz : v = 0
      · have q1 : (v != 0) = false := by rw [hz]; rfl
        have Hz := Lib.hid hz
        clear hz
        go_wp2
        go_roundw
        case rel => exact ⟨i + 1, Hlt.out, by go_num, fun _ => by
          by_cases h0 : i = 0
          · have := Hv.out; rw [if_pos h0, Hz.out] at this; exact this.symm
          · exact Ha.out (by omega), fun h => by
          have := Hv.out; rw [if_neg (by omega), Hz.out] at this; exact this.symm, by simp⟩
        case measure => have := Hlt.out; simp [intOf]; omega
      · have q1 : (v != 0) = true := by simpa using hz
        have hres : orI a b = v := by
          unfold orI
          have h2 := Hv.out
          by_cases h0 : i = 0
          · rw [if_pos h0] at h2
            rw [← h2]
            simp [hz]
          · rw [if_neg h0] at h2
            rw [Ha.out (by omega), ← h2]
            simp
        have Hres := Lib.hid hres
        clear hz hres
        go_wp2
        go_ret
        exact ⟨by rw [Hres.out]; rfl, rfl⟩
    · have hlt' : ¬ (i : Int) < 2 := by omega
      have Hres := Lib.hid (show orI a b = 0 by unfold orI; rw [Ha.out (by omega), Hb.out (by omega)]; simp)
      clear hlt hi
      go_wp2
      go_ret
      exact ⟨by rw [Hres.out]; rfl, rfl⟩
end Go.Proofs.YtpchjpmkkiopiaaGreat
