/-
  How many there are.
-/
import Derived.Test.YtebgleehmgmfbaaKpt
namespace Go.Proofs.Ytebgleehmgmfbaa
open Go.RowKit Go.Lib

def prc (p : Pr) : List Value := [.int .i64 p.1, .int .i64 p.2]
theorem prc_len (p : Pr) : (prc p).length = 2 := rfl
/-- a slice of pairs. -/
def PrsAt (w : World) (v : Value) (L : List Pr) : Prop := RowsAt w 2 v (L.map prc)
theorem PrsAt.later {w w' : World} {v : Value} {L : List Pr} (h : PrsAt w v L) (hb : Below w.heap.size w w') : PrsAt w' v L := RowsAt.later h hb
theorem PrsAt.val {w : World} {v : Value} {L : List Pr} (h : PrsAt w v L) : ∃ ao cap, v = .slice ao L.length cap := by
  obtain ⟨ao, cap, e⟩ := RowsAt.val h
  exact ⟨ao, cap, by simpa using e⟩
theorem PrsAt.cells {w : World} {ao : Option Addr} {n cap : Nat} {L : List Pr} (h : PrsAt w (.slice ao n cap) L) : n = L.length ∧ L.length ≤ cap ∧ cap ≤ maxLen ∧ (ao = none → n = 0 ∧ cap = 0) ∧ ∀ i (hi : i < L.length), ∃ b off, ao = some ⟨b, off, none⟩ ∧ b < w.heap.size ∧
    w.cell? ⟨b, off + i * 2, none⟩ = some (.int .i64 L[i].1) ∧ w.cell? ⟨b, off + i * 2 + 1, none⟩ = some (.int .i64 L[i].2) := by
  obtain ⟨ao', b, off, cap', e, hl, hm, hn, ha, -, hc⟩ := h
  simp only [Value.slice.injEq, List.length_map] at e hl hn ha
  obtain ⟨rfl, rfl, rfl⟩ := e
  refine ⟨rfl, hl, hm, hn, fun i hi => ⟨b, off, (ha (by omega)).1, (ha (by omega)).2, ?_, ?_⟩⟩
  · have := hc i (by simpa using hi) 0 (by omega)
    simpa [prc] using this
  · have := hc i (by simpa using hi) 1 (by omega)
    simpa [prc] using this

set_option maxHeartbeats 1000000 in
theorem size_any (av pv : Value) {l : List An} {L : List Pr} (w : World) (ha : AnsAt w av l) (hp : PrsAt w pv L) (hzm : l.length ≤ 140737488355328) (hqm : L.length ≤ 140737488355328) (hbt : ∀ k, (atA l k).tree.length ≤ 140737488355328) :
    Calls Try.prog 7 #[av, pv] w fun e w' => ∃ n : Int, e = .returned (.int .i64 n) ∧ (n ≤ 200 → l.length ≤ 200 ∧ L.length ≤ 200 ∧ ∀ k, (atA l k).tree.length ≤ 200) ∧ Below w.heap.size w w' := by
  obtain ⟨aao, acap, rfl⟩ := ha.val
  obtain ⟨pao, pcap, rfl⟩ := hp.val
  have H := Lib.hid ha
  have Htm := Lib.hid hbt
  obtain ⟨z, hz⟩ : ∃ z, z = l.length := ⟨_, rfl⟩
  obtain ⟨q, hq⟩ : ∃ q, q = L.length := ⟨_, rfl⟩
  have Hz := Lib.hid hz
  rw [← hz] at H hzm ⊢
  rw [← hq] at hqm ⊢
  have hw : IntKind.i64.wrap ((z : Int) + (q : Int)) = (z : Int) + q := IntWalk.i64_in _ (by omega)
  clear ha hp hz hq hbt
  go_enter Try.func7, Try.ntmps7
  go_wp2
  go_loopw [5, 6] (fun v5 v6 wr => ∃ (n : Int) (k : Nat), k ≤ z ∧ v5 = .int .i64 n ∧ v6 = .int .i64 k ∧ (z : Int) ≤ n ∧ (q : Int) ≤ n ∧ (∀ j, j < k → ((atA l j).tree.length : Int) ≤ n) ∧ w = wr) (fun _ i _ => z - (intOf i).toNat)
  case atStart => exact ⟨(z : Int) + q, 0, Nat.zero_le _, rfl, rfl, by omega, by omega, fun j hj => by omega, rfl⟩
  case round =>
    obtain ⟨n, k, hk, rfl, rfl, h1, h2, h3, rfl⟩ := hrel
    have H3 := Lib.hid h3
    clear h3
    by_cases hlt : k < z
    · have hlt' : (k : Int) < z := by omega
      by_cases hle : n ≤ 200
      · have hle' : decide (n ≤ 200) = true := by simpa using hle
        obtain ⟨b, off, rfl, hbl, -, -, -, e3, -⟩ := H.out.cells.2.2.2.2 k (by rw [← Hz.out]; exact hlt)
        have hat : l[k]'(by rw [← Hz.out]; exact hlt) = atA l k := (atA_lt (by rw [← Hz.out]; exact hlt)).symm
        rw [hat] at e3
        obtain ⟨xo, xc, hv⟩ := (atA_tw H.out k).val
        rw [hv] at e3
        have hm := Htm.out k
        obtain ⟨t, ht⟩ : ∃ t, t = (atA l k).tree.length := ⟨_, rfl⟩
        rw [← ht] at e3 hm
        have Ht := Lib.hid ht
        have hw2 : IntKind.i64.wrap (n + (t : Int)) = n + t := IntWalk.i64_in _ (by omega)
        have hw3 : IntKind.i64.wrap ((k : Int) + 1) = (k : Int) + 1 := IntWalk.i64_in _ (by omega)
        clear hat hv ht
        go_wp2
        go_roundw
        case rel =>
          refine ⟨n + t, k + 1, hlt, rfl, by go_num, by omega, by omega, fun j hj => ?_, by simp⟩
          by_cases hjk : j < k
          · have := H3.out j hjk; omega
          · obtain rfl : j = k := by omega
            have := Ht.out
            omega
        case measure => simp [intOf]; omega
      · have hle' : decide (n ≤ 200) = false := by simpa using hle
        go_wp2
        go_ret
        exact ⟨n, rfl, fun h => absurd h (by omega), Below.refl _ _⟩
    · have hlt' : ¬ (k : Int) < z := by omega
      have hkz := Lib.hid (show k = l.length by rw [← Hz.out]; omega)
      go_wp2
      go_ret
      refine ⟨n, rfl, fun h => ⟨by omega, by omega, fun j => ?_⟩, Below.refl _ _⟩
      by_cases hj : j < l.length
      · have := H3.out j (by rw [hkz.out]; exact hj)
        omega
      · rw [atA_ge hj]; simp [An.none]
end Go.Proofs.Ytebgleehmgmfbaa
