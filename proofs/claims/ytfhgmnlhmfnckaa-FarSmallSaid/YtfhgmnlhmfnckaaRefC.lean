/-
  Package seedlingref23: the document's record: the innermost part, Far, Hoped.
-/
import Derived.Test.YtfhgmnlhmfnckaaRefB
import Derived.Test.YtfhgmnlhmfnckaaAsk
namespace Go.Proofs.Ytfhgmnlhmfnckaa
open Go.RowKit Go.Lib

/-- what was missed in the innermost part. -/
def partL (L : List Part) (F : List Nat) : List Part := match F.getLast? with | none => L | some n => L.drop n
/-- a row of what was missed, as a slice has it. -/
def MissAt (w : World) (v : Value) (M : List Part) : Prop := ∃ ao b off cap, v = .slice ao M.length cap ∧ M.length ≤ cap ∧ cap ≤ maxLen ∧ (0 < M.length → ao = some ⟨b, off, none⟩ ∧ b < w.heap.size) ∧
  ∀ i (h : i < M.length) j, j < 5 → w.cell? ⟨b, off + i * 5 + j, none⟩ = (pcs M[i])[j]?
theorem MissAt.later {w w' : World} {v : Value} {M : List Part} (h : MissAt w v M) (hb : Below w.heap.size w w') : MissAt w' v M := by
  obtain ⟨ao, b, off, cap, rfl, hl, hm, ha, hc⟩ := h
  exact ⟨ao, b, off, cap, rfl, hl, hm, fun h => ⟨(ha h).1, Nat.lt_of_lt_of_le (ha h).2 hb.size⟩, fun i hi j hj => (hb.cell (p := ⟨b, _, none⟩) (ha (by omega)).2).trans (hc i hi j hj)⟩
theorem pcells_get (L : List Part) {i j : Nat} (hi : i < L.length) (hj : j < 5) : (pcells L)[i * 5 + j]? = (pcs L[i])[j]? := by
  induction L generalizing i with
  | nil => simp at hi
  | cons p r ih =>
    have e : pcells (p :: r) = pcs p ++ pcells r := by simp [pcells]
    have hl : (pcs p).length = 5 := rfl
    rw [e]
    cases i with
    | zero =>
      rw [List.getElem?_append_left (by rw [hl]; omega)]
      simp
    | succ i =>
      rw [List.getElem?_append_right (by rw [hl]; omega), hl]
      have := ih (i := i) (by simpa using hi)
      simp only [List.getElem_cons_succ]
      rw [← this]
      congr 1
      omega
/-- an owned row's rest. -/
theorem miss_of_own {w : World} {B n : Nat} {L : List Part} {ao : Option Addr} {cap : Nat} (h : w.ownsRow B 77 5 (.slice ao L.length cap) L.length (pcells L)) (hn : n ≤ L.length) :
    MissAt w (.slice (if cap = n then ao else ao.map (·.add (n * 5))) (L.length - n) (cap - n)) (L.drop n) := by
  rcases h.2 with ⟨hv, h0⟩ | ⟨g, cap', cur, hv, hb, hg, hnc, hcm, hcs, ht⟩
  · simp only [Value.slice.injEq] at hv
    obtain ⟨rfl, _, rfl⟩ := hv
    have hL : L = [] := List.eq_nil_of_length_eq_zero h0
    subst hL
    simp only [List.length_nil, Nat.le_zero] at hn
    subst hn
    exact ⟨none, 0, 0, 0, by simp, by simp, by unfold maxLen; omega, fun h => by simp at h, fun i hi => by simp at hi⟩
  · simp only [Value.slice.injEq, true_and] at hv
    obtain ⟨rfl, rfl⟩ := hv
    have hlt := lt_of_block hg
    refine ⟨_, g, if cap = n then 0 else n * 5, cap - n, by rw [List.length_drop], by rw [List.length_drop]; omega, by unfold maxLen at hcm ⊢; omega, fun h => ?_, fun i hi j hj => ?_⟩
    · rw [List.length_drop] at h
      have hne : ¬ cap = n := by omega
      rw [if_neg hne, if_neg hne]
      refine ⟨?_, hlt⟩
      simp only [Option.map_some, add_none, Nat.zero_add]
    · rw [List.length_drop] at hi
      have hne : ¬ cap = n := by omega
      rw [if_neg hne, (block_cell' hg _).1]
      have hidx : n * 5 + i * 5 + j = (n + i) * 5 + j := by omega
      rw [hidx, ← Array.getElem?_toList]
      have h1 : (n + i) * 5 + j < L.length * 5 := by
        have : (n + i) * 5 + 5 ≤ L.length * 5 := by
          have := Nat.mul_le_mul_right 5 (show n + i + 1 ≤ L.length by omega)
          omega
        omega
      have e : cur.toList[(n + i) * 5 + j]? = (cur.toList.take (L.length * 5))[(n + i) * 5 + j]? := by rw [List.getElem?_take_of_lt h1]
      rw [e, ht, pcells_get L (by omega) hj]
      simp

theorem slice_from (t : TypeId) (hu : Try.prog.underlying t = some (.slice (Try.prog.elem t))) (sz : Nat) (hs : ∀ w, (sizeOf (Try.prog.elem t)).run Try.prog w = .ok sz w) (ao ao' : Option Addr) (n m cap : Nat) (h : n ≤ m) (ha : ao' = if cap = n then ao else ao.map (·.add (n * sz))) (w : World) :
    (Instr.slice t (.slice ao m cap) (some (.int .i64 n)) none none).run Try.prog w = .ok (.slice ao' (m - n) (cap - n)) w := by
  rw [run_slice_l (P := Try.prog) (w := w) t ao m cap hu .i64 n (by omega) (by omega), hs, ha]
  simp [Result.andThen, sliced]
/-- what a call of part leaves. -/
def PartPost (w : World) (M : List Part) (e : Ending) (w' : World) : Prop := ∃ v, e = .returned v ∧ MissAt w v M ∧ ∃ m, w' = w.drewN m

set_option maxRecDepth 100000 in
set_option maxHeartbeats 1000000 in
theorem doc_part {H : Nat → Prop} {r : Nat} {v : Value} {L : List Part} {F : List Nat} (w : World) (h : RefS H w r v L F) (hF : ∀ n ∈ F, n ≤ L.length) (hn : L.length ≤ 1000000) (hn2 : F.length ≤ 1000000) :
    Calls Try.prog 49 #[.pointer (some ⟨r, 0, none⟩)] w (PartPost w (partL L F)) := by
  obtain ⟨h1, h2, lv, fv, h3, h4, h5, h6, h7⟩ := h
  obtain ⟨_, ⟨c1, _⟩, ⟨c2, _⟩⟩ := three_cells h3
  obtain ⟨ao, cap, rfl⟩ := own_val h4
  have hcap : L.length ≤ cap := by
    rcases h4.2 with ⟨hv, h0⟩ | ⟨g, cap', cur, hv, _, _, hnc, _⟩
    · omega
    · simp only [Value.slice.injEq, true_and] at hv; omega
  rcases List.eq_nil_or_concat F with rfl | ⟨F', n, rfl⟩
  · obtain ⟨fo, fc, rfl⟩ := own_val h5
    have hm := miss_of_own h4 (Nat.zero_le _)
    have hpost : MissAt w (.slice ao L.length cap) L := by
      by_cases hc0 : cap = 0
      · simpa [hc0] using hm
      · simp only [hc0, if_false, Nat.zero_mul, Nat.sub_zero, List.drop_zero] at hm
        have : ao.map (·.add 0) = ao := by
          cases ao with
          | none => rfl
          | some a => obtain ⟨b, o, s⟩ := a; cases s <;> simp [Addr.add]
        rw [this] at hm
        exact hm
    have HP := Lib.hid hpost
    clear h1 h2 h3 h4 h5 h6 h7 hm hpost
    have hc2 : w.cell? ⟨r, 2, none⟩ = some (.slice fo 0 fc) := c2
    clear c2
    go_enter Try.func49, Try.ntmps49
    go_wp2
    go_ret
    exact ⟨_, rfl, HP.out, 0, rfl⟩
  · rw [List.concat_eq_append] at *
    have hlF : (F' ++ [n]).length = F'.length + 1 := by simp
    rw [hlF] at h5 hn2
    obtain ⟨gf, fc, rfl⟩ := own_shape h5 (by omega)
    have hcn := h5.cellAt F'.length (by omega)
    have hce : (nv (F' ++ [n]))[F'.length]? = some (.int .i64 (n : Int)) := by simp [nv]
    rw [List.getElem?_eq_some_iff] at hce
    obtain ⟨hce1, hce2⟩ := hce
    have hnle : n ≤ L.length := hF n (by simp)
    have hpl : partL L (F' ++ [n]) = L.drop n := by simp [partL]
    rw [hpl]
    obtain ⟨ao', hao'⟩ : ∃ ao', ao' = if cap = n then ao else ao.map (·.add (n * 5)) := ⟨_, rfl⟩
    have hm := miss_of_own h4 hnle
    rw [← hao'] at hm
    have HP := Lib.hid hm
    have hsl := fun wq => slice_from 48 Try.underlying48 5 (fun _ => by kernel_rfl) ao ao' n L.length cap hnle hao' wq
    have hc2 : w.cell? ⟨r, 2, none⟩ = some (.slice (some ⟨gf, 0, none⟩) (F'.length + 1) fc) := c2
    have hcell : w.cell? ⟨gf, F'.length, none⟩ = some (.int .i64 (n : Int)) := by
      rw [hcn]
      simp [nv]
    clear hcn hce1 hce2 hm hao' h1 h2 h3 h4 h5 h6 h7 hF hpl c2 hlF
    obtain ⟨x, hx⟩ : ∃ x, x = F'.length := ⟨_, rfl⟩
    rw [← hx] at hc2 hcell hn2
    clear hx
    have hw1 : IntKind.i64.wrap (x : Int) = x := IntWalk.i64_in _ (by omega)
    have hw2 : IntKind.i64.wrap (((x + 1 : Nat) : Int) - 1) = x := by rw [IntWalk.i64_in _ (by omega)]; omega
    have hw3 : IntKind.i64.wrap ((x : Int) + 1 - 1) = x := by rw [IntWalk.i64_in _ (by omega)]; omega
    have hne1 : (((x + 1 : Nat) : Int) == 0) = false := by simp; omega
    have hne2 : ((x : Int) + 1 == 0) = false := by simp; omega
    have hlt : (x : Int) < ((x + 1 : Nat) : Int) := by omega
    go_enter Try.func49, Try.ntmps49
    go_wp2
    go_quiet (fail)
    go_wp2
    go_ret
    refine ⟨_, rfl, ?_, _, rfl⟩
    exact HP.out

/-- the farthest of a row. -/
theorem maxM_take (M : List Miss) {k : Nat} (h : k < M.length) : maxM (M.take (k + 1)) = max (maxM (M.take k)) M[k].1 := by rw [List.take_succ_eq_append_getElem h, maxM_snoc]

set_option maxHeartbeats 1000000 in
theorem doc_Far {H : Nat → Prop} {r : Nat} {v : Value} {L : List Part} {F : List Nat} (w : World) (h : RefS H w r v L F) (hF : ∀ n ∈ F, n ≤ L.length) (hn : L.length ≤ 1000000) (hn2 : F.length ≤ 1000000) :
    Calls Try.prog 31 #[.pointer (some ⟨r, 0, none⟩)] w fun e w' => e = .returned (.int .i64 (maxM (partL L F))) ∧ Below w.heap.size w w' := by
  have hp := Lib.hid (doc_part w h hF hn hn2)
  clear h
  obtain ⟨M, hM⟩ : ∃ M, M = partL L F := ⟨_, rfl⟩
  rw [← hM] at hp ⊢
  clear hM
  go_enter Try.func31, Try.ntmps31
  go_wp2_with fail
  refine hp.out.mono ?_
  rintro e w1 ⟨v1, rfl, hA, m, rfl⟩
  obtain ⟨ao, b, off, cap, rfl, hl, hmx, ha, hc⟩ := hA
  have Ha := Lib.hid ha
  have Hc := Lib.hid hc
  have hlm : M.length ≤ 9223372036854775807 := by unfold maxLen at hmx; omega
  clear ha hc hp
  go_wp2
  go_loop [4, 5] (fun t i => ∃ k : Nat, k ≤ M.length ∧ i = .int .i64 k ∧ t = .int .i64 (maxM (M.take k))) (fun _ i => M.length - (intOf i).toNat)
  case atStart => exact ⟨0, by omega, rfl, rfl⟩
  case round =>
    obtain ⟨k, hk, rfl, rfl⟩ := hrel
    by_cases hlt : k < M.length
    · have hkI : (k : Int) < M.length := by omega
      obtain ⟨rfl, hbl⟩ := Ha.out (by omega)
      have hc0 : w.cell? ⟨b, off + k * 5, none⟩ = some (.int .i64 M[k].1) := Hc.out k hlt 0 (by omega)
      obtain ⟨x, hx⟩ : ∃ x, x = M[k].1 := ⟨_, rfl⟩
      have HX := Lib.hid hx
      rw [← hx] at hc0
      clear hx
      go_wp2
      go_round
      case rel =>
        refine ⟨k + 1, by omega, by go_num, ?_⟩
        rw [maxM_take M hlt, ← HX.out]
        have hmax : (if maxM (M.take k) < x then x else maxM (M.take k)) = max (maxM (M.take k)) x := by split <;> omega
        rw [← hmax]
      case measure => simp [intOf] <;> omega
    · obtain rfl : k = M.length := by omega
      have hkI : ¬ (M.length : Int) < M.length := by omega
      go_wp2
      go_ret
      exact ⟨rfl, below_draws (Below.refl _ _) _⟩
end Go.Proofs.Ytfhgmnlhmfnckaa
