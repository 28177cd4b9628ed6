/-
  Chapter 05: rows of deeds that come in; how many things there are.
-/
import Derived.Test.YtonnolhhgeekpaaRowsQ
import Derived.Test.YtonnolhhgeekpaaSame
import Derived.Test.YtonnolhhgeekpaaOwn
namespace Go.Proofs.Ytonnolhhgeekpaa
open Go.RowKit Go.ChangeShapes Go.WideShapes Go.ChangeAt

/-- a list of numbers, inside of something that came in. -/
theorem open_intsQ {H : Type} {enc : TypeId × Value → H} {P : Program} {w : World} {t e : TypeId} {fuel : Nat} {cs : List Value} {x : DataW H × List MemPlace}
    (ht : P.underlying t = some (.slice e)) (he : P.underlying e = some (.int .i64)) (hc : P.cellsOf e = 1) (hby : P.bytesOf e = 8) (hf : DataW.trod enc P w 0 (fun _ => true) true fuel t cs = some x) (hB : ∀ m ∈ x.1.weights P t, m ≤ reachBytes) :
    ∃ v zs, cs = [v] ∧ CellsAt w v (iv zs) ∧ zs.length ≤ 17592186044416 := by
  rcases open_ints ht he hc hf with ⟨hcs, _⟩ | ⟨a, len, cap, zs, hcs, _, hl, hm, hz, hx, hcell, hwz⟩
  · exact ⟨_, [], hcs, ⟨none, 0, 0, 0, rfl, Nat.le_refl _, by unfold maxLen; omega, fun _ => ⟨rfl, rfl⟩, fun h => by simp at h, by simp, fun k hk => by simp at hk⟩, by simp⟩
  · simp only [if_true] at hz
    have hlen : (zs.take len).length = len := by simp; omega
    have hspot : 0 < zs.length → a.spot = none := by
      intro hp
      cases hs : a.spot with
      | none => rfl
      | some s =>
        have h0 := hcell 0 hp
        simp [Addr.add, World.cell?, hs] at h0
        split at h0 <;> simp at h0
    refine ⟨_, zs.take len, hcs, ⟨some a, a.block, a.off, cap, by rw [List.length_map, hlen], by rw [List.length_map, hlen]; exact hl, hm, fun h => by simp at h, ?_, iv_oneCell _, fun k hk => ?_⟩, ?_⟩
    · intro hp
      rw [List.length_map, hlen] at hp
      have := hspot (by omega)
      obtain ⟨b, off, sp⟩ := a
      simp only at this
      subst this
      rfl
    · rw [List.length_map, hlen] at hk
      have hck := hcell k (by omega)
      have := hspot (by omega)
      obtain ⟨b, off, sp⟩ := a
      simp only at this
      subst this
      rw [add_none] at hck
      rw [hck]
      simp [show k < zs.length by omega]
    · have := hB ((len + (zs.length - len)) * 8) (by
        rw [hx, ← hby]
        have h := weights_slice (H := H) ht (lits .i64 (zs.take len)) (lits .i64 (zs.drop len))
        have e1 : (lits (H := H) .i64 (zs.take len)).length = len := by simp [lits]; omega
        have e2 : (lits (H := H) .i64 (zs.drop len)).length = zs.length - len := by simp [lits]
        rw [e1, e2] at h
        exact h)
      rw [hlen]
      simp only [reachBytes] at this
      omega

theorem wf_i64 {n : Int} (h : (Lit.int .i64 n).wf = true) : -9223372036854775808 ≤ n ∧ n ≤ 9223372036854775807 := by
  simpa [Lit.wf, IntKind.min, IntKind.max, IntKind.signed, IntKind.bits] using h

/-- a deed. -/
structure Deed where
  what : Int
  n : Int
  x : Int
  v : Value
  l : List Int
def deedc (d : Deed) : List Value := [.int .i64 d.what, .int .i64 d.n, .int .i64 d.x, d.v]
def DeedOk (w : World) (d : Deed) : Prop := (Lit.int .i64 d.what).wf = true ∧ CellsAt w d.v (iv d.l) ∧ d.l.length ≤ 17592186044416
/-- a slice of deeds. -/
def DeedsAt (w : World) (v : Value) (l : List Deed) : Prop := RowsAt w 4 v (l.map deedc) ∧ ∀ d ∈ l, DeedOk w d
theorem DeedsAt.later {w w' : World} {v : Value} {l : List Deed} (h : DeedsAt w v l) (hb : Below w.heap.size w w') : DeedsAt w' v l := ⟨h.1.later hb, fun d hd => ⟨(h.2 d hd).1, (h.2 d hd).2.1.later hb, (h.2 d hd).2.2⟩⟩

theorem Try.flatDeed : flatOf Try.prog 5 41 = some [.int .i64, .int .i64, .int .i64, .one 22] := by kernel_rfl
theorem Try.cellsDeed : Try.prog.cellsOf 41 = 4 := by kernel_rfl
theorem Try.deedList : (match Try.prog.underlying 41 with | some (.struct fs) => (fs[3]?.map fun f => (f.type, f.offset)) | _ => none) = some (22, 3) := by kernel_rfl
theorem Try.cellsInts : Try.prog.cellsOf 22 = 1 := by kernel_rfl

theorem ok_deed {H : Type} {enc : TypeId × Value → H} {w : World} {fuel : Nat} {cs : List Value} {y : DataW H × List MemPlace}
    (h : DataW.trod enc Try.prog w 0 (fun _ => true) true fuel 41 cs = some y) (hB : ∀ m ∈ y.1.weights Try.prog 41, m ≤ reachBytes) : ∃ d, cs = deedc d ∧ DeedOk w d := by
  obtain ⟨hl, hk⟩ := open_flat _ _ _ _ _ _ Try.flatDeed h
  have hsz : ∃ v zs, cs[3]? = some v ∧ CellsAt w v (iv zs) ∧ zs.length ≤ 17592186044416 := by
    have hd := Try.deedList
    split at hd
    · rename_i fs hu
      rw [Option.map_eq_some_iff] at hd
      obtain ⟨f, hf3, hft⟩ := hd
      simp only [Prod.mk.injEq] at hft
      obtain ⟨m, x, hx, hw⟩ := open_field hu 3 hf3 hft.1 h
      rw [hft.2, Try.cellsInts] at hx
      obtain ⟨v, zs, h1, h2, h3⟩ := open_intsQ Try.underlying22 Try.underlying3 Try.cells3 Try.bytes3 hx (fun k hk => hB k (hw k hk))
      refine ⟨v, zs, ?_, h2, h3⟩
      have e : ((cs.drop 3).take 1)[0]? = some v := by rw [h1]; rfl
      rw [List.getElem?_take_of_lt (by omega), List.getElem?_drop] at e
      exact e
    · cases hd
  match cs, hl, hsz with
  | [v0, v1, v2, v3], _, ⟨v, zs, h1, h2, h3⟩ =>
    obtain ⟨wh, rfl, hw⟩ := hk 0 _ _ rfl rfl
    obtain ⟨n, rfl, _⟩ := hk 1 _ _ rfl rfl
    obtain ⟨x, rfl, _⟩ := hk 2 _ _ rfl rfl
    simp only [List.getElem?_cons_succ, List.getElem?_cons_zero, Option.some.injEq] at h1
    subst h1
    exact ⟨⟨wh, n, x, v3, zs⟩, rfl, hw, h2, h3⟩

/-- an argument that is a row of deeds. -/
theorem open_deeds {H : Type} {enc : TypeId × Value → H} {W : World} {base : Nat} {v : Value} {d : DataW H} {p : List MemPlace}
    (hval : Value.okWide Try.prog W .any base 35 v) (h : DataW.Trod enc Try.prog W 0 (fun _ => true) true 35 v d p) (hB : ∀ m ∈ d.weights Try.prog 35, m ≤ reachBytes) : ∃ l : List Deed, DeedsAt W v l := by
  obtain ⟨a0, len, cap, rfl⟩ := okWide_slice Try.underlying35 hval
  obtain ⟨fuel, hf⟩ := h
  simp only [Value.cells] at hf
  obtain ⟨es, hr, ho⟩ := open_rowsQ (Q := fun c => ∃ d, c = deedc d ∧ DeedOk W d) Try.underlying35 Try.cellsDeed (by omega) (fun _ _ _ h1 h2 => ok_deed h1 h2) hf hB
  have hq : ∀ es : List (List Value), (∀ c ∈ es, ∃ d, c = deedc d ∧ DeedOk W d) → ∃ l : List Deed, es = l.map deedc ∧ ∀ q ∈ l, DeedOk W q := by
    intro es
    induction es with
    | nil => intro _; exact ⟨[], rfl, fun q hq => by simp at hq⟩
    | cons c r ih =>
      intro h
      obtain ⟨l, rfl, hl⟩ := ih (fun c hc => h c (by simp [hc]))
      obtain ⟨q, rfl, hq⟩ := h c (by simp)
      refine ⟨q :: l, rfl, fun q' hq' => ?_⟩
      rcases List.mem_cons.1 hq' with rfl | h
      · exact hq
      · exact hl q' h
  obtain ⟨l, rfl, hl⟩ := hq es ho
  exact ⟨l, hr, hl⟩

theorem DeedsAt.cells {w : World} {v : Value} {l : List Deed} (h : DeedsAt w v l) : ∃ ao cap, v = .slice ao l.length cap ∧ l.length ≤ cap ∧ cap ≤ maxLen ∧ ∀ i (hi : i < l.length), ∃ b off, ao = some ⟨b, off, none⟩ ∧ b < w.heap.size ∧
    w.cell? ⟨b, off + i * 4, none⟩ = some (.int .i64 l[i].what) ∧ w.cell? ⟨b, off + i * 4 + 1, none⟩ = some (.int .i64 l[i].n) ∧ w.cell? ⟨b, off + i * 4 + 2, none⟩ = some (.int .i64 l[i].x) ∧ w.cell? ⟨b, off + i * 4 + 3, none⟩ = some l[i].v := by
  obtain ⟨⟨ao, b, off, cap, rfl, hl, hm, hn, ha, he, hc⟩, _⟩ := h
  simp only [List.length_map] at hl ha hn hc ⊢
  refine ⟨ao, cap, rfl, hl, hm, fun i hi => ⟨b, off, (ha (by omega)).1, (ha (by omega)).2, ?_⟩⟩
  have h := fun j hj => hc i hi j hj
  simp only [List.getElem_map] at h
  refine ⟨?_, h 1 (by omega), h 2 (by omega), h 3 (by omega)⟩
  exact h 0 (by omega)

/-! ### size -/
def sumD (l : List Deed) : Nat := (l.map fun d => d.l.length).sum
theorem sumD_take (l : List Deed) {k : Nat} (h : k < l.length) : sumD (l.take (k + 1)) = sumD (l.take k) + l[k].l.length := by
  unfold sumD
  rw [List.take_succ_eq_append_getElem h, List.map_append, List.sum_append]
  simp
theorem sumD_le (l : List Deed) (k : Nat) : sumD (l.take k) ≤ sumD l := by
  unfold sumD
  have := List.take_append_drop k l
  conv => rhs; rw [← this]
  rw [List.map_append, List.sum_append]
  omega

set_option maxHeartbeats 1000000 in
theorem law_size (w : World) (u : Value) (l : List Deed) (hu : DeedsAt w u l) (h9 : l.length ≤ 140737488351232) :
    Calls Try.prog 17 #[u] w fun e w' => ∃ n : Nat, e = .returned (.int .i64 n) ∧ (n ≤ 400 → n = l.length + sumD l) ∧ w = w' := by
  obtain ⟨ao2, cap2, rfl, _, _, hcell⟩ := hu.cells
  have Hc := Lib.hid hcell
  have hok := Lib.hid hu.2
  clear hcell hu
  obtain ⟨N, hN⟩ : ∃ N, N = l.length := ⟨_, rfl⟩
  have HN := Lib.hid hN
  go_enter Try.func17, Try.ntmps17
  go_wp2
  rw [← hN]
  have h9' : N ≤ 140737488351232 := by omega
  clear hN h9
  go_loop [3, 4] (fun n i => ∃ k : Nat, k ≤ N ∧ i = .int .i64 k ∧ n = .int .i64 ((N + sumD (l.take k) : Nat) : Int) ∧ (k < N → True) ∧ N + sumD (l.take k) ≤ 422212465065984) (fun _ i => N - (intOf i).toNat)
  case atStart => exact ⟨0, by omega, rfl, by simp [sumD], fun _ => trivial, by simp [sumD]; omega⟩
  case round =>
    obtain ⟨k, hk, rfl, rfl, _, hb⟩ := hrel
    obtain ⟨S, hS⟩ : ∃ S, S = N + sumD (l.take k) := ⟨_, rfl⟩
    rw [← hS] at hb ⊢
    have HS := Lib.hid hS
    clear hS
    by_cases hlt : k < N
    · have hkI : (k : Int) < N := by omega
      by_cases hle : S ≤ 400
      · have hleI : (S : Int) ≤ 400 := by omega
        have hkl : k < l.length := by have := HN.out; omega
        obtain ⟨b2, off2, rfl, hbl, _, _, _, c3⟩ := Hc.out k hkl
        obtain ⟨_, hat, hs⟩ := hok.out l[k] (List.getElem_mem hkl)
        have hsum := Lib.hid (sumD_take l hkl)
        obtain ⟨m, hm0⟩ : ∃ m, m = l[k].l.length := ⟨_, rfl⟩
        obtain ⟨ao, _, _, cap, hv, _⟩ := hat
        rw [hv] at c3
        simp only [List.length_map] at c3
        rw [← hm0] at c3 hs
        have Hm0 := Lib.hid hm0
        clear hm0 hv
        have hadd : IntKind.i64.wrap ((S : Int) + m) = ((S + m : Nat) : Int) := by rw [IntWalk.i64_in _ (by omega)]; omega
        go_wp2
        go_round
        case rel =>
          refine ⟨k + 1, by omega, by go_num, ?_, fun _ => trivial, ?_⟩
          · rw [hsum.out, ← Hm0.out, ← Nat.add_assoc, ← HS.out]
            exact congrArg _ (by omega)
          · rw [hsum.out, ← Hm0.out, ← Nat.add_assoc, ← HS.out]
            omega
        case measure => simp [intOf] <;> omega
      · have hleI : ¬ (S : Int) ≤ 400 := by omega
        go_wp2
        go_ret
        exact ⟨S, rfl, fun h => by omega, rfl⟩
    · obtain rfl : k = N := by omega
      have hkI : ¬ (k : Int) < k := by omega
      go_wp2
      go_ret
      refine ⟨S, rfl, fun _ => ?_, rfl⟩
      rw [HS.out, HN.out, List.take_length]
end Go.Proofs.Ytonnolhhgeekpaa
