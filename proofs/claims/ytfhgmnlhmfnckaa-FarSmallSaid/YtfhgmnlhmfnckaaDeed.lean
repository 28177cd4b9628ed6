/-
  Chapter far: rows of deeds that come in; how long their texts can be.
-/
import Derived.Test.YtfhgmnlhmfnckaaAsk
import Derived.Test.YtfhgmnlhmfnckaaLen
namespace Go.Proofs.Ytfhgmnlhmfnckaa
open Go.RowKit Go.Lib Go.ChangeShapes Go.WideShapes Go.ChangeAt

section
variable {H : Type} {enc : TypeId × Value → H} {P : Program} {w : World} {base : Nat} {spare : Nat → Bool} {held : Bool}

theorem weights_all {e : TypeId} {l : List (DataW H)} {d : DataW H} (hd : d ∈ l) {m : Nat} (hm : m ∈ d.weights P e) : m ∈ DataW.weightsAll P e l := by
  induction l with
  | nil => cases hd
  | cons a r ih =>
    simp only [DataW.weightsAll, List.mem_append]
    rcases List.mem_cons.1 hd with rfl | h
    · exact .inl hm
    · exact .inr (ih h)

/-- an argument that is a slice: what each element's cells are, its sizes being bounded. -/
theorem open_rowsQ {t e : TypeId} {C B : Nat} {Q : List Value → Prop} (ht : P.underlying t = some (.slice e)) (hC : P.cellsOf e = C) (hpos : 0 < C) {v : Value} {fuel : Nat} {x : DataW H × List MemPlace}
    (hQ : ∀ fuel cs y, DataW.trod enc P w base spare held fuel e cs = some y → (∀ m ∈ y.1.weights P e, m ≤ B) → Q cs)
    (h : DataW.trod enc P w base spare held fuel t [v] = some x) (hB : ∀ m ∈ x.1.weights P t, m ≤ B) : ∃ es : List (List Value), RowsAt w C v es ∧ ∀ c ∈ es, Q c := by
  rcases Go.Deep.open_slice ht h with ⟨hcs, _⟩ | ⟨a, len, cap, m, q, D, Pl, hcs, hb, hl, hm, hmm, hx, hi⟩
  · simp only [List.cons.injEq, and_true] at hcs
    subst hcs
    exact ⟨[], ⟨none, 0, 0, 0, rfl, Nat.le_refl _, by unfold maxLen; omega, fun _ => ⟨rfl, rfl⟩, fun h => by simp at h, fun e he => by simp at he, fun i hi => by simp at hi⟩, fun c hc => by simp at hc⟩
  · simp only [List.cons.injEq, and_true] at hcs
    subst hcs
    rw [hC] at hi
    have hlm : len ≤ m := by rw [hmm]; split <;> omega
    have hW : ∀ i, i < len → ∀ k ∈ (D i).weights P e, k ≤ B := by
      intro i hil k hk
      refine hB k ?_
      rw [hx]
      simp only [DataW.weights, ht, List.mem_cons, List.mem_append]
      exact .inr (.inl (weights_all (List.mem_map.2 ⟨i, List.mem_range.2 hil, rfl⟩) hk))
    have hall : ∀ i, i < len → ∃ c : List Value, Q c ∧ c.length = C ∧ ∀ j, j < C → w.cell? (a.add (i * C + j)) = c[j]? := by
      intro i hil
      obtain ⟨cs', h1, h2⟩ := hi i (by omega)
      obtain ⟨_, hcl, hat⟩ := World.cells?_some h1
      refine ⟨cs', hQ _ cs' _ h2 (hW i hil), hcl, fun j hj => ?_⟩
      rw [← Go.Deep.add_add]
      exact hat j hj
    obtain ⟨f, hf⟩ := Classical.axiomOfChoice (r := fun (i : Fin len) (c : List Value) => Q c ∧ c.length = C ∧ ∀ j, j < C → w.cell? (a.add (i * C + j)) = c[j]?) (fun i => hall i i.2)
    have hspot : 0 < len → a.spot = none := by
      intro h0
      have h1 := (hf ⟨0, h0⟩).2.2 0 hpos
      have h2 := (hf ⟨0, h0⟩).2.1
      rw [List.getElem?_eq_getElem (by omega)] at h1
      cases hs : a.spot with
      | none => rfl
      | some s =>
        simp [Addr.add, World.cell?, hs] at h1
        split at h1 <;> simp at h1
    have hal : 0 < len → a = ⟨a.block, a.off, none⟩ := by
      intro h0
      obtain ⟨b, off, sp⟩ := a
      have := hspot h0
      simp only at this
      subst this
      rfl
    refine ⟨List.ofFn f, ⟨some a, a.block, a.off, cap, by simp, by simpa using hl, hm, (fun h => by cases h), fun h0 => ?_, fun e he => ?_, fun i hi j hj => ?_⟩, fun c hc => ?_⟩
    · have h0' : 0 < len := by simpa using h0
      refine ⟨by rw [← hal h0'], ?_⟩
      have h1 := (hf ⟨0, h0'⟩).2.2 0 hpos
      have h2 := (hf ⟨0, h0'⟩).2.1
      rw [List.getElem?_eq_getElem (by omega), hal h0', add_none] at h1
      exact World.block_lt_of_cell? (a := ⟨a.block, _, none⟩) _ h1
    · obtain ⟨i, rfl⟩ := List.mem_ofFn.1 he
      exact (hf i).2.1
    · have hil : i < len := by simpa using hi
      have h1 := (hf ⟨i, hil⟩).2.2 j hj
      rw [hal (by omega), add_none] at h1
      simp only [List.getElem_ofFn]
      rw [← h1, Nat.add_assoc]
    · obtain ⟨i, rfl⟩ := List.mem_ofFn.1 hc
      exact (hf i).1
end

/-- a deed. -/
structure Deed where
  what : Int
  place : Int
  c : Nat → Bool
  s : ByteArray
def deedc (d : Deed) : List Value := [.int .i64 d.what, .int .i64 d.place, .int .u64 (word d.c 0), .int .u64 (word d.c 1), .int .u64 (word d.c 2), .int .u64 (word d.c 3), .string d.s]
def DeedOk (d : Deed) : Prop := (-9223372036854775808 ≤ d.what ∧ d.what ≤ 9223372036854775807) ∧ (-9223372036854775808 ≤ d.place ∧ d.place ≤ 9223372036854775807) ∧ d.s.size ≤ reachBytes
/-- a slice of deeds. -/
def DeedsAt (w : World) (v : Value) (l : List Deed) : Prop := RowsAt w 7 v (l.map deedc) ∧ ∀ d ∈ l, DeedOk d
theorem DeedsAt.later {w w' : World} {v : Value} {l : List Deed} (h : DeedsAt w v l) (hb : Below w.heap.size w w') : DeedsAt w' v l := ⟨h.1.later hb, h.2⟩

theorem Try.flatDeed : flatOf Try.prog 5 55 = some [.int .i64, .int .i64, .int .u64, .int .u64, .int .u64, .int .u64, .one 9] := by kernel_rfl
theorem Try.cellsDeed : Try.prog.cellsOf 55 = 7 := by kernel_rfl
theorem Try.deedText : (match Try.prog.underlying 55 with | some (.struct fs) => (fs[3]?.map fun f => (f.type, f.offset)) | _ => none) = some (9, 6) := by kernel_rfl
theorem Try.cellsString : Try.prog.cellsOf 9 = 1 := by kernel_rfl

theorem weights_each {H : Type} {P : Program} : ∀ (ts : List TypeId) (ds : List (DataW H)) (j : Nat) {t : TypeId} {d : DataW H}, ts[j]? = some t → ds[j]? = some d → ∀ m ∈ d.weights P t, m ∈ DataW.weightsEach P ts ds
  | [], _, _, _, _, h, _, _, _ => by simp at h
  | _ :: _, [], _, _, _, _, h, _, _ => by simp at h
  | t0 :: ts, d0 :: ds, 0, _, _, h, k, m, hm => by
    simp at h k
    subst h; subst k
    simp only [DataW.weightsEach, List.mem_append]
    exact .inl hm
  | t0 :: ts, d0 :: ds, j + 1, _, _, h, k, m, hm => by
    simp only [DataW.weightsEach, List.mem_append]
    exact .inr (weights_each ts ds j (by simpa using h) (by simpa using k) m hm)

theorem ok_deed {H : Type} {enc : TypeId × Value → H} {w : World} {base : Nat} {spare : Nat → Bool} {held : Bool} {fuel : Nat} {cs : List Value} {y : DataW H × List MemPlace}
    (h : DataW.trod enc Try.prog w base spare held fuel 55 cs = some y) (hB : ∀ m ∈ y.1.weights Try.prog 55, m ≤ reachBytes) : ∃ d, cs = deedc d ∧ DeedOk d := by
  obtain ⟨hl, hk⟩ := open_flat _ _ _ _ _ _ Try.flatDeed h
  have hsz : ∀ s, cs[6]? = some (.string s) → s.size ≤ reachBytes := by
    intro s hs
    have hd := Try.deedText
    split at hd
    · rename_i fs hu
      obtain ⟨xs, m, _, rfl, hcl, hxl, hf⟩ := DataW.trod_struct hu h
      rw [Option.map_eq_some_iff] at hd
      obtain ⟨f, hf3, hft⟩ := hd
      simp only [Prod.mk.injEq] at hft
      have := hf 3 f hf3
      have h3l : 3 < xs.length := by have := (Array.getElem?_eq_some_iff.1 hf3).1; omega
      rw [hft.1, hft.2, Try.cellsString, List.getElem?_eq_getElem h3l] at this
      obtain ⟨s', h1, h2, _⟩ := DataW.trod_string Try.underlying9 this
      have h1' : cs[6]? = some (.string s') := by
        have e : ((cs.drop 6).take 1)[0]? = some (.string s') := by rw [h1]; rfl
        rw [List.getElem?_take_of_lt (by omega), List.getElem?_drop] at e
        exact e
      rw [hs] at h1'
      simp only [Option.some.injEq, Value.string.injEq] at h1'
      subst h1'
      refine hB _ ?_
      simp only [DataW.weights, hu]
      refine weights_each (P := Try.prog) (H := H) _ _ 3 (t := 9) (d := xs[3].1) ?_ ?_ _ ?_
      · rw [List.getElem?_map, Array.getElem?_toList, hf3]
        simp [hft.1]
      · rw [List.getElem?_map, List.getElem?_eq_getElem h3l]
        rfl
      · rw [h2]
        simp [DataW.weights]
    · cases hd
  match cs, hl, hsz with
  | [v0, v1, v2, v3, v4, v5, v6], _, hsz =>
    obtain ⟨wh, rfl, hw⟩ := hk 0 _ _ rfl rfl
    obtain ⟨pl, rfl, hp⟩ := hk 1 _ _ rfl rfl
    obtain ⟨a, rfl, ha⟩ := hk 2 _ _ rfl rfl
    obtain ⟨b, rfl, hb⟩ := hk 3 _ _ rfl rfl
    obtain ⟨c, rfl, hc⟩ := hk 4 _ _ rfl rfl
    obtain ⟨d, rfl, hd⟩ := hk 5 _ _ rfl rfl
    obtain ⟨fu, y, hy⟩ := hk 6 _ _ rfl rfl
    obtain ⟨s, h1, _⟩ := DataW.trod_string Try.underlying9 hy
    simp only [List.cons.injEq, and_true] at h1
    subst h1
    obtain ⟨q, rfl, rfl, rfl, rfl⟩ := cls_of_four ha hb hc hd
    exact ⟨⟨wh, pl, q, s⟩, rfl, wf_i64 hw, wf_i64 hp, hsz s rfl⟩

/-- an argument that is a row of deeds. -/
theorem open_deeds {H : Type} {enc : TypeId × Value → H} {W : World} {base : Nat} {v : Value} {d : DataW H} {p : List MemPlace}
    (hval : Value.okWide Try.prog W .any base 44 v) (h : DataW.Trod enc Try.prog W 0 (fun _ => true) true 44 v d p) (hB : ∀ m ∈ d.weights Try.prog 44, m ≤ reachBytes) : ∃ l : List Deed, DeedsAt W v l := by
  obtain ⟨a0, len, cap, rfl⟩ := okWide_slice Try.underlying44 hval
  obtain ⟨fuel, hf⟩ := h
  simp only [Value.cells] at hf
  obtain ⟨es, hr, ho⟩ := open_rowsQ (Q := fun c => ∃ d, c = deedc d ∧ DeedOk d) Try.underlying44 Try.cellsDeed (by omega) (fun _ _ _ h1 h2 => ok_deed h1 h2) hf hB
  have hq : ∀ es : List (List Value), (∀ c ∈ es, ∃ d, c = deedc d ∧ DeedOk d) → ∃ l : List Deed, es = l.map deedc ∧ ∀ q ∈ l, DeedOk q := by
    intro es
    induction es with
    | nil => intro _; exact ⟨[], rfl, fun q hq => by simp at hq⟩
    | cons c r ih =>
      intro h
      obtain ⟨l, rfl, hl⟩ := ih (fun c hc => h c (by simp [hc]))
      obtain ⟨q, rfl, hq⟩ := h c (by simp)
      refine ⟨q :: l, rfl, fun q' hq' => ?_⟩
      rcases List.mem_cons.1 hq' with rfl | h
      · exact hq
      · exact hl q' h
  obtain ⟨l, rfl, hl⟩ := hq es ho
  exact ⟨l, hr, hl⟩

theorem DeedsAt.cells {w : World} {v : Value} {l : List Deed} (h : DeedsAt w v l) : ∃ ao cap, v = .slice ao l.length cap ∧ l.length ≤ cap ∧ cap ≤ maxLen ∧ ∀ i (hi : i < l.length), ∃ b off, ao = some ⟨b, off, none⟩ ∧ b < w.heap.size ∧
    w.cell? ⟨b, off + i * 7, none⟩ = some (.int .i64 l[i].what) ∧ w.cell? ⟨b, off + i * 7 + 1, none⟩ = some (.int .i64 l[i].place) ∧ w.cell? ⟨b, off + i * 7 + 2, none⟩ = some (.int .u64 (word l[i].c 0)) ∧ w.cell? ⟨b, off + i * 7 + 3, none⟩ = some (.int .u64 (word l[i].c 1)) ∧ w.cell? ⟨b, off + i * 7 + 4, none⟩ = some (.int .u64 (word l[i].c 2)) ∧
    w.cell? ⟨b, off + i * 7 + 5, none⟩ = some (.int .u64 (word l[i].c 3)) ∧ w.cell? ⟨b, off + i * 7 + 6, none⟩ = some (.string l[i].s) := by
  obtain ⟨⟨ao, b, off, cap, rfl, hl, hm, hn, ha, he, hc⟩, _⟩ := h
  simp only [List.length_map] at hl ha hn hc ⊢
  refine ⟨ao, cap, rfl, hl, hm, fun i hi => ⟨b, off, (ha (by omega)).1, (ha (by omega)).2, ?_⟩⟩
  have h := fun j hj => hc i hi j hj
  simp only [List.getElem_map] at h
  refine ⟨?_, h 1 (by omega), h 2 (by omega), h 3 (by omega), h 4 (by omega), h 5 (by omega), h 6 (by omega)⟩
  exact h 0 (by omega)
end Go.Proofs.Ytfhgmnlhmfnckaa
