import Derived.Test.YtpchjpmkkiopiaaGreatOpen
import Derived.Test.YtpchjpmkkiopiaaGreatMmCm
namespace Go.Proofs.YtpchjpmkkiopiaaGreat
open Go.ChangeShapes Go.WideShapes Go.ChangeAt Go.RowKit

theorem slice_len {H : Type} {enc : TypeId × Value → H} {P : Program} {W : World} {t e : TypeId} {v : Value} {d : DataW H} {p : List MemPlace} (ht : P.underlying t = some (.slice e))
    (h : DataW.Trod enc P W 0 (fun _ => true) true t v d p) (ts : List TypeId) (ds : List (DataW H)) (j : Nat) (hsz : (DataW.weightsEach P ts ds).all (· ≤ reachBytes) = true) (h1 : ts[j]? = some t) (h2 : ds[j]? = some d) :
    ∀ ao len cap, v = .slice ao len cap → len * P.bytesOf e ≤ 140737488351232 := by
  rintro ao len cap rfl
  obtain ⟨fuel, hf⟩ := h
  simp only [Value.cells] at hf
  rcases Go.Deep.open_slice ht hf with ⟨hcs, _⟩ | ⟨a, len', cap', m, q, D, Pl, hcs, _, hl, hm, hmm, hx, _⟩
  · simp at hcs
    obtain ⟨_, rfl, _⟩ := hcs
    omega
  · simp at hcs
    obtain ⟨rfl, rfl, rfl⟩ := hcs
    simp only [Prod.mk.injEq] at hx
    obtain ⟨rfl, _⟩ := hx
    have := sized_slice hsz h1 h2 ht
    simp only [List.length_map, List.length_range, reachBytes] at this
    have h3 : len * P.bytesOf e ≤ (len + (m - len)) * P.bytesOf e := Nat.mul_le_mul_right _ (by omega)
    omega
end Go.Proofs.YtpchjpmkkiopiaaGreat
namespace Go.Proofs.YtpchjpmkkiopiaaGreat
open Go.RowKit Go.Lib Go.ChangeShapes Go.WideShapes Go.ChangeAt

section
variable {H : Type} {enc : TypeId × Value → H} {P : Program} {w : World} {base : Nat} {spare : Nat → Bool} {held : Bool}

theorem weights_all {e : TypeId} {l : List (DataW H)} {d : DataW H} (hd : d ∈ l) {m : Nat} (hm : m ∈ d.weights P e) : m ∈ DataW.weightsAll P e l := by
  induction l with
  | nil => cases hd
  | cons a r ih =>
    simp only [DataW.weightsAll, List.mem_append]
    rcases List.mem_cons.1 hd with rfl | h
    · exact .inl hm
    · exact .inr (ih h)

/-- an argument that is a slice: what each element's cells are, its sizes being bounded. -/
theorem open_rowsQ {t e : TypeId} {C B : Nat} {Q : List Value → Prop} (ht : P.underlying t = some (.slice e)) (hC : P.cellsOf e = C) (hpos : 0 < C) {v : Value} {fuel : Nat} {x : DataW H × List MemPlace}
    (hQ : ∀ fuel cs y, DataW.trod enc P w base spare held fuel e cs = some y → (∀ m ∈ y.1.weights P e, m ≤ B) → Q cs)
    (h : DataW.trod enc P w base spare held fuel t [v] = some x) (hB : ∀ m ∈ x.1.weights P t, m ≤ B) : ∃ es : List (List Value), RowsAt w C v es ∧ ∀ c ∈ es, Q c := by
  rcases Go.Deep.open_slice ht h with ⟨hcs, _⟩ | ⟨a, len, cap, m, q, D, Pl, hcs, hb, hl, hm, hmm, hx, hi⟩
  · simp only [List.cons.injEq, and_true] at hcs
    subst hcs
    exact ⟨[], ⟨none, 0, 0, 0, rfl, Nat.le_refl _, by unfold maxLen; omega, fun _ => ⟨rfl, rfl⟩, fun h => by simp at h, fun e he => by simp at he, fun i hi => by simp at hi⟩, fun c hc => by simp at hc⟩
  · simp only [List.cons.injEq, and_true] at hcs
    subst hcs
    rw [hC] at hi
    have hlm : len ≤ m := by rw [hmm]; split <;> omega
    have hW : ∀ i, i < len → ∀ k ∈ (D i).weights P e, k ≤ B := by
      intro i hil k hk
      refine hB k ?_
      rw [hx]
      simp only [DataW.weights, ht, List.mem_cons, List.mem_append]
      exact .inr (.inl (weights_all (List.mem_map.2 ⟨i, List.mem_range.2 hil, rfl⟩) hk))
    have hall : ∀ i, i < len → ∃ c : List Value, Q c ∧ c.length = C ∧ ∀ j, j < C → w.cell? (a.add (i * C + j)) = c[j]? := by
      intro i hil
      obtain ⟨cs', h1, h2⟩ := hi i (by omega)
      obtain ⟨_, hcl, hat⟩ := World.cells?_some h1
      refine ⟨cs', hQ _ cs' _ h2 (hW i hil), hcl, fun j hj => ?_⟩
      rw [← Go.Deep.add_add]
      exact hat j hj
    obtain ⟨f, hf⟩ := Classical.axiomOfChoice (r := fun (i : Fin len) (c : List Value) => Q c ∧ c.length = C ∧ ∀ j, j < C → w.cell? (a.add (i * C + j)) = c[j]?) (fun i => hall i i.2)
    have hspot : 0 < len → a.spot = none := by
      intro h0
      have h1 := (hf ⟨0, h0⟩).2.2 0 hpos
      have h2 := (hf ⟨0, h0⟩).2.1
      rw [List.getElem?_eq_getElem (by omega)] at h1
      cases hs : a.spot with
      | none => rfl
      | some s =>
        simp [Addr.add, World.cell?, hs] at h1
        split at h1 <;> simp at h1
    have hal : 0 < len → a = ⟨a.block, a.off, none⟩ := by
      intro h0
      obtain ⟨b, off, sp⟩ := a
      have := hspot h0
      simp only at this
      subst this
      rfl
    refine ⟨List.ofFn f, ⟨some a, a.block, a.off, cap, by simp, by simpa using hl, hm, (fun h => by cases h), fun h0 => ?_, fun e he => ?_, fun i hi j hj => ?_⟩, fun c hc => ?_⟩
    · have h0' : 0 < len := by simpa using h0
      refine ⟨by rw [← hal h0'], ?_⟩
      have h1 := (hf ⟨0, h0'⟩).2.2 0 hpos
      have h2 := (hf ⟨0, h0'⟩).2.1
      rw [List.getElem?_eq_getElem (by omega), hal h0', add_none] at h1
      exact World.block_lt_of_cell? (a := ⟨a.block, _, none⟩) _ h1
    · obtain ⟨i, rfl⟩ := List.mem_ofFn.1 he
      exact (hf i).2.1
    · have hil : i < len := by simpa using hi
      have h1 := (hf ⟨i, hil⟩).2.2 j hj
      rw [hal (by omega), add_none] at h1
      simp only [List.getElem_ofFn]
      rw [← h1, Nat.add_assoc]
    · obtain ⟨i, rfl⟩ := List.mem_ofFn.1 hc
      exact (hf i).1
end

theorem weights_each {H : Type} {P : Program} : ∀ (ts : List TypeId) (ds : List (DataW H)) (j : Nat) {t : TypeId} {d : DataW H}, ts[j]? = some t → ds[j]? = some d → ∀ m ∈ d.weights P t, m ∈ DataW.weightsEach P ts ds
  | [], _, _, _, _, h, _, _, _ => by simp at h
  | _ :: _, [], _, _, _, _, h, _, _ => by simp at h
  | t0 :: ts, d0 :: ds, 0, _, _, h, k, m, hm => by
    simp at h k
    subst h; subst k
    simp only [DataW.weightsEach, List.mem_append]
    exact .inl hm
  | t0 :: ts, d0 :: ds, j + 1, _, _, h, k, m, hm => by
    simp only [DataW.weightsEach, List.mem_append]
    exact .inr (weights_each ts ds j (by simpa using h) (by simpa using k) m hm)


theorem weights_slice {H : Type} {P : Program} {t e : TypeId} (ht : P.underlying t = some (.slice e)) (xs rest : List (DataW H)) : (xs.length + rest.length) * P.bytesOf e ∈ (DataW.slice xs rest).weights P t := by
  simp [DataW.weights, ht]

/-- a field of a struct: what is trodden at it, and its sizes. -/
theorem open_field {H : Type} {enc : TypeId × Value → H} {P : Program} {w : World} {base : Nat} {spare : Nat → Bool} {held : Bool} {t ft : TypeId} {fs : Array Field} {fuel : Nat} {cs : List Value} {y : DataW H × List MemPlace} (hu : P.underlying t = some (.struct fs)) (j : Nat) {f : Field} (hf : fs[j]? = some f) (hft : f.type = ft)
    (h : DataW.trod enc P w base spare held fuel t cs = some y) : ∃ (m : Nat) (x : DataW H × List MemPlace), DataW.trod enc P w base spare held m ft ((cs.drop f.offset).take (P.cellsOf ft)) = some x ∧ ∀ k ∈ x.1.weights P ft, k ∈ y.1.weights P t := by
  subst hft
  obtain ⟨xs, m, _, rfl, hcl, hxl, hx⟩ := DataW.trod_struct hu h
  have h3l : j < xs.length := by have := (Array.getElem?_eq_some_iff.1 hf).1; omega
  have := hx j f hf
  rw [List.getElem?_eq_getElem h3l] at this
  refine ⟨m, xs[j], this, fun k hk => ?_⟩
  simp only [DataW.weights, hu]
  refine weights_each (P := P) (H := H) _ _ j (t := f.type) (d := xs[j].1) ?_ ?_ _ hk
  · rw [List.getElem?_map, Array.getElem?_toList, hf]; rfl
  · rw [List.getElem?_map, List.getElem?_eq_getElem h3l]; rfl
end Go.Proofs.YtpchjpmkkiopiaaGreat
namespace Go.Proofs.YtpchjpmkkiopiaaGreat
open Go.RowKit Go.ChangeShapes Go.WideShapes Go.ChangeAt

theorem rows_len {H : Type} {enc : TypeId × Value → H} {P : Program} {w : World} {base : Nat} {spare : Nat → Bool} {held : Bool} {t e : TypeId} {v : Value} {fuel : Nat} {x : DataW H × List MemPlace} (ht : P.underlying t = some (.slice e))
    (h : DataW.trod enc P w base spare held fuel t [v] = some x) {B : Nat} (hB : ∀ m ∈ x.1.weights P t, m ≤ B) : ∀ ao len cap, v = .slice ao len cap → len * P.bytesOf e ≤ B := by
  rintro ao len cap rfl
  rcases Go.Deep.open_slice ht h with ⟨hcs, _⟩ | ⟨a, len', cap', m, q, D, Pl, hcs, _, hl, hm, hmm, hx, _⟩
  · simp at hcs
    obtain ⟨_, rfl, _⟩ := hcs
    omega
  · simp at hcs
    obtain ⟨rfl, rfl, rfl⟩ := hcs
    have hw := weights_slice (H := H) ht ((List.range len).map D) ((List.range (m - len)).map fun j => D (len + j))
    have := hB _ (by rw [hx]; exact hw)
    simp only [List.length_map, List.length_range] at this
    have h3 : len * P.bytesOf e ≤ (len + (m - len)) * P.bytesOf e := Nat.mul_le_mul_right _ (by omega)
    omega
theorem wf_le {n : Int} (h : (Lit.int .i64 n).wf = true) : -9223372036854775808 ≤ n ∧ n ≤ 9223372036854775807 := by
  simp [Lit.wf, IntKind.min, IntKind.max, IntKind.signed, IntKind.bits] at h
  omega
theorem all_map {α : Type} {f : α → List Value} {Q : α → Prop} : ∀ es : List (List Value), (∀ c ∈ es, ∃ d, c = f d ∧ Q d) → ∃ l : List α, es = l.map f ∧ ∀ q ∈ l, Q q := by
  intro es
  induction es with
  | nil => intro _; exact ⟨[], rfl, fun q hq => by simp at hq⟩
  | cons c r ih =>
    intro h
    obtain ⟨l, rfl, hl⟩ := ih (fun c hc => h c (by simp [hc]))
    obtain ⟨q, rfl, hq⟩ := h c (by simp)
    refine ⟨q :: l, rfl, fun q' hq' => ?_⟩
    rcases List.mem_cons.1 hq' with rfl | h
    · exact hq
    · exact hl q' h
theorem Tryz.flatKy : flatOf Tryz.prog 5 24 = some [.int .i64, .int .i64, .int .i64] := by kernel_rfl
theorem Tryz.cellsKy : Tryz.prog.cellsOf 24 = 3 := by kernel_rfl
theorem Tryz.bytesKy : Tryz.prog.bytesOf 24 = 24 := by kernel_rfl
theorem ok_key {H : Type} {enc : TypeId × Value → H} {w : World} {fuel : Nat} {cs : List Value} {y : DataW H × List MemPlace} (h : DataW.trod enc Tryz.prog w 0 (fun _ => true) true fuel 24 cs = some y) : ∃ s : Ky, cs = kyc s ∧ kyOk s := by
  obtain ⟨hl, hk⟩ := open_flat _ _ _ _ _ _ Tryz.flatKy h
  match cs, hl with
  | [v0, v1, v2], _ =>
    obtain ⟨a, rfl, ha⟩ := hk 0 _ _ rfl rfl
    obtain ⟨b, rfl, hb⟩ := hk 1 _ _ rfl rfl
    obtain ⟨c, rfl, hc⟩ := hk 2 _ _ rfl rfl
    exact ⟨⟨a, b, c⟩, rfl, ha, hb, hc⟩
set_option maxRecDepth 100000 in
/-- an argument that is a key. -/
theorem open_ky {H : Type} {enc : TypeId × Value → H} {W : World} {base : Nat} {v : Value} {d : DataW H} {p : List MemPlace}
    (hval : Value.okWide Tryz.prog W .any base 24 v) (h : DataW.Trod enc Tryz.prog W 0 (fun _ => true) true 24 v d p) : ∃ s : Ky, v = kyv s ∧ kyOk s := by
  have hu : Tryz.prog.underlying 24 = some (.struct (Tryz.prog.fieldsOf 24)) := by kernel_rfl
  obtain ⟨cs, rfl, hcs⟩ := okWide_struct hu hval
  obtain ⟨fuel, hf⟩ := h
  simp only [Value.cells] at hf
  obtain ⟨s, hs, hw⟩ := ok_key hf
  refine ⟨s, ?_, hw⟩
  have : cs = (kyc s).toArray := by rw [← hs]
  rw [this]
  rfl
set_option maxRecDepth 100000 in
/-- an argument that is keys. -/
theorem open_kys {H : Type} {enc : TypeId × Value → H} {W : World} {base : Nat} {v : Value} {d : DataW H} {p : List MemPlace}
    (hval : Value.okWide Tryz.prog W .any base 50 v) (h : DataW.Trod enc Tryz.prog W 0 (fun _ => true) true 50 v d p) (hB : ∀ m ∈ d.weights Tryz.prog 50, m ≤ reachBytes) : ∃ S, KyAt W v S ∧ (∀ s ∈ S, kyOk s) ∧ S.length ≤ 140737488355328 := by
  obtain ⟨a0, len, cap, rfl⟩ := okWide_slice Tryz.underlying50 hval
  obtain ⟨fuel, hf⟩ := h
  simp only [Value.cells] at hf
  obtain ⟨es, hr, ho⟩ := open_rowsQ (Q := fun c => ∃ s : Ky, c = kyc s ∧ kyOk s) Tryz.underlying50 Tryz.cellsKy (by omega) (fun _ _ _ h1 _ => ok_key h1) hf hB
  obtain ⟨S, rfl, hok⟩ := all_map es ho
  refine ⟨S, hr, hok, ?_⟩
  have hl : len = S.length := by
    obtain ⟨ao, b, off, cap', he, -⟩ := hr
    simp only [Value.slice.injEq, List.length_map] at he
    exact he.2.1
  have := rows_len Tryz.underlying50 hf hB _ _ _ rfl
  rw [Tryz.bytesKy] at this
  simp only [reachBytes] at this
  omega
end Go.Proofs.YtpchjpmkkiopiaaGreat
