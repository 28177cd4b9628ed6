import Derived.Test.YtcpcgpanmoellaaOpen
import Derived.Test.YtcpcgpanmoellaaSmBm
import Derived.Test.YtcpcgpanmoellaaOwn
import Derived.Deep.Upon
namespace Go.Proofs.Ytcpcgpanmoellaa
open Go.ChangeShapes Go.WideShapes Go.ChangeAt Go.RowKit

theorem slice_len {H : Type} {enc : TypeId × Value → H} {P : Program} {W : World} {t e : TypeId} {v : Value} {d : DataW H} {p : List MemPlace} (ht : P.underlying t = some (.slice e))
    (h : DataW.Trod enc P W 0 (fun _ => true) true t v d p) (ts : List TypeId) (ds : List (DataW H)) (j : Nat) (hsz : (DataW.weightsEach P ts ds).all (· ≤ reachBytes) = true) (h1 : ts[j]? = some t) (h2 : ds[j]? = some d) :
    ∀ ao len cap, v = .slice ao len cap → len * P.bytesOf e ≤ 140737488351232 := by
  rintro ao len cap rfl
  obtain ⟨fuel, hf⟩ := h
  simp only [Value.cells] at hf
  rcases Go.Deep.open_slice ht hf with ⟨hcs, _⟩ | ⟨a, len', cap', m, q, D, Pl, hcs, _, hl, hm, hmm, hx, _⟩
  · simp at hcs
    obtain ⟨_, rfl, _⟩ := hcs
    omega
  · simp at hcs
    obtain ⟨rfl, rfl, rfl⟩ := hcs
    simp only [Prod.mk.injEq] at hx
    obtain ⟨rfl, _⟩ := hx
    have := sized_slice hsz h1 h2 ht
    simp only [List.length_map, List.length_range, reachBytes] at this
    have h3 : len * P.bytesOf e ≤ (len + (m - len)) * P.bytesOf e := Nat.mul_le_mul_right _ (by omega)
    omega
end Go.Proofs.Ytcpcgpanmoellaa
namespace Go.Proofs.Ytcpcgpanmoellaa
open Go.RowKit Go.Lib Go.ChangeShapes Go.WideShapes Go.ChangeAt

section
variable {H : Type} {enc : TypeId × Value → H} {P : Program} {w : World} {base : Nat} {spare : Nat → Bool} {held : Bool}

theorem weights_all {e : TypeId} {l : List (DataW H)} {d : DataW H} (hd : d ∈ l) {m : Nat} (hm : m ∈ d.weights P e) : m ∈ DataW.weightsAll P e l := by
  induction l with
  | nil => cases hd
  | cons a r ih =>
    simp only [DataW.weightsAll, List.mem_append]
    rcases List.mem_cons.1 hd with rfl | h
    · exact .inl hm
    · exact .inr (ih h)

/-- an argument that is a slice: what each element's cells are, its sizes being bounded. -/
theorem open_rowsQ {t e : TypeId} {C B : Nat} {Q : List Value → Prop} (ht : P.underlying t = some (.slice e)) (hC : P.cellsOf e = C) (hpos : 0 < C) {v : Value} {fuel : Nat} {x : DataW H × List MemPlace}
    (hQ : ∀ fuel cs y, DataW.trod enc P w base spare held fuel e cs = some y → (∀ m ∈ y.1.weights P e, m ≤ B) → Q cs)
    (h : DataW.trod enc P w base spare held fuel t [v] = some x) (hB : ∀ m ∈ x.1.weights P t, m ≤ B) : ∃ es : List (List Value), RowsAt w C v es ∧ ∀ c ∈ es, Q c := by
  rcases Go.Deep.open_slice ht h with ⟨hcs, _⟩ | ⟨a, len, cap, m, q, D, Pl, hcs, hb, hl, hm, hmm, hx, hi⟩
  · simp only [List.cons.injEq, and_true] at hcs
    subst hcs
    exact ⟨[], ⟨none, 0, 0, 0, rfl, Nat.le_refl _, by unfold maxLen; omega, fun _ => ⟨rfl, rfl⟩, fun h => by simp at h, fun e he => by simp at he, fun i hi => by simp at hi⟩, fun c hc => by simp at hc⟩
  · simp only [List.cons.injEq, and_true] at hcs
    subst hcs
    rw [hC] at hi
    have hlm : len ≤ m := by rw [hmm]; split <;> omega
    have hW : ∀ i, i < len → ∀ k ∈ (D i).weights P e, k ≤ B := by
      intro i hil k hk
      refine hB k ?_
      rw [hx]
      simp only [DataW.weights, ht, List.mem_cons, List.mem_append]
      exact .inr (.inl (weights_all (List.mem_map.2 ⟨i, List.mem_range.2 hil, rfl⟩) hk))
    have hall : ∀ i, i < len → ∃ c : List Value, Q c ∧ c.length = C ∧ ∀ j, j < C → w.cell? (a.add (i * C + j)) = c[j]? := by
      intro i hil
      obtain ⟨cs', h1, h2⟩ := hi i (by omega)
      obtain ⟨_, hcl, hat⟩ := World.cells?_some h1
      refine ⟨cs', hQ _ cs' _ h2 (hW i hil), hcl, fun j hj => ?_⟩
      rw [← Go.Deep.add_add]
      exact hat j hj
    obtain ⟨f, hf⟩ := Classical.axiomOfChoice (r := fun (i : Fin len) (c : List Value) => Q c ∧ c.length = C ∧ ∀ j, j < C → w.cell? (a.add (i * C + j)) = c[j]?) (fun i => hall i i.2)
    have hspot : 0 < len → a.spot = none := by
      intro h0
      have h1 := (hf ⟨0, h0⟩).2.2 0 hpos
      have h2 := (hf ⟨0, h0⟩).2.1
      rw [List.getElem?_eq_getElem (by omega)] at h1
      cases hs : a.spot with
      | none => rfl
      | some s =>
        simp [Addr.add, World.cell?, hs] at h1
        split at h1 <;> simp at h1
    have hal : 0 < len → a = ⟨a.block, a.off, none⟩ := by
      intro h0
      obtain ⟨b, off, sp⟩ := a
      have := hspot h0
      simp only at this
      subst this
      rfl
    refine ⟨List.ofFn f, ⟨some a, a.block, a.off, cap, by simp, by simpa using hl, hm, (fun h => by cases h), fun h0 => ?_, fun e he => ?_, fun i hi j hj => ?_⟩, fun c hc => ?_⟩
    · have h0' : 0 < len := by simpa using h0
      refine ⟨by rw [← hal h0'], ?_⟩
      have h1 := (hf ⟨0, h0'⟩).2.2 0 hpos
      have h2 := (hf ⟨0, h0'⟩).2.1
      rw [List.getElem?_eq_getElem (by omega), hal h0', add_none] at h1
      exact World.block_lt_of_cell? (a := ⟨a.block, _, none⟩) _ h1
    · obtain ⟨i, rfl⟩ := List.mem_ofFn.1 he
      exact (hf i).2.1
    · have hil : i < len := by simpa using hi
      have h1 := (hf ⟨i, hil⟩).2.2 j hj
      rw [hal (by omega), add_none] at h1
      simp only [List.getElem_ofFn]
      rw [← h1, Nat.add_assoc]
    · obtain ⟨i, rfl⟩ := List.mem_ofFn.1 hc
      exact (hf i).1
end

theorem weights_each {H : Type} {P : Program} : ∀ (ts : List TypeId) (ds : List (DataW H)) (j : Nat) {t : TypeId} {d : DataW H}, ts[j]? = some t → ds[j]? = some d → ∀ m ∈ d.weights P t, m ∈ DataW.weightsEach P ts ds
  | [], _, _, _, _, h, _, _, _ => by simp at h
  | _ :: _, [], _, _, _, _, h, _, _ => by simp at h
  | t0 :: ts, d0 :: ds, 0, _, _, h, k, m, hm => by
    simp at h k
    subst h; subst k
    simp only [DataW.weightsEach, List.mem_append]
    exact .inl hm
  | t0 :: ts, d0 :: ds, j + 1, _, _, h, k, m, hm => by
    simp only [DataW.weightsEach, List.mem_append]
    exact .inr (weights_each ts ds j (by simpa using h) (by simpa using k) m hm)


theorem weights_slice {H : Type} {P : Program} {t e : TypeId} (ht : P.underlying t = some (.slice e)) (xs rest : List (DataW H)) : (xs.length + rest.length) * P.bytesOf e ∈ (DataW.slice xs rest).weights P t := by
  simp [DataW.weights, ht]

/-- a field of a struct: what is trodden at it, and its sizes. -/
theorem open_field {H : Type} {enc : TypeId × Value → H} {P : Program} {w : World} {base : Nat} {spare : Nat → Bool} {held : Bool} {t ft : TypeId} {fs : Array Field} {fuel : Nat} {cs : List Value} {y : DataW H × List MemPlace} (hu : P.underlying t = some (.struct fs)) (j : Nat) {f : Field} (hf : fs[j]? = some f) (hft : f.type = ft)
    (h : DataW.trod enc P w base spare held fuel t cs = some y) : ∃ (m : Nat) (x : DataW H × List MemPlace), DataW.trod enc P w base spare held m ft ((cs.drop f.offset).take (P.cellsOf ft)) = some x ∧ ∀ k ∈ x.1.weights P ft, k ∈ y.1.weights P t := by
  subst hft
  obtain ⟨xs, m, _, rfl, hcl, hxl, hx⟩ := DataW.trod_struct hu h
  have h3l : j < xs.length := by have := (Array.getElem?_eq_some_iff.1 hf).1; omega
  have := hx j f hf
  rw [List.getElem?_eq_getElem h3l] at this
  refine ⟨m, xs[j], this, fun k hk => ?_⟩
  simp only [DataW.weights, hu]
  refine weights_each (P := P) (H := H) _ _ j (t := f.type) (d := xs[j].1) ?_ ?_ _ hk
  · rw [List.getElem?_map, Array.getElem?_toList, hf]; rfl
  · rw [List.getElem?_map, List.getElem?_eq_getElem h3l]; rfl
end Go.Proofs.Ytcpcgpanmoellaa
namespace Go.Proofs.Ytcpcgpanmoellaa
open Go.RowKit Go.Lib Go.ChangeShapes Go.WideShapes Go.ChangeAt

/-- a row of things that came in. -/
def ItW (w : World) (v : Value) (l : List (Int × Int)) : Prop := RowsAt w 2 v (l.map ite) ∧ ∀ x ∈ l, (kx x.2).wf = true
theorem ItW.later {w w' : World} {v : Value} {l : List (Int × Int)} (h : ItW w v l) (hb : Below w.heap.size w w') : ItW w' v l := ⟨h.1.later hb, h.2⟩
/-- a deed: what, key, name. -/
structure Dd where
  what : Int
  key : Int
  name : Int
def ddc (d : Dd) : List Value := [.int .i64 d.what, .int .i64 d.key, .int .i64 d.name]
def DdOk (d : Dd) : Prop := (Lit.int .i64 d.what).wf = true ∧ (kx d.name).wf = true
def DdW (w : World) (v : Value) (l : List Dd) : Prop := RowsAt w 3 v (l.map ddc) ∧ ∀ d ∈ l, DdOk d
theorem DdW.later {w w' : World} {v : Value} {l : List Dd} (h : DdW w v l) (hb : Below w.heap.size w w') : DdW w' v l := ⟨h.1.later hb, h.2⟩

theorem Try.flatItem : flatOf Try.prog 5 30 = some [.int .i64, .int .i64] := by kernel_rfl
theorem Try.cellsItem : Try.prog.cellsOf 30 = 2 := by kernel_rfl
theorem Try.flatDeed : flatOf Try.prog 5 54 = some [.int .i64, .int .i64, .int .i64] := by kernel_rfl
theorem Try.cellsDeed : Try.prog.cellsOf 54 = 3 := by kernel_rfl
theorem map_of {α : Type} {f : α → List Value} {Q : α → Prop} : ∀ es : List (List Value), (∀ c ∈ es, ∃ d, c = f d ∧ Q d) → ∃ l : List α, es = l.map f ∧ ∀ q ∈ l, Q q := by
  intro es
  induction es with
  | nil => intro _; exact ⟨[], rfl, fun q hq => by simp at hq⟩
  | cons c r ih =>
    intro h
    obtain ⟨l, rfl, hl⟩ := ih (fun c hc => h c (by simp [hc]))
    obtain ⟨q, rfl, hq⟩ := h c (by simp)
    refine ⟨q :: l, rfl, fun q' hq' => ?_⟩
    rcases List.mem_cons.1 hq' with rfl | h
    · exact hq
    · exact hl q' h
theorem ok_item {H : Type} {enc : TypeId × Value → H} {w : World} {fuel : Nat} {cs : List Value} {y : DataW H × List MemPlace}
    (h : DataW.trod enc Try.prog w 0 (fun _ => true) true fuel 30 cs = some y) : ∃ d : Int × Int, cs = ite d ∧ (kx d.2).wf = true := by
  obtain ⟨hl, hk⟩ := open_flat _ _ _ _ _ _ Try.flatItem h
  match cs, hl with
  | [v0, v1], _ =>
    obtain ⟨a, rfl, _⟩ := hk 0 _ _ rfl rfl
    obtain ⟨b, rfl, hb⟩ := hk 1 _ _ rfl rfl
    exact ⟨(a, b), rfl, hb⟩
theorem ok_deed {H : Type} {enc : TypeId × Value → H} {w : World} {fuel : Nat} {cs : List Value} {y : DataW H × List MemPlace}
    (h : DataW.trod enc Try.prog w 0 (fun _ => true) true fuel 54 cs = some y) : ∃ d, cs = ddc d ∧ DdOk d := by
  obtain ⟨hl, hk⟩ := open_flat _ _ _ _ _ _ Try.flatDeed h
  match cs, hl with
  | [v0, v1, v2], _ =>
    obtain ⟨a, rfl, ha⟩ := hk 0 _ _ rfl rfl
    obtain ⟨b, rfl, _⟩ := hk 1 _ _ rfl rfl
    obtain ⟨c, rfl, hc⟩ := hk 2 _ _ rfl rfl
    exact ⟨⟨a, b, c⟩, rfl, ha, hc⟩
set_option maxRecDepth 100000 in
theorem open_items {H : Type} {enc : TypeId × Value → H} {W : World} {base : Nat} {v : Value} {d : DataW H} {p : List MemPlace}
    (hval : Value.okWide Try.prog W .any base 40 v) (h : DataW.Trod enc Try.prog W 0 (fun _ => true) true 40 v d p) (hB : ∀ m ∈ d.weights Try.prog 40, m ≤ reachBytes) : ∃ l : List (Int × Int), ItW W v l := by
  obtain ⟨a0, len, cap, rfl⟩ := okWide_slice Try.underlying40 hval
  obtain ⟨fuel, hf⟩ := h
  simp only [Value.cells] at hf
  obtain ⟨es, hr, ho⟩ := open_rowsQ (B := reachBytes) (Q := fun c => ∃ d : Int × Int, c = ite d ∧ (kx d.2).wf = true) Try.underlying40 Try.cellsItem (by omega) (fun _ _ _ h1 _ => ok_item h1) hf hB
  obtain ⟨l, rfl, hl⟩ := map_of es ho
  exact ⟨l, hr, hl⟩
set_option maxRecDepth 100000 in
theorem open_deeds {H : Type} {enc : TypeId × Value → H} {W : World} {base : Nat} {v : Value} {d : DataW H} {p : List MemPlace}
    (hval : Value.okWide Try.prog W .any base 45 v) (h : DataW.Trod enc Try.prog W 0 (fun _ => true) true 45 v d p) (hB : ∀ m ∈ d.weights Try.prog 45, m ≤ reachBytes) : ∃ l : List Dd, DdW W v l := by
  obtain ⟨a0, len, cap, rfl⟩ := okWide_slice Try.underlying45 hval
  obtain ⟨fuel, hf⟩ := h
  simp only [Value.cells] at hf
  obtain ⟨es, hr, ho⟩ := open_rowsQ (B := reachBytes) (Q := fun c => ∃ d, c = ddc d ∧ DdOk d) Try.underlying45 Try.cellsDeed (by omega) (fun _ _ _ h1 _ => ok_deed h1) hf hB
  obtain ⟨l, rfl, hl⟩ := map_of es ho
  exact ⟨l, hr, hl⟩

theorem ItW.cells {w : World} {v : Value} {l : List (Int × Int)} (h : ItW w v l) : ∃ ao b off cap, v = .slice ao l.length cap ∧ l.length ≤ cap ∧ cap ≤ maxLen ∧ (ao = none → l.length = 0 ∧ cap = 0) ∧ (0 < l.length → ao = some ⟨b, off, none⟩ ∧ b < w.heap.size) ∧
    ∀ i (hi : i < l.length), w.cell? ⟨b, off + i * 2, none⟩ = some (.int .i64 l[i].1) ∧ w.cell? ⟨b, off + i * 2 + 1, none⟩ = some (.int .i64 l[i].2) := by
  obtain ⟨⟨ao, b, off, cap, rfl, hl, hm, hn, ha, he, hc⟩, _⟩ := h
  simp only [List.length_map] at hl ha hn hc ⊢
  refine ⟨ao, b, off, cap, rfl, hl, hm, hn, ha, fun i hi => ?_⟩
  have h := fun j hj => hc i hi j hj
  simp only [List.getElem_map] at h
  exact ⟨h 0 (by omega), h 1 (by omega)⟩
theorem DdW.cells {w : World} {v : Value} {l : List Dd} (h : DdW w v l) : ∃ ao b off cap, v = .slice ao l.length cap ∧ l.length ≤ cap ∧ cap ≤ maxLen ∧ (0 < l.length → ao = some ⟨b, off, none⟩ ∧ b < w.heap.size) ∧
    ∀ i (hi : i < l.length), w.cell? ⟨b, off + i * 3, none⟩ = some (.int .i64 l[i].what) ∧ w.cell? ⟨b, off + i * 3 + 1, none⟩ = some (.int .i64 l[i].key) ∧ w.cell? ⟨b, off + i * 3 + 2, none⟩ = some (.int .i64 l[i].name) := by
  obtain ⟨⟨ao, b, off, cap, rfl, hl, hm, hn, ha, he, hc⟩, _⟩ := h
  simp only [List.length_map] at hl ha hn hc ⊢
  refine ⟨ao, b, off, cap, rfl, hl, hm, ha, fun i hi => ?_⟩
  have h := fun j hj => hc i hi j hj
  simp only [List.getElem_map] at h
  exact ⟨h 0 (by omega), h 1 (by omega), h 2 (by omega)⟩
theorem ItW.itc {w : World} {v : Value} {l : List (Int × Int)} (h : ItW w v l) : ItC w v l := by
  obtain ⟨ao, b, off, cap, h1, -, -, -, h2, h3⟩ := h.cells
  exact ⟨ao, b, off, cap, h1, h2, h3⟩
/-- a row of things, as an append's news. -/
theorem ItW.news {w : World} {ao : Option Addr} {b off n cap : Nat} {l : List (Int × Int)} (hn : n = l.length) (hc : ∀ i (hi : i < l.length), w.cell? ⟨b, off + i * 2, none⟩ = some (.int .i64 l[i].1) ∧ w.cell? ⟨b, off + i * 2 + 1, none⟩ = some (.int .i64 l[i].2)) :
    ∀ j u, (l.flatMap ite)[j]? = some u → w.cell? ((⟨b, off, none⟩ : Addr).add j) = some u := by
  intro j u hj
  have hjl := (List.getElem?_eq_some_iff.1 hj).1
  rw [flat_len ite_len] at hjl
  have hd : j / 2 < l.length := by omega
  have hm : j % 2 < 2 := Nat.mod_lt _ (by omega)
  have h3 := flat_get ite_len l (j / 2) (j % 2) hd hm
  have e : j / 2 * 2 + j % 2 = j := by omega
  rw [e, hj] at h3
  obtain ⟨d0, d1⟩ := hc _ hd
  rw [add_none]
  rcases (show j % 2 = 0 ∨ j % 2 = 1 by omega) with hz | hz
  · rw [hz] at h3
    have : off + j = off + (j / 2) * 2 := by omega
    rw [this, d0, h3]
    rfl
  · rw [hz] at h3
    have : off + j = off + (j / 2) * 2 + 1 := by omega
    rw [this, d1, h3]
    rfl
/-- append onto a row of the call's own, of what may be nothing. -/
theorem wpList_append_opt {P : Program} {w : World} {ops : Array Oper} {rest : List Oper} {o : Oper} {a : Act} {Q : Exit → Act → World → Prop} (hgd : o.guard = none) (s x : Operand) (t : TypeId)
    (ho : o.op = .call { callee := .builtin .append, args := #[s, x], argTypes := #[t, t] })
    (base : Nat) (e : TypeId) (i : TypeInfo) (z : Value) (size bytes : Nat) (ht : P.underlying t = some (.slice e)) (hi : P.info? e = some i) (hz : i.zero = some z)
    (hsize : i.size = size) (hby : i.bytes = bytes) (hzs : z.cells.size = size) (hsz : 0 < size)
    (ao : Option Addr) (n cap : Nat) (xs : List Value) (hs : a.eval s = .slice ao n cap) (hown : w.ownsRow base e size (.slice ao n cap) n xs)
    (xo : Option Addr) (m c : Nat) (news : List Value) (hx : a.eval x = .slice xo m c) (hxo : xo = none → m = 0) (hl : news.length = m * size) (hnews : ∀ ad, xo = some ad → ∀ j u, news[j]? = some u → w.cell? (ad.add j) = some u) (h1 : ∀ u ∈ news, u.oneCell' = true)
    (h63 : n + m ≤ maxLen) (hbytes : (n + m) * bytes ≤ 140737488355328) (hbase : base ≤ w.heap.size) (hcap : n ≤ cap)
    (h : ∀ v' w', w'.ownsRow base e size v' (n + m) (xs ++ news) → w.grownBy w' (Value.slice ao n cap).ownBlock → wpList P ops Q rest (a.put o.dst v') w') :
    wpList P ops Q (o :: rest) a w := by
  cases xo with
  | none =>
    obtain rfl := hxo rfl
    have hnil : news = [] := List.eq_nil_of_length_eq_zero (by omega)
    subst hnil
    have hr := run_append_nothing (P := P) w t t o.type e i ht hi ao n cap hcap (.slice none 0 c) (Src.ofNil w ht c)
    refine wpList_plain hgd fun K hK => ?_
    unfold Oper.wp execOp
    simp only [ho, resolve, invoke, builtin, Sem.run_bind, Sem.run_pure, Result.andThen_ok, List.map_toArray, List.map_cons, List.map_nil, hs, hx, hr]
    exact hK _ _ (h _ _ (by simpa using hown) ⟨rfl, rfl, rfl, Nat.le_refl _, fun _ _ _ => rfl⟩)
  | some ad =>
    obtain ⟨v', w', hr, h2, h3, -⟩ := run_append_own (P := P) w base t o.type e i z size bytes ht hi hz hsize hby hzs hsz (.slice ao n cap) n xs hown ad m c news hl (hnews ad rfl) h1 h63 hbytes hbase
    refine wpList_plain hgd fun K hK => ?_
    unfold Oper.wp execOp
    simp only [ho, resolve, invoke, builtin, Sem.run_bind, Sem.run_pure, Result.andThen_ok, List.map_toArray, List.map_cons, List.map_nil, hs, hx, hr]
    exact hK _ _ (h _ _ h2 h3)
end Go.Proofs.Ytcpcgpanmoellaa
namespace Go.Proofs.Ytcpcgpanmoellaa
open Go.RowKit Go.Lib

theorem Qu.lower [Watch] {base b2 : Nat} {w : World} {q : Nat} {t : Int} {M : List En} (h : Qu base w q t M) (hb : b2 ≤ base) : Qu b2 w q t M := by
  obtain ⟨⟨r, m, lv, L, ⟨q1, ⟨p1, p2, p3, p4, p5, p6, p7, p8, p9, p10, p11, p12⟩, q3, q4, q5⟩, g2⟩, g3⟩ := h
  exact ⟨⟨r, m, lv, L, ⟨q1, ⟨p1, p2.mono hb, p3, p4, p5, Nat.le_trans hb p6, Nat.le_trans hb p7, p8, p9, p10, p11, p12⟩, q3, q4, Nat.le_trans hb q5⟩, g2⟩, g3⟩
/-- a queue stays, if things alone are written. -/
theorem Qu.keepI {B q : Nat} {S : Nat → Prop} {w w' : World} {t : Int} {M : List En} (h : Qu B w q t M) (hk : Keeps S w w') (hS : ∀ k, S k → ∃ cs, w.heap[k]? = some (.cells cs 30 (0, 0))) : Qu B w' q t M := by
  have hn : ∀ (k : Nat) (cs : Array Value) (tt : TypeId) (fr : Nat × Nat), w.heap[k]? = some (.cells cs tt fr) → tt ≠ 30 → ¬ S k := fun k cs tt fr hc h1 hk => by
    obtain ⟨ds, hd⟩ := hS k hk
    rw [hc] at hd; simp at hd; exact h1 hd.2.1
  obtain ⟨⟨r, m, lv, L, g1, g2⟩, g3⟩ := h
  refine ⟨⟨r, m, lv, L, ⟨hk.obj g1.blk (hn _ _ _ _ g1.blk (by decide)), ⟨hk.obj g1.row.blk (hn _ _ _ _ g1.row.blk (by decide)), row_kept g1.row.row hk (fun k cs hc => hn _ _ _ _ hc (by decide)), g1.row.fn.keeps hk (fun hS' => ?_), g1.row.once, g1.row.wf, g1.row.br, g1.row.bm, g1.row.le, g1.row.nr, g1.row.nm, g1.row.nl, Nat.zero_le _⟩, g1.hp, g1.trn, g1.bq⟩, g2⟩, g3⟩
  obtain ⟨D, ⟨es, clock, h1, -⟩, -⟩ := g1.row.fn
  obtain ⟨ds, hd⟩ := hS m hS'
  rw [h1] at hd; simp at hd
/-- the blocks of a call are watched. -/
abbrev mid (a b : Nat) : Watch := ⟨fun k => a ≤ k ∧ k < b, b, fun _ h => h.2⟩
theorem Two.left {B q o r : Nat} {w0 u wc w5 : World} {t : Int} {M : List En} (h : Two B q r w0 u t M t M) (ho : @Qu noWatch u.heap.size wc o t M) (hb : Below u.heap.size u wc) (hk : @KeepQ (mid u.heap.size wc.heap.size) B q wc w5) : Two B o r w0 w5 t M t M := by
  have hq : q < u.heap.size := h.qu.lt
  have ho5 : @Qu noWatch u.heap.size w5 o t M := Qu.watched ho _ hk (fun k h1 h2 => ⟨h1, h2⟩) hq
  have hc := h.later hb
  obtain ⟨v, h1, -⟩ := hc.rq
  obtain ⟨cq, hcq⟩ := hc.qu.qblk
  have h2 : Rq B w5 r v M := @Rq.keepQ (mid u.heap.size wc.heap.size) _ _ _ _ _ _ _ _ _ _ h1 hk hcq
  refine ⟨ho5.lower h.sz, ⟨v, h2, fun k hk2 e => ?_⟩, h.trn, hc.bel.trans (@KeepQ.below (mid u.heap.size wc.heap.size) _ _ _ _ hk hc.sz hc.qu.base), Nat.le_trans hc.sz (Keeps.size hk), h.rb⟩
  obtain ⟨cs, h3⟩ := own_typed h2.row hk2
  obtain ⟨co, hco⟩ := ho5.qblk
  rw [e, hco] at h3
  simp at h3
theorem quTake_some [Watch] {base : Nat} {q : Nat} {t : Int} {M : List En} (w : World) (h : Qu base w q t M) :
    Calls Try.prog 13 #[.pointer (some ⟨q, 0, none⟩)] w fun en w' => (∃ v b, en = .returned (.tuple #[v, b])) ∧ (∃ M2, Qu base w' q t M2) ∧ KeepQ base q w w' := by
  by_cases h0 : M = []
  · subst h0
    exact (quTake0 w h).mono fun en w' h2 => ⟨⟨_, _, h2.1⟩, ⟨_, h.later h2.2⟩, KeepQ.ofBelow h2.2⟩
  · exact (quTake w h h0).mono fun en w' h2 => by
      obtain ⟨e, -, h3, h4, h5⟩ := h2
      exact ⟨⟨_, _, h3⟩, ⟨_, h4⟩, h5⟩
/-- a thing of a row is set. -/
theorem flat_set2 (e : Int × Int) : ∀ (L : List (Int × Int)) (i : Nat), i < L.length → (((L.flatMap ite).set (i * 2) (.int .i64 e.1)).set (i * 2 + 1) (.int .i64 e.2)) = (L.set i e).flatMap ite
  | [], i, h => by simp at h
  | a :: r, 0, _ => by simp [ite]
  | a :: r, i + 1, h => by
    have ih := flat_set2 e r i (by simpa using h)
    have e1 : (i + 1) * 2 = i * 2 + 2 := by omega
    have e2 : (i + 1) * 2 + 1 = (i * 2 + 1) + 2 := by omega
    simp only [List.flatMap_cons, List.set_cons_succ, e1, e2]
    rw [← ih]
    simp [ite]
theorem row_put2 {w : World} {base g n cap : Nat} {t : TypeId} {L : List (Int × Int)} (h : w.ownsRow base t 2 (.slice (some ⟨g, 0, none⟩) n cap) n (L.flatMap ite)) (i : Nat) (hi : i < L.length) (e : Int × Int) :
    ((w.setCell ⟨g, i * 2, none⟩ (.int .i64 e.1)).setCell ⟨g, i * 2 + 1, none⟩ (.int .i64 e.2)).ownsRow base t 2 (.slice (some ⟨g, 0, none⟩) n cap) n ((L.set i e).flatMap ite) ∧
    Keeps (fun k => k = g) w ((w.setCell ⟨g, i * 2, none⟩ (.int .i64 e.1)).setCell ⟨g, i * 2 + 1, none⟩ (.int .i64 e.2)) := by
  obtain ⟨g', cap', cur, hv, hb, hg, h1, h2, h3, ht⟩ := h.2.resolve_left (fun h => by simp at h)
  simp only [Value.slice.injEq, Option.some.injEq, Addr.mk.injEq] at hv
  obtain ⟨⟨rfl, -⟩, -, rfl⟩ := hv
  refine ⟨⟨by have := h.1; rw [flat_len ite_len] at this ⊢; simpa using this, .inr ⟨g, cap, _, rfl, hb, block_setCell' (block_setCell' hg), h1, h2, by simpa using h3, ?_⟩⟩, ((Keeps.refl (fun k => k = g) w).setCell (p := ⟨g, i * 2, none⟩) rfl _).setCell (p := ⟨g, i * 2 + 1, none⟩) rfl _⟩
  rw [Array.toList_setIfInBounds, Array.toList_setIfInBounds, List.take_set, List.take_set, ht]
  exact flat_set2 e L i hi
/-- while the call's own things are let go. -/
structure DoS (W : World) (ok : Bool) (B q r : Nat) (oo : Option Addr) (n cap : Nat) (v : Value) (t : Int) (M : List En) (l : List (Int × Int)) (k : Nat) (wr : World) : Prop where
  qu : ok = true → Qu B wr q t M
  rq : Rq B wr r v M
  bel : Below W.heap.size W wr
  sz : B ≤ wr.heap.size
  own : ∃ L : List (Int × Int), L.length = n ∧ (∀ i, k ≤ i → L[i]? = l[i]?) ∧ wr.ownsRow W.heap.size 30 2 (.slice oo n cap) n (L.flatMap ite)
theorem DoS.put {W : World} {ok : Bool} {B q r n cap : Nat} {oo : Option Addr} {v : Value} {t : Int} {M : List En} {l : List (Int × Int)} {k : Nat} {wr : World} (h : DoS W ok B q r oo n cap v t M l k wr) {g : Nat} (hoo : oo = some ⟨g, 0, none⟩) (hk : k < n) :
    DoS W ok B q r oo n cap v t M l (k + 1) ((wr.setCell ⟨g, k * 2, none⟩ (.int .i64 0)).setCell ⟨g, k * 2 + 1, none⟩ (.int .i64 0)) := by
  obtain ⟨L, h1, h2, h3⟩ := h.own
  subst hoo
  obtain ⟨p1, p2⟩ := row_put2 h3 k (by omega) (0, 0)
  have hg : ∀ j, j = g → ∃ cs, wr.heap[j]? = some (.cells cs 30 (0, 0)) := fun j hj => own_typed h3 (by simp [Value.ownBlock, hj])
  have hgw := (h3.lt g (by simp [Value.ownBlock])).1
  have hne : ∀ (j : Nat) (cs : Array Value) (tt : TypeId), wr.heap[j]? = some (.cells cs tt (0, 0)) → tt ≠ 30 → ¬ j = g := fun j cs tt hc ht e => by
    obtain ⟨ds, hd⟩ := hg j e
    rw [hc] at hd; simp at hd; exact ht hd.2
  exact ⟨fun e => (h.qu e).keepI p2 hg, h.rq.kept p2 (fun j cs hc => hne _ _ _ hc (by decide)) (fun j cs hc => hne _ _ _ hc (by decide)), h.bel.trans (Keeps.below p2 h.bel.size (fun j e => by rw [e]; exact hgw)), Nat.le_trans h.sz p2.size, L.set k (0, 0), by simp [h1], fun i hi => by rw [List.getElem?_set_ne (by omega)]; exact h2 i (by omega), p1⟩
theorem DoS.later {W : World} {ok : Bool} {B q r n cap : Nat} {oo : Option Addr} {v : Value} {t : Int} {M : List En} {l : List (Int × Int)} {k : Nat} {wr w2 : World} (h : DoS W ok B q r oo n cap v t M l k wr) (hb : Below wr.heap.size wr w2) : DoS W ok B q r oo n cap v t M l k w2 := by
  obtain ⟨L, h1, h2, h3⟩ := h.own
  exact ⟨fun e => (h.qu e).later hb, h.rq.later hb, h.bel.trans (hb.mono h.bel.size), Nat.le_trans h.sz hb.size, L, h1, h2, row_kept (S := fun _ => False) h3 (Keeps.ofNew hb _) (fun _ _ _ h => h)⟩
theorem DoS.cells {W : World} {ok : Bool} {B q r n cap : Nat} {oo : Option Addr} {v : Value} {t : Int} {M : List En} {l : List (Int × Int)} {k : Nat} {wr : World} (h : DoS W ok B q r oo n cap v t M l k wr) {g : Nat} (hoo : oo = some ⟨g, 0, none⟩) (hk : k < n) (hl : l.length = n) :
    (wr.cell? ⟨g, k * 2, none⟩ = some (.int .i64 (l[k]'(by omega)).1) ∧ wr.cell? ⟨g, k * 2 + 1, none⟩ = some (.int .i64 (l[k]'(by omega)).2)) ∧ wr.frozen? ⟨g, k * 2, none⟩ = false ∧ wr.frozen? ⟨g, k * 2 + 1, none⟩ = false := by
  obtain ⟨L, h1, h2, h3⟩ := h.own
  subst hoo
  have hkL : k < L.length := by omega
  have e : L[k] = l[k]'(by omega) := by
    have := h2 k (Nat.le_refl _)
    rw [List.getElem?_eq_getElem hkL, List.getElem?_eq_getElem (by omega)] at this
    simpa using this
  have c0 := h3.cellAt (k * 2) (by omega)
  have c1 := h3.cellAt (k * 2 + 1) (by omega)
  have f0 := flat_get ite_len L k 0 hkL (by omega)
  have f1 := flat_get ite_len L k 1 hkL (by omega)
  rw [Nat.add_zero] at f0
  rw [f0, e] at c0
  rw [f1, e] at c1
  exact ⟨⟨c0, c1⟩, h3.frozenAt _, h3.frozenAt _⟩
/-- New, whatever it answers. -/
theorem quNew_any {v : Value} {l : List (Int × Int)} (w : World) (hv : ItAt w v l) (hw : ∀ x ∈ l, (kx x.2).wf = true) (hl : l.length ≤ 100000) :
    Calls Try.prog 8 #[v] w fun en w' => ∃ qo : Option Addr, en = .returned (.tuple #[.pointer qo, .int .i64 (putE (putQ 0 [] l).1)]) ∧ Below w.heap.size w w' ∧ ((putQ 0 [] l).1 = true → ∃ q, qo = some ⟨q, 0, none⟩ ∧ w.heap.size ≤ q ∧ Qu w.heap.size w' q (putQ 0 [] l).2.1 (putQ 0 [] l).2.2) ∧ ((putQ 0 [] l).1 = false → qo = none) := by
  cases hok : (putQ 0 [] l).1 with
  | true =>
    refine (quNew (base := w.heap.size) w (Nat.le_refl _) (Nat.zero_le _) hv hw hl hok).mono ?_
    rintro en w1 ⟨q, rfl, h1, h2, h3⟩
    exact ⟨_, rfl, h3, fun _ => ⟨q, rfl, h1, h2⟩, fun h => by cases h⟩
  | false =>
    refine (quNewE w hv hw hl hok).mono ?_
    rintro en w1 ⟨rfl, h3⟩
    exact ⟨none, rfl, h3, (fun h => by cases h), fun _ => rfl⟩
end Go.Proofs.Ytcpcgpanmoellaa
