import Derived.Test.YtpchjpmkkiopiaaGreatMmDm
import Derived.Test.YtpchjpmkkiopiaaGreatRow
import Derived.Deep.Upon
namespace Go.Proofs.YtpchjpmkkiopiaaGreat
open Go.RowKit Go.Lib

def rck (r : Rec) : List Value := kyc r.k
def rcx (r : Rec) : List Value := [.bool r.x.is, .int .i64 r.x.en, .int .i64 r.x.far, r.x.tv, r.x.kv]
theorem rck_len (r : Rec) : (rck r).length = 3 := rfl
theorem rcx_len (r : Rec) : (rcx r).length = 5 := rfl
/-- entries whose slices are slices. -/
def One1 (x : Ent) : Prop := (∃ a n c, x.tv = .slice a n c) ∧ ∃ a n c, x.kv = .slice a n c
def OneD (D : List Rec) : Prop := ∀ r ∈ D, One1 r.x
theorem rck_one (D : List Rec) : ∀ u ∈ D.flatMap rck, u.oneCell' = true := by
  intro u hu
  obtain ⟨r, -, h⟩ := List.mem_flatMap.1 hu
  simp only [rck, kyc, List.mem_cons, List.not_mem_nil, or_false] at h
  rcases h with rfl | rfl | rfl <;> rfl
theorem rcx_one {D : List Rec} (h : OneD D) : ∀ u ∈ D.flatMap rcx, u.oneCell' = true := by
  intro u hu
  obtain ⟨r, hr, h1⟩ := List.mem_flatMap.1 hu
  obtain ⟨⟨a, n, c, h2⟩, ⟨a', n', c', h3⟩⟩ := h r hr
  simp only [rcx, List.mem_cons, List.not_mem_nil, or_false] at h1
  rcases h1 with rfl | rfl | rfl | rfl | rfl
  · rfl
  · rfl
  · rfl
  · rw [h2]; rfl
  · rw [h3]; rfl
/-- the document's memory, as it lies. -/
structure Rm (base : Nat) (w : World) (r : Nat) (kv lv : Value) (room peak : Int) (D : List Rec) : Prop where
  blk : w.heap[r]? = some (.cells #[.int .i64 room, .int .i64 peak, kv, lv] 84 (0, 0))
  keys : w.ownsRow base 56 3 kv D.length (D.flatMap rck)
  ents : w.ownsRow base 58 5 lv D.length (D.flatMap rcx)
  le : D.length ≤ 100000
  once : (D.map (·.k)).Nodup
  one : OneD D
  br : base ≤ r
theorem Rm.later {base : Nat} {w w' : World} {r : Nat} {kv lv : Value} {room peak : Int} {D : List Rec} (h : Rm base w r kv lv room peak D) (hb : Below w.heap.size w w') : Rm base w' r kv lv room peak D :=
  { h with blk := (hb.block _ (lt_of_block h.blk)).trans h.blk, keys := row_later h.keys hb, ents := row_later h.ents hb }
/-- it stays, if no block of its kinds is written. -/
theorem Rm.kept {S : Nat → Prop} {base : Nat} {w w' : World} {r : Nat} {kv lv : Value} {room peak : Int} {D : List Rec} (h : Rm base w r kv lv room peak D) (hk : Keeps S w w')
    (hS : ∀ k, S k → ∀ cs t, w.heap[k]? = some (.cells cs t (0, 0)) → t ∉ [84, 56, 58]) : Rm base w' r kv lv room peak D :=
  { h with
    blk := hk.obj h.blk (fun hs => hS _ hs _ _ h.blk (by simp))
    keys := row_kept h.keys hk (fun k cs hc hs => hS _ hs _ _ hc (by simp))
    ents := row_kept h.ents hk (fun k cs hc hs => hS _ hs _ _ hc (by simp)) }
theorem Rm.keepM [Watch] {b base : Nat} {w w' : World} {r : Nat} {kv lv : Value} {room peak : Int} {D : List Rec} (h : Rm b w r kv lv room peak D) (hk : KeepM base w w') : Rm b w' r kv lv room peak D :=
  { h with blk := hk.cells h.blk (by decide), keys := hk.row h.keys (by decide), ents := hk.row h.ents (by decide) }

/-- what a deed on the document's memory may write. -/
def FootR (base : Nat) (w : World) (k : Nat) : Prop := base ≤ k ∧ match w.heap[k]? with
  | some (.cells _ t _) => t ∈ [84, 56, 58]
  | _ => False
abbrev KeepR (base : Nat) (w w' : World) : Prop := Keeps (FootR base w) w w'
theorem FootR.eq {base : Nat} {w w' : World} {k : Nat} (h : w'.heap[k]? = w.heap[k]?) : FootR base w' k ↔ FootR base w k := by unfold FootR; rw [h]
theorem KeepR.trans {base : Nat} {a b c : World} (h : KeepR base a b) (k : KeepR base b c) : KeepR base a c :=
  ⟨k.os.trans h.os, k.tape.trans h.tape, k.output.trans h.output, Nat.le_trans h.size k.size, fun i hi hn => by
    have e := h.block i hi hn
    exact (k.block i (Nat.lt_of_lt_of_le hi h.size) (fun hb => hn ((FootR.eq e).1 hb))).trans e⟩
theorem KeepR.ofBelow {base : Nat} {a b : World} (h : Below a.heap.size a b) : KeepR base a b := Keeps.ofNew h _
theorem KeepR.below {base : Nat} {a b : World} (h : KeepR base a b) (hB : base ≤ a.heap.size) : Below base a b := Keeps.below h hB fun _ hk => hk.1
theorem foot_cells {base k : Nat} {w : World} {cs : Array Value} {t : TypeId} {fr : Nat × Nat} (hk : w.heap[k]? = some (.cells cs t fr)) (hb : base ≤ k) (ht : t ∈ [84, 56, 58]) : FootR base w k := ⟨hb, by rw [hk]; exact ht⟩
theorem foot_row {base C n k : Nat} {w : World} {t : TypeId} {v : Value} {xs : List Value} (h : w.ownsRow base t C v n xs) (hk : v.ownBlock = some k) (ht : t ∈ [84, 56, 58]) : FootR base w k := by
  rcases h.2 with ⟨rfl, -⟩ | ⟨g, cap, cur, rfl, hb, hg, -⟩
  · simp [Value.ownBlock] at hk
  · simp only [Value.ownBlock, Option.some.injEq] at hk
    subst hk
    exact foot_cells hg hb ht
theorem Rm.keepR {base : Nat} {w w' : World} {r : Nat} {kv lv : Value} {room peak : Int} {D : List Rec} (h : Rm base w r kv lv room peak D) (hk : Keeps (fun k => k = r ∨ kv.ownBlock = some k ∨ lv.ownBlock = some k) w w') : KeepR base w w' := Keeps.mono hk fun k _ hS => by
  rcases hS with rfl | hS | hS
  · exact foot_cells h.blk h.br (by simp)
  · exact foot_row h.keys hS (by simp)
  · exact foot_row h.ents hS (by simp)
theorem Rm.keepR1 {base : Nat} {w w' : World} {r : Nat} {kv lv : Value} {room peak : Int} {D : List Rec} (h : Rm base w r kv lv room peak D) (hk : Keeps (fun k => k = r) w w') : KeepR base w w' := h.keepR (Keeps.mono hk fun _ _ e => .inl e)
/-- a memory of the package stays. -/
theorem MeIs.keepR [Watch] {b base : Nat} {p q nm km em : Nat} {next room peak : Int} {L : List Rec} {w w' : World} (h : MeIs base w p q nm km em next room peak L) (hk : KeepR b w w') : MeIs base w' p q nm km em next room peak L := h.typed hk fun k hS => by
  obtain ⟨-, h2⟩ := hS
  split at h2
  · rename_i cs t fr he
    refine ⟨cs, t, fr, he, ?_⟩
    simp only [List.mem_cons, List.not_mem_nil, or_false] at h2
    rcases h2 with rfl | rfl | rfl <;> decide
  · exact h2.elim
theorem idx_of {D : List Rec} {k : Ky} {r : Rec} (h : fndK D k = some r) : ∃ i, ∃ hi : i < D.length, D[i] = r ∧ r.k = k := by
  obtain ⟨h1, h2⟩ := fndK_some h
  obtain ⟨i, hi, e⟩ := List.mem_iff_getElem.1 h1
  exact ⟨i, hi, e, h2⟩
theorem key_at {D : List Rec} (ho : (D.map (·.k)).Nodup) {i j : Nat} (hi : i < D.length) (hj : j < D.length) (h : D[i].k = D[j].k) : i = j := by
  have h3 : (D.map (·.k))[i]'(by simpa using hi) = (D.map (·.k))[j]'(by simpa using hj) := by simpa using h
  exact (List.getElem_inj ho).1 h3
theorem dropK_at {D : List Rec} (ho : (D.map (·.k)).Nodup) {i : Nat} (hi : i < D.length) : dropK D D[i].k = D.take i ++ D.drop (i + 1) := by
  have hsplit : D = D.take i ++ D[i] :: D.drop (i + 1) := by
    rw [← List.drop_eq_getElem_cons hi, List.take_append_drop]
  have h1 : (D.take i).filter (fun r => r.k != D[i].k) = D.take i := by
    rw [List.filter_eq_self]
    intro a ha
    obtain ⟨j, hj, rfl⟩ := List.mem_iff_getElem.1 ha
    have hj' : j < i := by simp at hj; omega
    rw [List.getElem_take]
    simp only [bne_iff_ne, ne_eq]
    intro e
    have := key_at ho (show j < D.length by omega) hi e
    omega
  have h2 : (D.drop (i + 1)).filter (fun r => r.k != D[i].k) = D.drop (i + 1) := by
    rw [List.filter_eq_self]
    intro a ha
    obtain ⟨j, hj, rfl⟩ := List.mem_iff_getElem.1 ha
    have hj' : i + 1 + j < D.length := by simp at hj; omega
    rw [List.getElem_drop]
    simp only [bne_iff_ne, ne_eq]
    intro e
    have := key_at ho hj' hi e
    omega
  have e : dropK D D[i].k = (D.take i ++ D[i] :: D.drop (i + 1)).filter (fun r => r.k != D[i].k) := by
    unfold dropK
    rw [← hsplit]
  rw [e, List.filter_append, h1, List.filter_cons, if_neg (by simp), h2]
theorem setK_at {D : List Rec} (ho : (D.map (·.k)).Nodup) {i : Nat} (hi : i < D.length) (x : Ent) : setK D D[i].k x = D.set i (putX x D[i]) := by
  unfold setK
  apply List.ext_getElem
  · simp
  · intro j h1 h2
    simp only [List.length_map] at h1
    rw [List.getElem_map, List.getElem_set]
    by_cases h : i = j
    · subst h; rw [if_pos rfl, if_pos rfl]
    · rw [if_neg h, if_neg (fun e => h (key_at ho h1 hi e).symm)]
theorem four_boxM {w : World} {b : Nat} {x0 x1 x2 x3 : Value} {t : TypeId} (h : w.heap[b]? = some (.cells #[x0, x1, x2, x3] t (0, 0))) :
    w.cell? ⟨b, 0, none⟩ = some x0 ∧ w.cell? ⟨b, 1, none⟩ = some x1 ∧ w.cell? ⟨b, 2, none⟩ = some x2 ∧ w.cell? ⟨b, 3, none⟩ = some x3 := by simp [World.cell?, h]
/-- a key of the row, its cells. -/
theorem rkey_at {w : World} {base g n cap : Nat} {D : List Rec} (h : w.ownsRow base 56 3 (.slice (some ⟨g, 0, none⟩) n cap) n (D.flatMap rck)) (i : Nat) (hi : i < D.length) :
    w.cell? ⟨g, i * 3, none⟩ = some (.int .i64 D[i].k.rule) ∧ w.cell? ⟨g, i * 3 + 1, none⟩ = some (.int .i64 D[i].k.level) ∧ w.cell? ⟨g, i * 3 + 2, none⟩ = some (.int .i64 D[i].k.place) :=
  ⟨(own_cellC rck_len h i hi 0 (by omega)).1, (own_cellC rck_len h i hi 1 (by omega)).1, (own_cellC rck_len h i hi 2 (by omega)).1⟩
/-- an entry of the row, its cells. -/
theorem rent_at {w : World} {base g n cap : Nat} {D : List Rec} (h : w.ownsRow base 58 5 (.slice (some ⟨g, 0, none⟩) n cap) n (D.flatMap rcx)) (i : Nat) (hi : i < D.length) :
    w.cell? ⟨g, i * 5, none⟩ = some (.bool D[i].x.is) ∧ w.cell? ⟨g, i * 5 + 1, none⟩ = some (.int .i64 D[i].x.en) ∧ w.cell? ⟨g, i * 5 + 2, none⟩ = some (.int .i64 D[i].x.far) ∧ w.cell? ⟨g, i * 5 + 3, none⟩ = some D[i].x.tv ∧ w.cell? ⟨g, i * 5 + 4, none⟩ = some D[i].x.kv :=
  ⟨(own_cellC rcx_len h i hi 0 (by omega)).1, (own_cellC rcx_len h i hi 1 (by omega)).1, (own_cellC rcx_len h i hi 2 (by omega)).1, (own_cellC rcx_len h i hi 3 (by omega)).1, (own_cellC rcx_len h i hi 4 (by omega)).1⟩
/-- where a key is. -/
def atK (D : List Rec) (k : Ky) : Int := match D.findIdx? fun r => r.k == k with
  | some i => (i : Int)
  | none => -1
theorem atK_yes {D : List Rec} {k : Ky} {i : Nat} (hi : i < D.length) (h : D[i].k = k) (hn : ∀ j (hj : j < D.length), j < i → D[j].k ≠ k) : atK D k = i := by
  have : D.findIdx? (fun r => r.k == k) = some i := by
    rw [List.findIdx?_eq_some_iff_getElem]
    exact ⟨hi, by simpa using h, fun j hj => by simpa using hn j (by omega) hj⟩
  unfold atK
  rw [this]
theorem atK_at {D : List Rec} (ho : (D.map (·.k)).Nodup) {i : Nat} (hi : i < D.length) : atK D D[i].k = i :=
  atK_yes hi rfl fun j hj hji e => by have := key_at ho hj hi e; omega
theorem atK_no {D : List Rec} {k : Ky} (h : ∀ j (hj : j < D.length), D[j].k ≠ k) : atK D k = -1 := by
  have : D.findIdx? (fun r => r.k == k) = none := by
    rw [List.findIdx?_eq_none_iff]
    intro r hr
    obtain ⟨j, hj, rfl⟩ := List.mem_iff_getElem.1 hr
    simpa using h j hj
  unfold atK
  rw [this]
theorem atK_none {D : List Rec} {k : Ky} (h : fndK D k = none) : atK D k = -1 := atK_no fun _ _ => fndK_none h _ (List.getElem_mem _)
/-- a part of a row, as an append's news. -/
theorem part_newsC {α : Type} {f : α → List Value} {C : Nat} (hf : ∀ x, (f x).length = C) (hC : 0 < C) {w : World} {base g n cap : Nat} {t : TypeId} {L : List α} (h : w.ownsRow base t C (.slice (some ⟨g, 0, none⟩) n cap) n (L.flatMap f)) (s : Nat) (M : List α) (hM : ∀ j (hj : j < M.length), ∃ h : s + j < L.length, M[j] = L[s + j]) :
    ∀ j u, (M.flatMap f)[j]? = some u → w.cell? ((⟨g, s * C, none⟩ : Addr).add j) = some u := by
  intro j u hj
  have hjl := (List.getElem?_eq_some_iff.1 hj).1
  rw [flat_len hf] at hjl
  have hd : j / C < M.length := Nat.div_lt_of_lt_mul (by rw [Nat.mul_comm]; exact hjl)
  have hm : j % C < C := Nat.mod_lt _ hC
  have e : j / C * C + j % C = j := by rw [Nat.mul_comm]; exact Nat.div_add_mod j C
  have h3 := flat_get hf M (j / C) (j % C) hd hm
  obtain ⟨hs, h4⟩ := hM _ hd
  rw [e, hj, h4] at h3
  rw [add_none, show s * C + j = (s + j / C) * C + j % C by rw [Nat.add_mul]; omega, (own_cellC hf h (s + j / C) hs (j % C) hm).1, h3]
theorem part_takeC {α : Type} {L : List α} {i : Nat} : ∀ j (hj : j < (L.take i).length), ∃ h : 0 + j < L.length, (L.take i)[j] = L[0 + j] := fun j hj => by
  have hj' : j < i ∧ j < L.length := by simp at hj; omega
  refine ⟨by omega, ?_⟩
  rw [List.getElem_take]
  simp
theorem part_dropC {α : Type} {L : List α} {i : Nat} : ∀ j (hj : j < (L.drop i).length), ∃ h : i + j < L.length, (L.drop i)[j] = L[i + j] := fun j hj => by
  have hj' : i + j < L.length := by simp at hj; omega
  exact ⟨hj', by rw [List.getElem_drop]⟩
theorem empty_rowC {W : World} {base X : Nat} {t : TypeId} {C : Nat} (h : W.heap[X]? = some (.cells #[] t (0, 0))) (hb : base ≤ X) : W.ownsRow base t C (.slice (some ⟨X, 0, none⟩) 0 0) 0 [] :=
  ⟨by simp, .inr ⟨X, 0, #[], rfl, hb, h, Nat.le_refl _, by unfold maxLen; omega, by simp, by simp⟩⟩
theorem append_type {P : Program} (w : World) (t u ty e e' : TypeId) (a b : Value) (ht : P.underlying t = some (.slice e)) (hu : P.underlying u = some (.slice e')) :
    (Builtin.append_ #[t, u] ty #[a, b]).run P w = (Builtin.append_ #[t, t] ty #[a, b]).run P w := by
  unfold Builtin.append_
  cases a <;> simp [run_underlying ht, run_underlying hu]
theorem wpList_append_tu {P : Program} {w : World} {ops : Array Oper} {rest : List Oper} {o : Oper} {a : Act} {Q : Exit → Act → World → Prop} (hgd : o.guard = none) (s x : Operand) (t u : TypeId)
    (ho : o.op = .call { callee := .builtin .append, args := #[s, x], argTypes := #[t, u] })
    (base : Nat) (e e' : TypeId) (i : TypeInfo) (z : Value) (size bytes : Nat) (ht : P.underlying t = some (.slice e)) (hu : P.underlying u = some (.slice e')) (hi : P.info? e = some i) (hz : i.zero = some z)
    (hsize : i.size = size) (hby : i.bytes = bytes) (hzs : z.cells.size = size) (hsz : 0 < size)
    (ao : Option Addr) (n cap : Nat) (xs : List Value) (hs : a.eval s = .slice ao n cap) (hown : w.ownsRow base e size (.slice ao n cap) n xs)
    (xo : Option Addr) (m c : Nat) (news : List Value) (hx : a.eval x = .slice xo m c) (hxo : xo = none → m = 0) (hl : news.length = m * size) (hnews : ∀ ad, xo = some ad → ∀ j u, news[j]? = some u → w.cell? (ad.add j) = some u) (h1 : ∀ u ∈ news, u.oneCell' = true)
    (h63 : n + m ≤ maxLen) (hbytes : (n + m) * bytes ≤ 140737488355328) (hbase : base ≤ w.heap.size)
    (h : ∀ v' w', w'.ownsRow base e size v' (n + m) (xs ++ news) → w.grownBy w' (Value.slice ao n cap).ownBlock → wpList P ops Q rest (a.put o.dst v') w') :
    wpList P ops Q (o :: rest) a w := by
  have hcap : n ≤ cap := (own_cap hown).1
  cases xo with
  | none =>
    obtain rfl := hxo rfl
    have hnil : news = [] := List.eq_nil_of_length_eq_zero (by omega)
    subst hnil
    have hr := run_append_nothing (P := P) w t t o.type e i ht hi ao n cap hcap (.slice none 0 c) (Src.ofNil w ht c)
    rw [← append_type w t u o.type e e' _ _ ht hu] at hr
    refine wpList_plain hgd fun K hK => ?_
    unfold Oper.wp execOp
    simp only [ho, resolve, invoke, builtin, Sem.run_bind, Sem.run_pure, Result.andThen_ok, List.map_toArray, List.map_cons, List.map_nil, hs, hx, hr]
    exact hK _ _ (h _ _ (by simpa using hown) ⟨rfl, rfl, rfl, Nat.le_refl _, fun _ _ _ => rfl⟩)
  | some ad =>
    obtain ⟨v', w', hr, h2, h3, -⟩ := run_append_own (P := P) w base t o.type e i z size bytes ht hi hz hsize hby hzs hsz (.slice ao n cap) n xs hown ad m c news hl (hnews ad rfl) h1 h63 hbytes hbase
    rw [← append_type w t u o.type e e' _ _ ht hu] at hr
    refine wpList_plain hgd fun K hK => ?_
    unfold Oper.wp execOp
    simp only [ho, resolve, invoke, builtin, Sem.run_bind, Sem.run_pure, Result.andThen_ok, List.map_toArray, List.map_cons, List.map_nil, hs, hx, hr]
    exact hK _ _ (h _ _ h2 h3)
/-- append onto a row of the call's own, as one step of a region that draws; what comes may be nil. -/
theorem step_append_tu {P : Program} {ops : Array Oper} {o : Oper} {a : Act} {w : World} {K : Act → World → Prop} {Q : Exit → Act → World → Prop} {E : Prop}
    (hgd : o.guard = none) (s x : Operand) (t u : TypeId) (ho : o.op = .call { callee := .builtin .append, args := #[s, x], argTypes := #[t, u] })
    (base : Nat) (e e' : TypeId) (i : TypeInfo) (z : Value) (size bytes : Nat) (ht : P.underlying t = some (.slice e)) (hu : P.underlying u = some (.slice e')) (hi : P.info? e = some i) (hz : i.zero = some z)
    (hsize : i.size = size) (hby : i.bytes = bytes) (hzs : z.cells.size = size) (hsz : 0 < size)
    (ao : Option Addr) (n cap : Nat) (xs : List Value) (hs : a.eval s = .slice ao n cap) (hown : w.ownsRow base e size (.slice ao n cap) n xs)
    (xo : Option Addr) (m c : Nat) (news : List Value) (hx : a.eval x = .slice xo m c) (hxo : xo = none → m = 0) (hl : news.length = m * size) (hnews : ∀ ad, xo = some ad → ∀ j u, news[j]? = some u → w.cell? (ad.add j) = some u) (h1 : ∀ u ∈ news, u.oneCell' = true)
    (h63 : n + m ≤ maxLen) (hbytes : (n + m) * bytes ≤ 140737488355328) (hbase : base ≤ w.heap.size)
    (h : ∀ v' w', w'.ownsRow base e size v' (n + m) (xs ++ news) → w.grownBy w' (Value.slice ao n cap).ownBlock → K (a.put o.dst v') w') :
    if Region.wanted o (yielded ops a.tmps) = true then Oper.wp P o a w K Q else E := by
  have hw : Region.wanted o (yielded ops a.tmps) = true := by simp [Region.wanted, hgd]
  rw [if_pos hw]
  have hcap : n ≤ cap := (own_cap hown).1
  unfold Oper.wp execOp
  cases xo with
  | none =>
    obtain rfl := hxo rfl
    have hnil : news = [] := List.eq_nil_of_length_eq_zero (by omega)
    subst hnil
    have hr := run_append_nothing (P := P) w t t o.type e i ht hi ao n cap hcap (.slice none 0 c) (Src.ofNil w ht c)
    rw [← append_type w t u o.type e e' _ _ ht hu] at hr
    simp only [ho, resolve, invoke, builtin, Sem.run_bind, Sem.run_pure, Result.andThen_ok, List.map_toArray, List.map_cons, List.map_nil, hs, hx, hr]
    exact h _ _ (by simpa using hown) ⟨rfl, rfl, rfl, Nat.le_refl _, fun _ _ _ => rfl⟩
  | some ad =>
    obtain ⟨v', w', hr, h2, h3, -⟩ := run_append_own (P := P) w base t o.type e i z size bytes ht hi hz hsize hby hzs hsz (.slice ao n cap) n xs hown ad m c news hl (hnews ad rfl) h1 h63 hbytes hbase
    rw [← append_type w t u o.type e e' _ _ ht hu] at hr
    simp only [ho, resolve, invoke, builtin, Sem.run_bind, Sem.run_pure, Result.andThen_ok, List.map_toArray, List.map_cons, List.map_nil, hs, hx, hr]
    exact h _ _ h2 h3
theorem Tryz.infoRKey : (Tryz.prog.info? 56).map (fun i => (i.zero, i.size, i.bytes)) = some (some (.agg #[.int .i64 0, .int .i64 0, .int .i64 0]), 3, 24) := by kernel_rfl
theorem Tryz.infoREnt : (Tryz.prog.info? 58).map (fun i => (i.zero, i.size, i.bytes)) = some (some (.agg #[.bool false, .int .i64 0, .int .i64 0, .slice none 0 0, .slice none 0 0]), 5, 72) := by kernel_rfl
/-- two of the document's keys held against each other. -/
theorem rky_eql0 (a b c d e f : Int) (w : World) : (binOp .eql 56 (.agg #[.int .i64 a, .int .i64 b, .int .i64 c]) (.agg #[.int .i64 d, .int .i64 e, .int .i64 f])).run Tryz.prog w = .ok (.bool (a == d && b == e && c == f)) w := by
  by_cases h1 : a = d
  · by_cases h2 : b = e
    · by_cases h3 : c = f
      · subst h1; subst h2; subst h3
        go_simp
      · have h4 : (c == f) = false := by simpa using h3
        subst h1; subst h2
        go_simp
    · have h4 : (b == e) = false := by simpa using h2
      subst h1
      go_simp
  · have h4 : (a == d) = false := by simpa using h1
    go_simp
theorem rky_eql (p q : Ky) (w : World) : (binOp .eql 56 (.agg #[.int .i64 p.rule, .int .i64 p.level, .int .i64 p.place]) (.agg #[.int .i64 q.rule, .int .i64 q.level, .int .i64 q.place])).run Tryz.prog w = .ok (.bool (decide (p = q))) w := by
  obtain ⟨a, b, c⟩ := p
  obtain ⟨d, e, f⟩ := q
  have hd : decide ((⟨a, b, c⟩ : Ky) = ⟨d, e, f⟩) = (a == d && b == e && c == f) := by
    rw [Bool.eq_iff_iff]; simp [and_assoc]
  rw [hd]
  exact rky_eql0 a b c d e f w
end Go.Proofs.YtpchjpmkkiopiaaGreat
namespace Go.Proofs.YtpchjpmkkiopiaaGreat
open Go.RowKit Go.Lib

set_option maxRecDepth 100000 in
set_option maxHeartbeats 2000000 in
theorem rmAt_any {base r : Nat} {kv lv : Value} {room peak : Int} {D : List Rec} (x : Ky) (w : World) (h : Rm base w r kv lv room peak D) :
    Calls Tryz.prog 36 #[.pointer (some ⟨r, 0, none⟩), kyv x] w fun e w' => e = .returned (.int .i64 (atK D x)) ∧ Below w.heap.size w w' := by
  have H := Lib.hid h
  obtain ⟨ao, cap, rfl⟩ := own_val h.keys
  have hle := h.le
  obtain ⟨n, hn⟩ : ∃ n, n = D.length := ⟨_, rfl⟩
  have HN := Lib.hid hn
  rw [← hn] at H hle
  have HKe := Lib.hid rky_eql
  clear h hn
  go_enter Tryz.func36, Tryz.ntmps36
  go_upto_region 2 with (fail)
  refine gen_world (S := fun u => Below w.heap.size w u ∧ u.heap[w.heap.size]? = some (.cells #[.int .i64 x.rule, .int .i64 x.level, .int .i64 x.place] 56 (0, 0))) (one_new w _) (fun u hu => ?_)
  obtain ⟨hb, hx⟩ := hu
  obtain ⟨X, hX⟩ : ∃ X, X = w.heap.size := ⟨_, rfl⟩
  rw [← hX] at hx ⊢
  have HB := Lib.hid hb
  have HX := Lib.hid hx
  have Hu := Lib.hid (H.out.later hb)
  clear hX hb hx
  go_loopw [5] (fun i wr => ∃ k : Nat, k ≤ n ∧ i = .int .i64 k ∧ Hid (∀ j (hj : j < D.length), j < k → D[j].k ≠ x) ∧ Hid (Below u.heap.size u wr)) (fun i _ => n - (intOf i).toNat)
  case atStart => exact ⟨0, Nat.zero_le _, rfl, Lib.hid (fun j hj h => by omega), Lib.hid (Below.refl _ _)⟩
  case round =>
    obtain ⟨k, hk, rfl, Hn, Hb⟩ := hrel
    have HM := Lib.hid (show ∀ wS, Below wr.heap.size wr wS → wS.cell? ⟨r, 2, none⟩ = some (.slice ao n cap) from fun wS hw => (four_boxM (Hu.out.later (Hb.out.trans (hw.mono Hb.out.size))).blk).2.2.1)
    have m2 := HM.out wr (Below.refl _ _)
    by_cases hlt : k < n
    · have hlt2 : (k : Int) < n := by omega
      have hkS : k < D.length := by rw [← HN.out]; exact hlt
      have hrow := Hu.out.keys
      rw [← HN.out] at hrow
      obtain ⟨g, cap', hv⟩ := own_shape hrow (by omega)
      simp only [Value.slice.injEq, true_and] at hv
      obtain ⟨rfl, rfl⟩ := hv
      have HC := Lib.hid (show ∀ wS, Below wr.heap.size wr wS → wS.cell? ⟨g, k * 3, none⟩ = some (.int .i64 D[k].k.rule) ∧ wS.cell? ⟨g, k * 3 + 1, none⟩ = some (.int .i64 D[k].k.level) ∧ wS.cell? ⟨g, k * 3 + 2, none⟩ = some (.int .i64 D[k].k.place) from fun wS hw => rkey_at (row_later hrow (Hb.out.trans (hw.mono Hb.out.size))) k hkS)
      obtain ⟨y, hy⟩ : ∃ y, y = D[k].k := ⟨_, rfl⟩
      rw [← hy] at HC
      have HY := Lib.hid hy
      replace HX := Lib.hid ((Hb.out.block _ (lt_of_block HX.out)).trans HX.out)
      have HkS := Lib.hid hkS
      clear hy hrow
      by_cases he : y = x
      · have hd : decide (y = x) = true := by simpa using he
        have HE := Lib.hid (show atK D x = k from atK_yes HkS.out (by rw [← HY.out]; exact he) (fun j hj h => Hn.out j hj h))
        have hke := HKe.out y x
        rw [hd] at hke
        have HKy := Lib.hid hke
        clear he hd hke
        go_upto_region 4 with (fail)
        clear m2
        refine wp_region_held_drew (S := fun z => Below wr.heap.size wr z) (by kernel_rfl) (Below.refl wr.heap.size wr).drew (fun hS => ?_)
        refine wpAnyH_take (i := 0) (oi := ⟨_, _, _, _, _, _⟩) (v := ?v1) rfl (by kernel_rfl) (by kernel_rfl) (by kernel_rfl) (fun _ _ _ h => h) ?y1 hS ?_
        case y1 => first | (refine Or.inr ⟨by rfl, ?_⟩; with_reducible rfl) | (refine Or.inl ⟨by rfl, ?_⟩; intro wS hSw; obtain ⟨c0, c1, c2⟩ := HC.out wS hSw; obtain ⟨b0, b1, b2, -⟩ := three_box ((hSw.block _ (lt_of_block HX.out)).trans HX.out); have m2 := HM.out wS hSw; go_simp; try with_reducible rfl)
        simp only [Act.put, List.setIfInBounds_toArray, List.set_cons_zero, List.set_cons_succ]
        refine wpAnyH_take (i := 1) (oi := ⟨_, _, _, _, _, _⟩) (v := ?v2) rfl (by kernel_rfl) (by kernel_rfl) (by kernel_rfl) (fun _ _ _ h => h) ?y2 hS ?_
        case y2 => first | (refine Or.inr ⟨by rfl, ?_⟩; with_reducible rfl) | (refine Or.inl ⟨by rfl, ?_⟩; intro wS hSw; obtain ⟨c0, c1, c2⟩ := HC.out wS hSw; obtain ⟨b0, b1, b2, -⟩ := three_box ((hSw.block _ (lt_of_block HX.out)).trans HX.out); have m2 := HM.out wS hSw; go_simp; try with_reducible rfl)
        simp only [Act.put, List.setIfInBounds_toArray, List.set_cons_zero, List.set_cons_succ]
        refine wpAnyH_take (i := 2) (oi := ⟨_, _, _, _, _, _⟩) (v := ?v3) rfl (by kernel_rfl) (by kernel_rfl) (by kernel_rfl) (fun _ _ _ h => h) ?y3 hS ?_
        case y3 => first | (refine Or.inr ⟨by rfl, ?_⟩; with_reducible rfl) | (refine Or.inl ⟨by rfl, ?_⟩; intro wS hSw; obtain ⟨c0, c1, c2⟩ := HC.out wS hSw; obtain ⟨b0, b1, b2, -⟩ := three_box ((hSw.block _ (lt_of_block HX.out)).trans HX.out); have m2 := HM.out wS hSw; go_simp; try with_reducible rfl)
        simp only [Act.put, List.setIfInBounds_toArray, List.set_cons_zero, List.set_cons_succ]
        refine wpAnyH_take (i := 3) (oi := ⟨_, _, _, _, _, _⟩) (v := ?v4) rfl (by kernel_rfl) (by kernel_rfl) (by kernel_rfl) (fun _ _ _ h => h) ?y4 hS ?_
        case y4 => first | (refine Or.inr ⟨by rfl, ?_⟩; with_reducible rfl) | (refine Or.inl ⟨by rfl, ?_⟩; intro wS hSw; obtain ⟨c0, c1, c2⟩ := HC.out wS hSw; obtain ⟨b0, b1, b2, -⟩ := three_box ((hSw.block _ (lt_of_block HX.out)).trans HX.out); have m2 := HM.out wS hSw; go_simp; try with_reducible rfl)
        simp only [Act.put, List.setIfInBounds_toArray, List.set_cons_zero, List.set_cons_succ]
        refine wpAnyH_take (i := 4) (oi := ⟨_, _, _, _, _, _⟩) (v := ?v5) rfl (by kernel_rfl) (by kernel_rfl) (by kernel_rfl) (fun _ _ _ h => h) ?y5 hS ?_
        case y5 => first | (refine Or.inr ⟨by rfl, ?_⟩; with_reducible rfl) | (refine Or.inl ⟨by rfl, ?_⟩; intro wS hSw; obtain ⟨c0, c1, c2⟩ := HC.out wS hSw; obtain ⟨b0, b1, b2, -⟩ := three_box ((hSw.block _ (lt_of_block HX.out)).trans HX.out); have m2 := HM.out wS hSw; go_simp; try with_reducible rfl)
        simp only [Act.put, List.setIfInBounds_toArray, List.set_cons_zero, List.set_cons_succ]
        refine wpAnyH_take (i := 5) (oi := ⟨_, _, _, _, _, _⟩) (v := ?v6) rfl (by kernel_rfl) (by kernel_rfl) (by kernel_rfl) (fun _ _ _ h => h) ?y6 hS ?_
        case y6 => first | (refine Or.inr ⟨by rfl, ?_⟩; with_reducible rfl) | (refine Or.inl ⟨by rfl, ?_⟩; intro wS hSw; obtain ⟨c0, c1, c2⟩ := HC.out wS hSw; obtain ⟨b0, b1, b2, -⟩ := three_box ((hSw.block _ (lt_of_block HX.out)).trans HX.out); have m2 := HM.out wS hSw; go_simp; try with_reducible rfl)
        simp only [Act.put, List.setIfInBounds_toArray, List.set_cons_zero, List.set_cons_succ]
        refine wpAnyH_take (i := 6) (oi := ⟨_, _, _, _, _, _⟩) (v := ?v7) rfl (by kernel_rfl) (by kernel_rfl) (by kernel_rfl) (fun _ _ _ h => h) ?y7 hS ?_
        case y7 => first | (refine Or.inr ⟨by rfl, ?_⟩; with_reducible rfl) | (refine Or.inl ⟨by rfl, ?_⟩; intro wS hSw; obtain ⟨c0, c1, c2⟩ := HC.out wS hSw; obtain ⟨b0, b1, b2, -⟩ := three_box ((hSw.block _ (lt_of_block HX.out)).trans HX.out); have m2 := HM.out wS hSw; go_simp; try with_reducible rfl)
        simp only [Act.put, List.setIfInBounds_toArray, List.set_cons_zero, List.set_cons_succ]
        refine wpAnyH_take (i := 7) (oi := ⟨_, _, _, _, _, _⟩) (v := ?v8) rfl (by kernel_rfl) (by kernel_rfl) (by kernel_rfl) (fun _ _ _ h => h) ?y8 hS ?_
        case y8 => first | (refine Or.inr ⟨by rfl, ?_⟩; with_reducible rfl) | (refine Or.inl ⟨by rfl, ?_⟩; intro wS hSw; obtain ⟨c0, c1, c2⟩ := HC.out wS hSw; obtain ⟨b0, b1, b2, -⟩ := three_box ((hSw.block _ (lt_of_block HX.out)).trans HX.out); have m2 := HM.out wS hSw; go_simp; try with_reducible rfl)
        simp only [Act.put, List.setIfInBounds_toArray, List.set_cons_zero, List.set_cons_succ]
        refine wpAnyH_take (i := 8) (oi := ⟨_, _, _, _, _, _⟩) (v := ?v9) rfl (by kernel_rfl) (by kernel_rfl) (by kernel_rfl) (fun _ _ _ h => h) ?y9 hS ?_
        case y9 => first | (refine Or.inr ⟨by rfl, ?_⟩; with_reducible rfl) | (refine Or.inl ⟨by rfl, ?_⟩; intro wS hSw; have hke := HKy.out; go_simp; try with_reducible rfl)
        simp only [Act.put, List.setIfInBounds_toArray, List.set_cons_zero, List.set_cons_succ]
        refine wpAnyH_done (by kernel_rfl) ?_ _
        have HS := Lib.hid (HB.out.trans ((Hb.out.trans (hS.mono Hb.out.size)).mono HB.out.size))
        clear hS
        go_wp2
        go_ret
        exact ⟨by rw [HE.out]; rfl, HS.out⟩
      · have hd : decide (y = x) = false := by simpa using he
        have HE := Lib.hid he
        have hke := HKe.out y x
        rw [hd] at hke
        have HKy := Lib.hid hke
        clear he hd hke
        go_upto_region 4 with (fail)
        clear m2
        refine wp_region_held_drew (S := fun z => Below wr.heap.size wr z) (by kernel_rfl) (Below.refl wr.heap.size wr).drew (fun hS => ?_)
        refine wpAnyH_take (i := 0) (oi := ⟨_, _, _, _, _, _⟩) (v := ?v10) rfl (by kernel_rfl) (by kernel_rfl) (by kernel_rfl) (fun _ _ _ h => h) ?y10 hS ?_
        case y10 => first | (refine Or.inr ⟨by rfl, ?_⟩; with_reducible rfl) | (refine Or.inl ⟨by rfl, ?_⟩; intro wS hSw; obtain ⟨c0, c1, c2⟩ := HC.out wS hSw; obtain ⟨b0, b1, b2, -⟩ := three_box ((hSw.block _ (lt_of_block HX.out)).trans HX.out); have m2 := HM.out wS hSw; go_simp; try with_reducible rfl)
        simp only [Act.put, List.setIfInBounds_toArray, List.set_cons_zero, List.set_cons_succ]
        refine wpAnyH_take (i := 1) (oi := ⟨_, _, _, _, _, _⟩) (v := ?v11) rfl (by kernel_rfl) (by kernel_rfl) (by kernel_rfl) (fun _ _ _ h => h) ?y11 hS ?_
        case y11 => first | (refine Or.inr ⟨by rfl, ?_⟩; with_reducible rfl) | (refine Or.inl ⟨by rfl, ?_⟩; intro wS hSw; obtain ⟨c0, c1, c2⟩ := HC.out wS hSw; obtain ⟨b0, b1, b2, -⟩ := three_box ((hSw.block _ (lt_of_block HX.out)).trans HX.out); have m2 := HM.out wS hSw; go_simp; try with_reducible rfl)
        simp only [Act.put, List.setIfInBounds_toArray, List.set_cons_zero, List.set_cons_succ]
        refine wpAnyH_take (i := 2) (oi := ⟨_, _, _, _, _, _⟩) (v := ?v12) rfl (by kernel_rfl) (by kernel_rfl) (by kernel_rfl) (fun _ _ _ h => h) ?y12 hS ?_
        case y12 => first | (refine Or.inr ⟨by rfl, ?_⟩; with_reducible rfl) | (refine Or.inl ⟨by rfl, ?_⟩; intro wS hSw; obtain ⟨c0, c1, c2⟩ := HC.out wS hSw; obtain ⟨b0, b1, b2, -⟩ := three_box ((hSw.block _ (lt_of_block HX.out)).trans HX.out); have m2 := HM.out wS hSw; go_simp; try with_reducible rfl)
        simp only [Act.put, List.setIfInBounds_toArray, List.set_cons_zero, List.set_cons_succ]
        refine wpAnyH_take (i := 3) (oi := ⟨_, _, _, _, _, _⟩) (v := ?v13) rfl (by kernel_rfl) (by kernel_rfl) (by kernel_rfl) (fun _ _ _ h => h) ?y13 hS ?_
        case y13 => first | (refine Or.inr ⟨by rfl, ?_⟩; with_reducible rfl) | (refine Or.inl ⟨by rfl, ?_⟩; intro wS hSw; obtain ⟨c0, c1, c2⟩ := HC.out wS hSw; obtain ⟨b0, b1, b2, -⟩ := three_box ((hSw.block _ (lt_of_block HX.out)).trans HX.out); have m2 := HM.out wS hSw; go_simp; try with_reducible rfl)
        simp only [Act.put, List.setIfInBounds_toArray, List.set_cons_zero, List.set_cons_succ]
        refine wpAnyH_take (i := 4) (oi := ⟨_, _, _, _, _, _⟩) (v := ?v14) rfl (by kernel_rfl) (by kernel_rfl) (by kernel_rfl) (fun _ _ _ h => h) ?y14 hS ?_
        case y14 => first | (refine Or.inr ⟨by rfl, ?_⟩; with_reducible rfl) | (refine Or.inl ⟨by rfl, ?_⟩; intro wS hSw; obtain ⟨c0, c1, c2⟩ := HC.out wS hSw; obtain ⟨b0, b1, b2, -⟩ := three_box ((hSw.block _ (lt_of_block HX.out)).trans HX.out); have m2 := HM.out wS hSw; go_simp; try with_reducible rfl)
        simp only [Act.put, List.setIfInBounds_toArray, List.set_cons_zero, List.set_cons_succ]
        refine wpAnyH_take (i := 5) (oi := ⟨_, _, _, _, _, _⟩) (v := ?v15) rfl (by kernel_rfl) (by kernel_rfl) (by kernel_rfl) (fun _ _ _ h => h) ?y15 hS ?_
        case y15 => first | (refine Or.inr ⟨by rfl, ?_⟩; with_reducible rfl) | (refine Or.inl ⟨by rfl, ?_⟩; intro wS hSw; obtain ⟨c0, c1, c2⟩ := HC.out wS hSw; obtain ⟨b0, b1, b2, -⟩ := three_box ((hSw.block _ (lt_of_block HX.out)).trans HX.out); have m2 := HM.out wS hSw; go_simp; try with_reducible rfl)
        simp only [Act.put, List.setIfInBounds_toArray, List.set_cons_zero, List.set_cons_succ]
        refine wpAnyH_take (i := 6) (oi := ⟨_, _, _, _, _, _⟩) (v := ?v16) rfl (by kernel_rfl) (by kernel_rfl) (by kernel_rfl) (fun _ _ _ h => h) ?y16 hS ?_
        case y16 => first | (refine Or.inr ⟨by rfl, ?_⟩; with_reducible rfl) | (refine Or.inl ⟨by rfl, ?_⟩; intro wS hSw; obtain ⟨c0, c1, c2⟩ := HC.out wS hSw; obtain ⟨b0, b1, b2, -⟩ := three_box ((hSw.block _ (lt_of_block HX.out)).trans HX.out); have m2 := HM.out wS hSw; go_simp; try with_reducible rfl)
        simp only [Act.put, List.setIfInBounds_toArray, List.set_cons_zero, List.set_cons_succ]
        refine wpAnyH_take (i := 7) (oi := ⟨_, _, _, _, _, _⟩) (v := ?v17) rfl (by kernel_rfl) (by kernel_rfl) (by kernel_rfl) (fun _ _ _ h => h) ?y17 hS ?_
        case y17 => first | (refine Or.inr ⟨by rfl, ?_⟩; with_reducible rfl) | (refine Or.inl ⟨by rfl, ?_⟩; intro wS hSw; obtain ⟨c0, c1, c2⟩ := HC.out wS hSw; obtain ⟨b0, b1, b2, -⟩ := three_box ((hSw.block _ (lt_of_block HX.out)).trans HX.out); have m2 := HM.out wS hSw; go_simp; try with_reducible rfl)
        simp only [Act.put, List.setIfInBounds_toArray, List.set_cons_zero, List.set_cons_succ]
        refine wpAnyH_take (i := 8) (oi := ⟨_, _, _, _, _, _⟩) (v := ?v18) rfl (by kernel_rfl) (by kernel_rfl) (by kernel_rfl) (fun _ _ _ h => h) ?y18 hS ?_
        case y18 => first | (refine Or.inr ⟨by rfl, ?_⟩; with_reducible rfl) | (refine Or.inl ⟨by rfl, ?_⟩; intro wS hSw; have hke := HKy.out; go_simp; try with_reducible rfl)
        simp only [Act.put, List.setIfInBounds_toArray, List.set_cons_zero, List.set_cons_succ]
        refine wpAnyH_done (by kernel_rfl) ?_ _
        have HS := Lib.hid (Hb.out.trans (hS.mono Hb.out.size))
        clear hS
        go_wp2
        go_roundw
        case rel => exact ⟨k + 1, by omega, by go_num, Lib.hid (fun j hj h e => by
          by_cases hjk : j = k
          · subst hjk; exact HE.out (by rw [HY.out]; exact e)
          · exact Hn.out j hj (by omega) e), HS⟩
        case measure => simp [intOf]; omega
    · obtain rfl : k = n := by omega
      have hlt2 : ¬ (k : Int) < k := by omega
      have HS := Lib.hid (HB.out.trans (Hb.out.mono HB.out.size))
      have HT := Lib.hid (show atK D x = -1 from atK_no fun j hj => Hn.out j hj (by rw [HN.out]; exact hj))
      go_wp2
      go_ret
      exact ⟨by rw [HT.out]; rfl, HS.out⟩
/-- the place of the key at an index. -/
def plc (D : List Rec) (i : Nat) : Int := if h : i < D.length then D[i].k.place else 0
theorem plc_at {D : List Rec} {i : Nat} (h : i < D.length) : plc D i = D[i].k.place := by unfold plc; rw [dif_pos h]
/-- the best place of the first j. -/
def BestK (D : List Rec) (j k : Nat) : Prop := k < j ∧ ∀ a, a < j → plc D k ≤ plc D a ∧ (a < k → plc D k < plc D a)
theorem BestK.one (D : List Rec) : BestK D 1 0 := ⟨by omega, fun a ha => by
  obtain rfl : a = 0 := by omega
  exact ⟨Int.le_refl _, fun h => by omega⟩⟩
theorem BestK.keep {D : List Rec} {j k : Nat} (h : BestK D j k) (hl : ¬ plc D j < plc D k) : BestK D (j + 1) k := ⟨by have := h.1; omega, fun a ha => by
  by_cases hj : a = j
  · subst hj; exact ⟨by omega, fun hk => by have := h.1; omega⟩
  · exact h.2 a (by omega)⟩
theorem BestK.turn {D : List Rec} {j k : Nat} (h : BestK D j k) (hl : plc D j < plc D k) : BestK D (j + 1) j := ⟨by omega, fun a ha => by
  by_cases hj : a = j
  · subst hj; exact ⟨Int.le_refl _, fun h => by omega⟩
  · have := h.2 a (by omega)
    exact ⟨by omega, fun _ => by omega⟩⟩
theorem BestK.first {D : List Rec} {k : Nat} (h : BestK D D.length k) (hr : D.Pairwise fun a b => a.n < b.n) : FirstK D (D[k]'h.1) := by
  refine ⟨List.getElem_mem _, fun a ha => ?_⟩
  obtain ⟨j, hj, rfl⟩ := List.mem_iff_getElem.1 ha
  have h1 := h.2 j hj
  rw [plc_at hj, plc_at h.1] at h1
  have h2 : k < j → (D[k]'h.1).n < D[j].n := fun hkj => List.pairwise_iff_getElem.1 hr k j h.1 hj hkj
  rcases Nat.lt_trichotomy j k with hh | hh | hh
  · have := h1.2 hh; omega
  · subst hh; omega
  · have := h2 hh; omega
set_option maxRecDepth 100000 in
set_option maxHeartbeats 2000000 in
theorem rmFirst_any {base r : Nat} {kv lv : Value} {room peak : Int} {D : List Rec} (w : World) (h : Rm base w r kv lv room peak D) (h0 : 0 < D.length) :
    Calls Tryz.prog 37 #[.pointer (some ⟨r, 0, none⟩)] w fun e w' => ∃ i : Nat, e = .returned (.int .i64 i) ∧ BestK D D.length i ∧ ∃ m, w' = w.drewN m := by
  obtain ⟨g, cap, rfl⟩ := own_shape h.keys h0
  have c2 := (four_boxM h.blk).2.2.1
  have hrow : ∀ k, k < D.length → w.cell? ⟨g, k * 3 + 2, none⟩ = some (.int .i64 (plc D k)) := fun k hk => by rw [plc_at hk]; exact (rkey_at h.keys k hk).2.2
  have HR := Lib.hid hrow
  have hle := h.le
  obtain ⟨n, hn⟩ : ∃ n, n = D.length := ⟨_, rfl⟩
  have HN := Lib.hid hn
  rw [← hn] at c2 h0 hle
  clear h hrow hn
  go_enter Tryz.func37, Tryz.ntmps37
  go_wp2
  go_loopw [3, 4] (fun b j wr => (∃ m, wr = w.drewN m) ∧ ((b = .int .i64 (-1) ∧ j = .int .i64 0) ∨ ∃ j' k : Nat, 0 < j' ∧ j' ≤ n ∧ j = .int .i64 j' ∧ b = .int .i64 k ∧ BestK D j' k)) (fun _ j _ => n - (intOf j).toNat)
  case atStart => exact ⟨⟨0, rfl⟩, .inl ⟨rfl, rfl⟩⟩
  case round =>
    obtain ⟨⟨m, rfl⟩, hr⟩ := hrel
    rcases hr with ⟨rfl, rfl⟩ | ⟨j, k, hj0, hj, rfl, rfl, hb⟩
    · have h0 : (0 : Int) < n := by omega
      go_upto_region 5 with (fail)
      go_big_quiet (fail)
      go_wp2
      go_roundw
      case rel => exact ⟨⟨m + nq, rfl⟩, .inr ⟨1, 0, by omega, by omega, by go_num, rfl, BestK.one D⟩⟩
      case measure => simp [intOf]; omega
    · have HBt := Lib.hid hb
      have hkj := hb.1
      clear hb
      by_cases hlt : j < n
      · have hjn : (j : Int) < n := by omega
        have hkn : (k : Int) < n := by omega
        have hk0 : decide ((k : Int) < 0) = false := by simp
        have d0 := HR.out j (by rw [← HN.out]; exact hlt)
        have d1 := HR.out k (by rw [← HN.out]; omega)
        by_cases hl : plc D j < plc D k
        · have q1 : decide (plc D j < plc D k) = true := by simpa using hl
          have HL := Lib.hid hl
          clear hl
          go_upto_region 5 with (fail)
          go_big_quiet (fail)
          go_wp2
          go_roundw
          case rel => exact ⟨⟨m + nq, rfl⟩, .inr ⟨j + 1, j, by omega, by omega, by go_num, rfl, HBt.out.turn HL.out⟩⟩
          case measure => simp [intOf]; omega
        · have q1 : decide (plc D j < plc D k) = false := by simpa using hl
          have HL := Lib.hid hl
          clear hl
          go_upto_region 5 with (fail)
          go_big_quiet (fail)
          go_wp2
          go_roundw
          case rel => exact ⟨⟨m + nq, rfl⟩, .inr ⟨j + 1, k, by omega, by omega, by go_num, rfl, HBt.out.keep HL.out⟩⟩
          case measure => simp [intOf]; omega
      · have hjn : ¬ (j : Int) < n := by omega
        have hjn2 : j = n := by omega
        have HBe := Lib.hid (show BestK D D.length k from by rw [← HN.out, ← hjn2]; exact HBt.out)
        clear hjn2 hlt
        go_wp2
        go_ret
        exact ⟨k, rfl, HBe.out, m, rfl⟩
theorem rmNewE_any (room : Int) (w : World) (h : room < 0) :
    Calls Tryz.prog 10 #[.int .i64 room] w fun e w' => e = .returned (.tuple #[.pointer none, .int .i64 2]) ∧ w = w' := by
  go_enter Tryz.func10, Tryz.ntmps10
  go_wp2
  exact bodyPost_ret (v := .tuple #[.pointer none, .int .i64 2]) (by simp [results, Tryz.f10, go_sem]) rfl ⟨rfl, rfl⟩
set_option maxHeartbeats 1000000 in
theorem rmNew_any (room : Int) (w : World) (h : ¬ room < 0) :
    Calls Tryz.prog 10 #[.int .i64 room] w fun e w' => ∃ r kv lv, e = .returned (.tuple #[.pointer (some ⟨r, 0, none⟩), .int .i64 0]) ∧ Rm w.heap.size w' r kv lv room 0 [] ∧ Below w.heap.size w w' := by
  go_enter Tryz.func10, Tryz.ntmps10
  go_wp2
  obtain ⟨hb, hx⟩ := one_new w (.cells #[.int .i64 room, .int .i64 0, .slice none 0 0, .slice none 0 0] 84 (0, 0))
  exact bodyPost_ret (v := .tuple #[.pointer (some ⟨w.heap.size, 0, none⟩), .int .i64 0]) (by simp [results, Tryz.f10, go_sem]) rfl ⟨w.heap.size, rfl, ⟨.slice none 0 0, .slice none 0 0, ⟨hx, World.ownsRow_nil _ _ _ _, World.ownsRow_nil _ _ _ _, by simp, by simp, fun r hr => by simp at hr, Nat.le_refl _⟩⟩, hb⟩
end Go.Proofs.YtpchjpmkkiopiaaGreat
namespace Go.Proofs.YtpchjpmkkiopiaaGreat
open Go.RowKit Go.Lib

theorem rtail_run {ao : Option Addr} {n cap k : Nat} (hk : k ≤ n) (w : World) :
    (Instr.sliceAt 53 (.slice ao n cap) (some (.int .i64 k)) none none).run Tryz.prog w = .ok (.slice (if cap = k then ao else ao.map fun a => a.add (k * 3)) (n - k) (cap - k)) w := by
  have hs1 : (0 : Int) ≤ (k : Int) := by omega
  have hs2 : (k : Int) ≤ n := by omega
  have hs3 : ((k : Int)).toNat = k := by omega
  go_simp
theorem kcl (x : Ky) : (kyc x).length = 3 := rfl
theorem kco (S : List Ky) : ∀ u ∈ S.flatMap kyc, u.oneCell' = true := by
  intro u hu
  obtain ⟨r, -, h⟩ := List.mem_flatMap.1 hu
  simp only [kyc, List.mem_cons, List.not_mem_nil, or_false] at h
  rcases h with rfl | rfl | rfl <;> rfl
/-- a row of the document's keys. -/
abbrev RkOwn (B : Nat) (w : World) (v : Value) (S : List Ky) : Prop := w.ownsRow B 56 3 v S.length (S.flatMap kyc)
/-- what lies behind k, as an append's news. -/
theorem rk_tail {B n cap k : Nat} {w : World} {ao : Option Addr} {S : List Ky} (h : w.ownsRow B 56 3 (.slice ao n cap) n (S.flatMap kyc)) (hn : n = S.length) (hk : k ≤ n) :
    ((if cap = k then ao else ao.map fun a => a.add (k * 3)) = none → n - k = 0) ∧ ∀ ad, (if cap = k then ao else ao.map fun a => a.add (k * 3)) = some ad → ∀ j u, ((S.drop k).flatMap kyc)[j]? = some u → w.cell? (ad.add j) = some u := by
  have hc := own_cap h
  by_cases h0 : k = n
  · refine ⟨fun _ => by omega, fun ad _ j u hj => ?_⟩
    rw [List.drop_of_length_le (by omega)] at hj
    simp at hj
  · obtain ⟨g, cap', hv⟩ := own_shape h (by omega)
    simp only [Value.slice.injEq, true_and] at hv
    obtain ⟨rfl, rfl⟩ := hv
    rw [if_neg (by omega)]
    refine ⟨fun e => by simp at e, fun ad e => ?_⟩
    simp only [Option.map_some, Option.some.injEq] at e
    subst e
    rw [add_none, Nat.zero_add]
    exact part_newsC kcl (by omega) h k (S.drop k) part_dropC
/-- the first k, as an append's news. -/
theorem rk_head {B n cap k : Nat} {w : World} {ao : Option Addr} {S : List Ky} (h : w.ownsRow B 56 3 (.slice ao n cap) n (S.flatMap kyc)) (hn : n = S.length) (hk : k ≤ n) :
    (ao = none → k = 0) ∧ ∀ ad, ao = some ad → ∀ j u, ((S.take k).flatMap kyc)[j]? = some u → w.cell? (ad.add j) = some u := by
  have hc := own_cap h
  by_cases h0 : k = 0
  · refine ⟨fun _ => h0, fun ad _ j u hj => ?_⟩
    subst h0
    simp at hj
  · obtain ⟨g, cap', hv⟩ := own_shape h (by omega)
    simp only [Value.slice.injEq, true_and] at hv
    obtain ⟨rfl, rfl⟩ := hv
    refine ⟨fun e => by simp at e, fun ad e => ?_⟩
    simp only [Option.some.injEq] at e
    subst e
    have := part_newsC kcl (by omega) h 0 (S.take k) part_takeC
    simpa using this
theorem ins_sorted {S : List Ky} {x : Ky} {n : Nat} (hs : S.Pairwise Ky.le) (hn : n ≤ S.length) (h1 : ∀ j (hj : j < S.length), j < n → Ky.lt S[j] x) (h2 : ∀ h : n < S.length, ¬ Ky.lt S[n] x) : (S.take n ++ x :: S.drop n).Pairwise Ky.le := by
  have ha := List.pairwise_iff_getElem.1 hs
  rw [List.pairwise_append, List.pairwise_cons]
  refine ⟨hs.sublist (List.take_sublist _ _), ⟨fun b hb => ?_, hs.sublist (List.drop_sublist _ _)⟩, fun a ha1 b hb => ?_⟩
  · obtain ⟨j, hj, rfl⟩ := List.mem_iff_getElem.1 hb
    rw [List.getElem_drop]
    simp only [List.length_drop] at hj
    have h3 := h2 (by omega)
    rcases Nat.eq_zero_or_pos j with h0 | h0
    · subst h0; exact h3
    · have h4 := ha n (n + j) (by omega) (by omega) (by omega)
      unfold Ky.le Ky.lt at *
      omega
  · obtain ⟨i, hi, rfl⟩ := List.mem_iff_getElem.1 ha1
    rw [List.getElem_take]
    simp only [List.length_take] at hi
    have h3 := h1 i (by omega) (by omega)
    rcases List.mem_cons.1 hb with rfl | hb
    · unfold Ky.le Ky.lt at *
      omega
    · obtain ⟨j, hj, rfl⟩ := List.mem_iff_getElem.1 hb
      rw [List.getElem_drop]
      simp only [List.length_drop] at hj
      exact ha i (n + j) (by omega) (by omega) (by omega)
theorem ins_perm (S : List Ky) (x : Ky) (n : Nat) : (S.take n ++ x :: S.drop n).Perm (S ++ [x]) := by
  refine List.perm_middle.trans ?_
  rw [List.take_append_drop]
  exact (List.perm_append_comm (l₁ := [x]) (l₂ := S))
theorem sorted_one {S T : List Ky} (h : S.Perm T) (hs : S.Pairwise Ky.le) (ht : T.Pairwise Ky.le) : S = T := by
  refine h.eq_of_pairwise (fun a b _ _ h1 h2 => ?_) hs ht
  obtain ⟨a1, a2, a3⟩ := a
  obtain ⟨b1, b2, b3⟩ := b
  unfold Ky.le Ky.lt at h1 h2
  simp only at h1 h2
  simp only [Ky.mk.injEq]
  omega
set_option maxRecDepth 100000 in
set_option maxHeartbeats 1000000 in
theorem rless_any (a b : Ky) (w : World) : Calls Tryz.prog 61 #[kyv a, kyv b] w fun e w' => e = .returned (.bool (decide (Ky.lt a b))) ∧ Below w.heap.size w w' := by
  go_enter Tryz.func61, Tryz.ntmps61
  go_upto_region 1 with (fail)
  refine gen_world (S := fun u => Below w.heap.size w u ∧ u.heap[w.heap.size]? = some (.cells #[.int .i64 a.rule, .int .i64 a.level, .int .i64 a.place] 56 (0, 0)) ∧ u.heap[w.heap.size + 1]? = some (.cells #[.int .i64 b.rule, .int .i64 b.level, .int .i64 b.place] 56 (0, 0))) (two_new w _ _) (fun u hu => ?_)
  obtain ⟨hb, hx, hy⟩ := hu
  have HB := Lib.hid hb
  obtain ⟨X, hX⟩ : ∃ X, X = w.heap.size := ⟨_, rfl⟩
  rw [← hX] at hx hy ⊢
  obtain ⟨x0, x1, x2, -⟩ := three_box hx
  obtain ⟨y0, y1, y2, -⟩ := three_box hy
  clear hb hx hy hX
  by_cases h1 : a.place = b.place
  · have q1 : (a.place != b.place) = false := by simp [h1]
    by_cases h2 : a.rule = b.rule
    · have q2 : (a.rule != b.rule) = false := by simp [h2]
      have HE := Lib.hid (show decide (Ky.lt a b) = decide (a.level < b.level) from by unfold Ky.lt; congr 1; apply propext; omega)
      clear h1 h2
      go_wp2
      go_ret
      exact ⟨by rw [HE.out]; rfl, HB.out⟩
    · have q2 : (a.rule != b.rule) = true := by simpa using h2
      have HE := Lib.hid (show decide (Ky.lt a b) = decide (a.rule < b.rule) from by unfold Ky.lt; congr 1; apply propext; omega)
      clear h1 h2
      go_wp2
      go_ret
      exact ⟨by rw [HE.out]; rfl, HB.out⟩
  · have q1 : (a.place != b.place) = true := by simpa using h1
    have HE := Lib.hid (show decide (Ky.lt a b) = decide (a.place < b.place) from by unfold Ky.lt; congr 1; apply propext; omega)
    clear h1
    go_wp2
    go_ret
    exact ⟨by rw [HE.out]; rfl, HB.out⟩
set_option maxRecDepth 100000 in
set_option maxHeartbeats 8000000 in
theorem rSorted_any {base r : Nat} {kv lv : Value} {room peak : Int} {D : List Rec} (w : World) (h : Rm base w r kv lv room peak D) :
    Calls Tryz.prog 44 #[.pointer (some ⟨r, 0, none⟩)] w fun e w' => ∃ v S, e = .returned v ∧ S.Perm (D.map (·.k)) ∧ S.Pairwise Ky.le ∧ RkOwn w.heap.size w' v S ∧ Below w.heap.size w w' := by
  have H := Lib.hid h
  obtain ⟨ao, cap, rfl⟩ := own_val h.keys
  have hle := h.le
  obtain ⟨n, hn⟩ : ∃ n, n = D.length := ⟨_, rfl⟩
  have HN := Lib.hid hn
  rw [← hn] at H hle
  obtain ⟨i0, hi0, hz0, hz1, hz2⟩ := info_parts Tryz.infoRKey
  clear h hn
  go_enter Tryz.func44, Tryz.ntmps44
  go_upto_region 3 with (fail)
  go_loopw [3, 4] (fun t i wr => ∃ (k : Nat) (ta : Option Addr) (tn tc : Nat) (S : List Ky), k ≤ n ∧ tn = k ∧ i = .int .i64 k ∧ t = .slice ta tn tc ∧ Hid (S.length = tn ∧ S.Perm ((D.take k).map (·.k)) ∧ S.Pairwise Ky.le) ∧ Hid (wr.ownsRow w.heap.size 56 3 (.slice ta tn tc) tn (S.flatMap kyc)) ∧ Hid (Below w.heap.size w wr)) (fun _ i _ => n - (intOf i).toNat)
  case atStart => exact ⟨0, none, 0, 0, [], Nat.zero_le _, rfl, rfl, rfl, Lib.hid ⟨rfl, by simp, by simp⟩, Lib.hid (World.ownsRow_nil _ _ _ _), Lib.hid (Below.refl _ _)⟩
  case round =>
    obtain ⟨k, ta, tn, tc, S, hk, rfl, rfl, rfl, HS, HT, HB⟩ := hrel
    have HM := Lib.hid (show ∀ wS, Below w.heap.size w wS → wS.cell? ⟨r, 2, none⟩ = some (.slice ao n cap) from fun wS hw => (four_boxM (H.out.later hw).blk).2.2.1)
    have m2 := HM.out wr HB.out
    by_cases hlt : tn < n
    · have hlt2 : (tn : Int) < n := by omega
      have hkS : tn < D.length := by rw [← HN.out]; exact hlt
      have hrow := H.out.keys
      rw [← HN.out] at hrow
      obtain ⟨g, cap', hv⟩ := own_shape hrow (by omega)
      simp only [Value.slice.injEq, true_and] at hv
      obtain ⟨rfl, rfl⟩ := hv
      have HC := Lib.hid (show ∀ wS, Below w.heap.size w wS → wS.cell? ⟨g, tn * 3, none⟩ = some (.int .i64 D[tn].k.rule) ∧ wS.cell? ⟨g, tn * 3 + 1, none⟩ = some (.int .i64 D[tn].k.level) ∧ wS.cell? ⟨g, tn * 3 + 2, none⟩ = some (.int .i64 D[tn].k.place) from fun wS hw => rkey_at (row_later hrow hw) tn hkS)
      obtain ⟨x, hx⟩ : ∃ x, x = D[tn].k := ⟨_, rfl⟩
      rw [← hx] at HC
      have HX := Lib.hid hx
      have HkS := Lib.hid hkS
      have htc := own_cap HT.out
      clear hx hrow
      go_upto_region 6 with (fail)
      clear m2
      refine gen_world (S := fun v => Below w.heap.size w v ∧ v.ownsRow w.heap.size 56 3 (.slice ta tn tc) tn (S.flatMap kyc)) ⟨HB.out, HT.out⟩ (fun wd hwd => ?_)
      replace HB := Lib.hid hwd.1
      replace HT := Lib.hid hwd.2
      clear hwd
      go_loopw [5] (fun i wr => ∃ j : Nat, j ≤ tn ∧ i = .int .i64 j ∧ Hid (∀ q (hq : q < S.length), q < j → Ky.lt S[q] x) ∧ Hid (Below wd.heap.size wd wr)) (fun i _ => tn - (intOf i).toNat)
      case atStart => exact ⟨0, Nat.zero_le _, rfl, Lib.hid (fun q hq h => by omega), Lib.hid (Below.refl _ _)⟩
      case round =>
        obtain ⟨j, hj, rfl, HL, Hb⟩ := hrel
        by_cases hjt : j < tn
        · have hjt2 : (j : Int) < tn := by omega
          have hjS : j < S.length := by rw [HS.out.1]; exact hjt
          have hrow := row_later HT.out Hb.out
          obtain ⟨sg, sc, hv⟩ := own_shape hrow (by omega)
          simp only [Value.slice.injEq, true_and] at hv
          obtain ⟨rfl, rfl⟩ := hv
          have HBu := Lib.hid (HB.out.trans (Hb.out.mono HB.out.size))
          have HY := Lib.hid (show ∀ wS, Below wr.heap.size wr wS → wS.cell? ⟨sg, j * 3, none⟩ = some (.int .i64 S[j].rule) ∧ wS.cell? ⟨sg, j * 3 + 1, none⟩ = some (.int .i64 S[j].level) ∧ wS.cell? ⟨sg, j * 3 + 2, none⟩ = some (.int .i64 S[j].place) from fun wS hw => by
            have hr := row_later hrow hw
            exact ⟨(own_cellC kcl hr j hjS 0 (by omega)).1, (own_cellC kcl hr j hjS 1 (by omega)).1, (own_cellC kcl hr j hjS 2 (by omega)).1⟩)
          obtain ⟨y, hy⟩ : ∃ y, y = S[j] := ⟨_, rfl⟩
          rw [← hy] at HY
          have HYe := Lib.hid hy
          clear hy hrow
          by_cases hl : Ky.lt y x
          · have HLs := Lib.hid (show ∀ v, Calls Tryz.prog 61 #[kyv y, kyv x] v fun e w' => e = .returned (.bool true) ∧ Below v.heap.size v w' from fun v => by
              have := rless_any y x v
              rwa [show decide (Ky.lt y x) = true from by simpa using hl] at this)
            have HE := Lib.hid hl
            clear hl
            go_upto_region 6 with (fail)
            refine wp_region_held_drew (S := fun z => Below wr.heap.size wr z) (by kernel_rfl) (Below.refl wr.heap.size wr).drew (fun hS => ?_)
            refine wpAnyH_take (i := 0) (oi := ⟨_, _, _, _, _, _⟩) (v := ?v1) rfl (by kernel_rfl) (by kernel_rfl) (by kernel_rfl) (fun _ _ _ h => h) ?y1 hS ?_
            case y1 => first | (refine Or.inr ⟨by rfl, ?_⟩; with_reducible rfl) | (refine Or.inl ⟨by rfl, ?_⟩; intro wS hSw; obtain ⟨c0, c1, c2⟩ := HC.out wS (HBu.out.trans (hSw.mono HBu.out.size)); obtain ⟨s0, s1, s2⟩ := HY.out wS hSw; have m2 := HM.out wS (HBu.out.trans (hSw.mono HBu.out.size)); go_simp; try with_reducible rfl)
            simp only [Act.put, List.setIfInBounds_toArray, List.set_cons_zero, List.set_cons_succ]
            refine wpAnyH_take (i := 1) (oi := ⟨_, _, _, _, _, _⟩) (v := ?v2) rfl (by kernel_rfl) (by kernel_rfl) (by kernel_rfl) (fun _ _ _ h => h) ?y2 hS ?_
            case y2 => first | (refine Or.inr ⟨by rfl, ?_⟩; with_reducible rfl) | (refine Or.inl ⟨by rfl, ?_⟩; intro wS hSw; obtain ⟨c0, c1, c2⟩ := HC.out wS (HBu.out.trans (hSw.mono HBu.out.size)); obtain ⟨s0, s1, s2⟩ := HY.out wS hSw; have m2 := HM.out wS (HBu.out.trans (hSw.mono HBu.out.size)); go_simp; try with_reducible rfl)
            simp only [Act.put, List.setIfInBounds_toArray, List.set_cons_zero, List.set_cons_succ]
            refine wpAnyH_take (i := 2) (oi := ⟨_, _, _, _, _, _⟩) (v := ?v3) rfl (by kernel_rfl) (by kernel_rfl) (by kernel_rfl) (fun _ _ _ h => h) ?y3 hS ?_
            case y3 => first | (refine Or.inr ⟨by rfl, ?_⟩; with_reducible rfl) | (refine Or.inl ⟨by rfl, ?_⟩; intro wS hSw; obtain ⟨c0, c1, c2⟩ := HC.out wS (HBu.out.trans (hSw.mono HBu.out.size)); obtain ⟨s0, s1, s2⟩ := HY.out wS hSw; have m2 := HM.out wS (HBu.out.trans (hSw.mono HBu.out.size)); go_simp; try with_reducible rfl)
            simp only [Act.put, List.setIfInBounds_toArray, List.set_cons_zero, List.set_cons_succ]
            refine wpAnyH_take (i := 3) (oi := ⟨_, _, _, _, _, _⟩) (v := ?v4) rfl (by kernel_rfl) (by kernel_rfl) (by kernel_rfl) (fun _ _ _ h => h) ?y4 hS ?_
            case y4 => first | (refine Or.inr ⟨by rfl, ?_⟩; with_reducible rfl) | (refine Or.inl ⟨by rfl, ?_⟩; intro wS hSw; obtain ⟨c0, c1, c2⟩ := HC.out wS (HBu.out.trans (hSw.mono HBu.out.size)); obtain ⟨s0, s1, s2⟩ := HY.out wS hSw; have m2 := HM.out wS (HBu.out.trans (hSw.mono HBu.out.size)); go_simp; try with_reducible rfl)
            simp only [Act.put, List.setIfInBounds_toArray, List.set_cons_zero, List.set_cons_succ]
            refine wpAnyH_take (i := 4) (oi := ⟨_, _, _, _, _, _⟩) (v := ?v5) rfl (by kernel_rfl) (by kernel_rfl) (by kernel_rfl) (fun _ _ _ h => h) ?y5 hS ?_
            case y5 => first | (refine Or.inr ⟨by rfl, ?_⟩; with_reducible rfl) | (refine Or.inl ⟨by rfl, ?_⟩; intro wS hSw; obtain ⟨c0, c1, c2⟩ := HC.out wS (HBu.out.trans (hSw.mono HBu.out.size)); obtain ⟨s0, s1, s2⟩ := HY.out wS hSw; have m2 := HM.out wS (HBu.out.trans (hSw.mono HBu.out.size)); go_simp; try with_reducible rfl)
            simp only [Act.put, List.setIfInBounds_toArray, List.set_cons_zero, List.set_cons_succ]
            refine wpAnyH_take (i := 5) (oi := ⟨_, _, _, _, _, _⟩) (v := ?v6) rfl (by kernel_rfl) (by kernel_rfl) (by kernel_rfl) (fun _ _ _ h => h) ?y6 hS ?_
            case y6 => first | (refine Or.inr ⟨by rfl, ?_⟩; with_reducible rfl) | (refine Or.inl ⟨by rfl, ?_⟩; intro wS hSw; obtain ⟨c0, c1, c2⟩ := HC.out wS (HBu.out.trans (hSw.mono HBu.out.size)); obtain ⟨s0, s1, s2⟩ := HY.out wS hSw; have m2 := HM.out wS (HBu.out.trans (hSw.mono HBu.out.size)); go_simp; try with_reducible rfl)
            simp only [Act.put, List.setIfInBounds_toArray, List.set_cons_zero, List.set_cons_succ]
            refine wpAnyH_take (i := 6) (oi := ⟨_, _, _, _, _, _⟩) (v := ?v7) rfl (by kernel_rfl) (by kernel_rfl) (by kernel_rfl) (fun _ _ _ h => h) ?y7 hS ?_
            case y7 => first | (refine Or.inr ⟨by rfl, ?_⟩; with_reducible rfl) | (refine Or.inl ⟨by rfl, ?_⟩; intro wS hSw; obtain ⟨c0, c1, c2⟩ := HC.out wS (HBu.out.trans (hSw.mono HBu.out.size)); obtain ⟨s0, s1, s2⟩ := HY.out wS hSw; have m2 := HM.out wS (HBu.out.trans (hSw.mono HBu.out.size)); go_simp; try with_reducible rfl)
            simp only [Act.put, List.setIfInBounds_toArray, List.set_cons_zero, List.set_cons_succ]
            refine wpAnyH_take (i := 7) (oi := ⟨_, _, _, _, _, _⟩) (v := ?v8) rfl (by kernel_rfl) (by kernel_rfl) (by kernel_rfl) (fun _ _ _ h => h) ?y8 hS ?_
            case y8 => first | (refine Or.inr ⟨by rfl, ?_⟩; with_reducible rfl) | (refine Or.inl ⟨by rfl, ?_⟩; intro wS hSw; obtain ⟨c0, c1, c2⟩ := HC.out wS (HBu.out.trans (hSw.mono HBu.out.size)); obtain ⟨s0, s1, s2⟩ := HY.out wS hSw; have m2 := HM.out wS (HBu.out.trans (hSw.mono HBu.out.size)); go_simp; try with_reducible rfl)
            simp only [Act.put, List.setIfInBounds_toArray, List.set_cons_zero, List.set_cons_succ]
            refine wpAnyH_take (i := 8) (oi := ⟨_, _, _, _, _, _⟩) (v := ?v9) rfl (by kernel_rfl) (by kernel_rfl) (by kernel_rfl) (fun _ _ _ h => h) ?y9 hS ?_
            case y9 => first | (refine Or.inr ⟨by rfl, ?_⟩; with_reducible rfl) | (refine Or.inl ⟨by rfl, ?_⟩; intro wS hSw; obtain ⟨c0, c1, c2⟩ := HC.out wS (HBu.out.trans (hSw.mono HBu.out.size)); obtain ⟨s0, s1, s2⟩ := HY.out wS hSw; have m2 := HM.out wS (HBu.out.trans (hSw.mono HBu.out.size)); go_simp; try with_reducible rfl)
            simp only [Act.put, List.setIfInBounds_toArray, List.set_cons_zero, List.set_cons_succ]
            refine wpAnyH_take (i := 9) (oi := ⟨_, _, _, _, _, _⟩) (v := ?v10) rfl (by kernel_rfl) (by kernel_rfl) (by kernel_rfl) (fun _ _ _ h => h) ?y10 hS ?_
            case y10 => first | (refine Or.inr ⟨by rfl, ?_⟩; with_reducible rfl) | (refine Or.inl ⟨by rfl, ?_⟩; intro wS hSw; obtain ⟨c0, c1, c2⟩ := HC.out wS (HBu.out.trans (hSw.mono HBu.out.size)); obtain ⟨s0, s1, s2⟩ := HY.out wS hSw; have m2 := HM.out wS (HBu.out.trans (hSw.mono HBu.out.size)); go_simp; try with_reducible rfl)
            simp only [Act.put, List.setIfInBounds_toArray, List.set_cons_zero, List.set_cons_succ]
            refine wpAnyH_take (i := 10) (oi := ⟨_, _, _, _, _, _⟩) (v := ?v11) rfl (by kernel_rfl) (by kernel_rfl) (by kernel_rfl) (fun _ _ _ h => h) ?y11 hS ?_
            case y11 => first | (refine Or.inr ⟨by rfl, ?_⟩; with_reducible rfl) | (refine Or.inl ⟨by rfl, ?_⟩; intro wS hSw; obtain ⟨c0, c1, c2⟩ := HC.out wS (HBu.out.trans (hSw.mono HBu.out.size)); obtain ⟨s0, s1, s2⟩ := HY.out wS hSw; have m2 := HM.out wS (HBu.out.trans (hSw.mono HBu.out.size)); go_simp; try with_reducible rfl)
            simp only [Act.put, List.setIfInBounds_toArray, List.set_cons_zero, List.set_cons_succ]
            refine wpAnyH_take (i := 11) (oi := ⟨_, _, _, _, _, _⟩) (v := ?v12) rfl (by kernel_rfl) (by kernel_rfl) (by kernel_rfl) (fun _ _ _ h => h) ?y12 hS ?_
            case y12 => first | (refine Or.inr ⟨by rfl, ?_⟩; with_reducible rfl) | (refine Or.inl ⟨by rfl, ?_⟩; intro wS hSw; obtain ⟨c0, c1, c2⟩ := HC.out wS (HBu.out.trans (hSw.mono HBu.out.size)); obtain ⟨s0, s1, s2⟩ := HY.out wS hSw; have m2 := HM.out wS (HBu.out.trans (hSw.mono HBu.out.size)); go_simp; try with_reducible rfl)
            simp only [Act.put, List.setIfInBounds_toArray, List.set_cons_zero, List.set_cons_succ]
            refine wpAnyH_take (i := 12) (oi := ⟨_, _, _, _, _, _⟩) (v := ?v13) rfl (by kernel_rfl) (by kernel_rfl) (by kernel_rfl) (fun _ _ _ h => h) ?y13 hS ?_
            case y13 => first | (refine Or.inr ⟨by rfl, ?_⟩; with_reducible rfl) | (refine Or.inl ⟨by rfl, ?_⟩; intro wS hSw; obtain ⟨c0, c1, c2⟩ := HC.out wS (HBu.out.trans (hSw.mono HBu.out.size)); obtain ⟨s0, s1, s2⟩ := HY.out wS hSw; have m2 := HM.out wS (HBu.out.trans (hSw.mono HBu.out.size)); go_simp; try with_reducible rfl)
            simp only [Act.put, List.setIfInBounds_toArray, List.set_cons_zero, List.set_cons_succ]
            refine wpAnyH_take (i := 13) (oi := ⟨_, _, _, _, _, _⟩) (v := ?v14) rfl (by kernel_rfl) (by kernel_rfl) (by kernel_rfl) (fun _ _ _ h => h) ?y14 hS ?_
            case y14 => first | (refine Or.inr ⟨by rfl, ?_⟩; with_reducible rfl) | (refine Or.inl ⟨by rfl, ?_⟩; intro wS hSw; obtain ⟨c0, c1, c2⟩ := HC.out wS (HBu.out.trans (hSw.mono HBu.out.size)); obtain ⟨s0, s1, s2⟩ := HY.out wS hSw; have m2 := HM.out wS (HBu.out.trans (hSw.mono HBu.out.size)); go_simp; try with_reducible rfl)
            simp only [Act.put, List.setIfInBounds_toArray, List.set_cons_zero, List.set_cons_succ]
            refine wpAnyH_take (i := 14) (oi := ⟨_, _, _, _, _, _⟩) (v := ?v15) rfl (by kernel_rfl) (by kernel_rfl) (by kernel_rfl) (fun _ _ _ h => h) ?y15 hS ?_
            case y15 => first | (refine Or.inr ⟨by rfl, ?_⟩; with_reducible rfl) | (refine Or.inl ⟨by rfl, ?_⟩; intro wS hSw; obtain ⟨c0, c1, c2⟩ := HC.out wS (HBu.out.trans (hSw.mono HBu.out.size)); obtain ⟨s0, s1, s2⟩ := HY.out wS hSw; have m2 := HM.out wS (HBu.out.trans (hSw.mono HBu.out.size)); go_simp; try with_reducible rfl)
            simp only [Act.put, List.setIfInBounds_toArray, List.set_cons_zero, List.set_cons_succ]
            refine wpAnyH_take (i := 15) (oi := ⟨_, _, _, _, _, _⟩) (v := ?v16) rfl (by kernel_rfl) (by kernel_rfl) (by kernel_rfl) (fun _ _ _ h => h) ?y16 hS ?_
            case y16 => first | (refine Or.inr ⟨by rfl, ?_⟩; with_reducible rfl) | (refine Or.inl ⟨by rfl, ?_⟩; intro wS hSw; obtain ⟨c0, c1, c2⟩ := HC.out wS (HBu.out.trans (hSw.mono HBu.out.size)); obtain ⟨s0, s1, s2⟩ := HY.out wS hSw; have m2 := HM.out wS (HBu.out.trans (hSw.mono HBu.out.size)); go_simp; try with_reducible rfl)
            simp only [Act.put, List.setIfInBounds_toArray, List.set_cons_zero, List.set_cons_succ]
            refine wpAnyH_ready (rs := [16]) (by kernel_rfl) (by simp) ?_
            refine AllReadyH.cons (o := ⟨_, _, _, _, _, _⟩) rfl (fun K hK => ?_) AllReadyH.nil
            go_simp
            refine (HLs.out _).mono ?_
            rintro e w2 ⟨rfl, hb⟩
            go_wp2_with fail
            have hS1 := hS.trans (hb.mono hS.size)
            refine hK.out _ _ hS1 (fun _ => ?_)
            clear hK K hb hS
            try simp only [Act.put, List.setIfInBounds_toArray, List.set_cons_zero, List.set_cons_succ]
            have hS := hS1
            clear hS1
            refine wpAnyH_take (i := 17) (oi := ⟨_, _, _, _, _, _⟩) (v := ?v17) rfl (by kernel_rfl) (by kernel_rfl) (by kernel_rfl) (fun _ _ _ h => h) ?y17 hS ?_
            case y17 => first | (refine Or.inr ⟨by rfl, ?_⟩; with_reducible rfl) | (refine Or.inl ⟨by rfl, ?_⟩; intro wS hSw; go_simp; try with_reducible rfl)
            simp only [Act.put, List.setIfInBounds_toArray, List.set_cons_zero, List.set_cons_succ]
            refine wpAnyH_done (by kernel_rfl) ?_ _
            have HS6 := Lib.hid (Hb.out.trans (hS.mono Hb.out.size))
            clear hS
            go_wp2
            go_roundw
            case rel => exact ⟨j + 1, by omega, by go_num, Lib.hid (fun q hq h => by
              by_cases hqj : q = j
              · subst hqj; rw [← HYe.out]; exact HE.out
              · exact HL.out q hq (by omega)), HS6⟩
            case measure => simp [intOf]; omega
          · have HLs := Lib.hid (show ∀ v, Calls Tryz.prog 61 #[kyv y, kyv x] v fun e w' => e = .returned (.bool false) ∧ Below v.heap.size v w' from fun v => by
              have := rless_any y x v
              rwa [show decide (Ky.lt y x) = false from by simpa using hl] at this)
            have HE := Lib.hid hl
            clear hl
            go_upto_region 6 with (fail)
            refine wp_region_held_drew (S := fun z => Below wr.heap.size wr z) (by kernel_rfl) (Below.refl wr.heap.size wr).drew (fun hS => ?_)
            refine wpAnyH_take (i := 0) (oi := ⟨_, _, _, _, _, _⟩) (v := ?v18) rfl (by kernel_rfl) (by kernel_rfl) (by kernel_rfl) (fun _ _ _ h => h) ?y18 hS ?_
            case y18 => first | (refine Or.inr ⟨by rfl, ?_⟩; with_reducible rfl) | (refine Or.inl ⟨by rfl, ?_⟩; intro wS hSw; obtain ⟨c0, c1, c2⟩ := HC.out wS (HBu.out.trans (hSw.mono HBu.out.size)); obtain ⟨s0, s1, s2⟩ := HY.out wS hSw; have m2 := HM.out wS (HBu.out.trans (hSw.mono HBu.out.size)); go_simp; try with_reducible rfl)
            simp only [Act.put, List.setIfInBounds_toArray, List.set_cons_zero, List.set_cons_succ]
            refine wpAnyH_take (i := 1) (oi := ⟨_, _, _, _, _, _⟩) (v := ?v19) rfl (by kernel_rfl) (by kernel_rfl) (by kernel_rfl) (fun _ _ _ h => h) ?y19 hS ?_
            case y19 => first | (refine Or.inr ⟨by rfl, ?_⟩; with_reducible rfl) | (refine Or.inl ⟨by rfl, ?_⟩; intro wS hSw; obtain ⟨c0, c1, c2⟩ := HC.out wS (HBu.out.trans (hSw.mono HBu.out.size)); obtain ⟨s0, s1, s2⟩ := HY.out wS hSw; have m2 := HM.out wS (HBu.out.trans (hSw.mono HBu.out.size)); go_simp; try with_reducible rfl)
            simp only [Act.put, List.setIfInBounds_toArray, List.set_cons_zero, List.set_cons_succ]
            refine wpAnyH_take (i := 2) (oi := ⟨_, _, _, _, _, _⟩) (v := ?v20) rfl (by kernel_rfl) (by kernel_rfl) (by kernel_rfl) (fun _ _ _ h => h) ?y20 hS ?_
            case y20 => first | (refine Or.inr ⟨by rfl, ?_⟩; with_reducible rfl) | (refine Or.inl ⟨by rfl, ?_⟩; intro wS hSw; obtain ⟨c0, c1, c2⟩ := HC.out wS (HBu.out.trans (hSw.mono HBu.out.size)); obtain ⟨s0, s1, s2⟩ := HY.out wS hSw; have m2 := HM.out wS (HBu.out.trans (hSw.mono HBu.out.size)); go_simp; try with_reducible rfl)
            simp only [Act.put, List.setIfInBounds_toArray, List.set_cons_zero, List.set_cons_succ]
            refine wpAnyH_take (i := 3) (oi := ⟨_, _, _, _, _, _⟩) (v := ?v21) rfl (by kernel_rfl) (by kernel_rfl) (by kernel_rfl) (fun _ _ _ h => h) ?y21 hS ?_
            case y21 => first | (refine Or.inr ⟨by rfl, ?_⟩; with_reducible rfl) | (refine Or.inl ⟨by rfl, ?_⟩; intro wS hSw; obtain ⟨c0, c1, c2⟩ := HC.out wS (HBu.out.trans (hSw.mono HBu.out.size)); obtain ⟨s0, s1, s2⟩ := HY.out wS hSw; have m2 := HM.out wS (HBu.out.trans (hSw.mono HBu.out.size)); go_simp; try with_reducible rfl)
            simp only [Act.put, List.setIfInBounds_toArray, List.set_cons_zero, List.set_cons_succ]
            refine wpAnyH_take (i := 4) (oi := ⟨_, _, _, _, _, _⟩) (v := ?v22) rfl (by kernel_rfl) (by kernel_rfl) (by kernel_rfl) (fun _ _ _ h => h) ?y22 hS ?_
            case y22 => first | (refine Or.inr ⟨by rfl, ?_⟩; with_reducible rfl) | (refine Or.inl ⟨by rfl, ?_⟩; intro wS hSw; obtain ⟨c0, c1, c2⟩ := HC.out wS (HBu.out.trans (hSw.mono HBu.out.size)); obtain ⟨s0, s1, s2⟩ := HY.out wS hSw; have m2 := HM.out wS (HBu.out.trans (hSw.mono HBu.out.size)); go_simp; try with_reducible rfl)
            simp only [Act.put, List.setIfInBounds_toArray, List.set_cons_zero, List.set_cons_succ]
            refine wpAnyH_take (i := 5) (oi := ⟨_, _, _, _, _, _⟩) (v := ?v23) rfl (by kernel_rfl) (by kernel_rfl) (by kernel_rfl) (fun _ _ _ h => h) ?y23 hS ?_
            case y23 => first | (refine Or.inr ⟨by rfl, ?_⟩; with_reducible rfl) | (refine Or.inl ⟨by rfl, ?_⟩; intro wS hSw; obtain ⟨c0, c1, c2⟩ := HC.out wS (HBu.out.trans (hSw.mono HBu.out.size)); obtain ⟨s0, s1, s2⟩ := HY.out wS hSw; have m2 := HM.out wS (HBu.out.trans (hSw.mono HBu.out.size)); go_simp; try with_reducible rfl)
            simp only [Act.put, List.setIfInBounds_toArray, List.set_cons_zero, List.set_cons_succ]
            refine wpAnyH_take (i := 6) (oi := ⟨_, _, _, _, _, _⟩) (v := ?v24) rfl (by kernel_rfl) (by kernel_rfl) (by kernel_rfl) (fun _ _ _ h => h) ?y24 hS ?_
            case y24 => first | (refine Or.inr ⟨by rfl, ?_⟩; with_reducible rfl) | (refine Or.inl ⟨by rfl, ?_⟩; intro wS hSw; obtain ⟨c0, c1, c2⟩ := HC.out wS (HBu.out.trans (hSw.mono HBu.out.size)); obtain ⟨s0, s1, s2⟩ := HY.out wS hSw; have m2 := HM.out wS (HBu.out.trans (hSw.mono HBu.out.size)); go_simp; try with_reducible rfl)
            simp only [Act.put, List.setIfInBounds_toArray, List.set_cons_zero, List.set_cons_succ]
            refine wpAnyH_take (i := 7) (oi := ⟨_, _, _, _, _, _⟩) (v := ?v25) rfl (by kernel_rfl) (by kernel_rfl) (by kernel_rfl) (fun _ _ _ h => h) ?y25 hS ?_
            case y25 => first | (refine Or.inr ⟨by rfl, ?_⟩; with_reducible rfl) | (refine Or.inl ⟨by rfl, ?_⟩; intro wS hSw; obtain ⟨c0, c1, c2⟩ := HC.out wS (HBu.out.trans (hSw.mono HBu.out.size)); obtain ⟨s0, s1, s2⟩ := HY.out wS hSw; have m2 := HM.out wS (HBu.out.trans (hSw.mono HBu.out.size)); go_simp; try with_reducible rfl)
            simp only [Act.put, List.setIfInBounds_toArray, List.set_cons_zero, List.set_cons_succ]
            refine wpAnyH_take (i := 8) (oi := ⟨_, _, _, _, _, _⟩) (v := ?v26) rfl (by kernel_rfl) (by kernel_rfl) (by kernel_rfl) (fun _ _ _ h => h) ?y26 hS ?_
            case y26 => first | (refine Or.inr ⟨by rfl, ?_⟩; with_reducible rfl) | (refine Or.inl ⟨by rfl, ?_⟩; intro wS hSw; obtain ⟨c0, c1, c2⟩ := HC.out wS (HBu.out.trans (hSw.mono HBu.out.size)); obtain ⟨s0, s1, s2⟩ := HY.out wS hSw; have m2 := HM.out wS (HBu.out.trans (hSw.mono HBu.out.size)); go_simp; try with_reducible rfl)
            simp only [Act.put, List.setIfInBounds_toArray, List.set_cons_zero, List.set_cons_succ]
            refine wpAnyH_take (i := 9) (oi := ⟨_, _, _, _, _, _⟩) (v := ?v27) rfl (by kernel_rfl) (by kernel_rfl) (by kernel_rfl) (fun _ _ _ h => h) ?y27 hS ?_
            case y27 => first | (refine Or.inr ⟨by rfl, ?_⟩; with_reducible rfl) | (refine Or.inl ⟨by rfl, ?_⟩; intro wS hSw; obtain ⟨c0, c1, c2⟩ := HC.out wS (HBu.out.trans (hSw.mono HBu.out.size)); obtain ⟨s0, s1, s2⟩ := HY.out wS hSw; have m2 := HM.out wS (HBu.out.trans (hSw.mono HBu.out.size)); go_simp; try with_reducible rfl)
            simp only [Act.put, List.setIfInBounds_toArray, List.set_cons_zero, List.set_cons_succ]
            refine wpAnyH_take (i := 10) (oi := ⟨_, _, _, _, _, _⟩) (v := ?v28) rfl (by kernel_rfl) (by kernel_rfl) (by kernel_rfl) (fun _ _ _ h => h) ?y28 hS ?_
            case y28 => first | (refine Or.inr ⟨by rfl, ?_⟩; with_reducible rfl) | (refine Or.inl ⟨by rfl, ?_⟩; intro wS hSw; obtain ⟨c0, c1, c2⟩ := HC.out wS (HBu.out.trans (hSw.mono HBu.out.size)); obtain ⟨s0, s1, s2⟩ := HY.out wS hSw; have m2 := HM.out wS (HBu.out.trans (hSw.mono HBu.out.size)); go_simp; try with_reducible rfl)
            simp only [Act.put, List.setIfInBounds_toArray, List.set_cons_zero, List.set_cons_succ]
            refine wpAnyH_take (i := 11) (oi := ⟨_, _, _, _, _, _⟩) (v := ?v29) rfl (by kernel_rfl) (by kernel_rfl) (by kernel_rfl) (fun _ _ _ h => h) ?y29 hS ?_
            case y29 => first | (refine Or.inr ⟨by rfl, ?_⟩; with_reducible rfl) | (refine Or.inl ⟨by rfl, ?_⟩; intro wS hSw; obtain ⟨c0, c1, c2⟩ := HC.out wS (HBu.out.trans (hSw.mono HBu.out.size)); obtain ⟨s0, s1, s2⟩ := HY.out wS hSw; have m2 := HM.out wS (HBu.out.trans (hSw.mono HBu.out.size)); go_simp; try with_reducible rfl)
            simp only [Act.put, List.setIfInBounds_toArray, List.set_cons_zero, List.set_cons_succ]
            refine wpAnyH_take (i := 12) (oi := ⟨_, _, _, _, _, _⟩) (v := ?v30) rfl (by kernel_rfl) (by kernel_rfl) (by kernel_rfl) (fun _ _ _ h => h) ?y30 hS ?_
            case y30 => first | (refine Or.inr ⟨by rfl, ?_⟩; with_reducible rfl) | (refine Or.inl ⟨by rfl, ?_⟩; intro wS hSw; obtain ⟨c0, c1, c2⟩ := HC.out wS (HBu.out.trans (hSw.mono HBu.out.size)); obtain ⟨s0, s1, s2⟩ := HY.out wS hSw; have m2 := HM.out wS (HBu.out.trans (hSw.mono HBu.out.size)); go_simp; try with_reducible rfl)
            simp only [Act.put, List.setIfInBounds_toArray, List.set_cons_zero, List.set_cons_succ]
            refine wpAnyH_take (i := 13) (oi := ⟨_, _, _, _, _, _⟩) (v := ?v31) rfl (by kernel_rfl) (by kernel_rfl) (by kernel_rfl) (fun _ _ _ h => h) ?y31 hS ?_
            case y31 => first | (refine Or.inr ⟨by rfl, ?_⟩; with_reducible rfl) | (refine Or.inl ⟨by rfl, ?_⟩; intro wS hSw; obtain ⟨c0, c1, c2⟩ := HC.out wS (HBu.out.trans (hSw.mono HBu.out.size)); obtain ⟨s0, s1, s2⟩ := HY.out wS hSw; have m2 := HM.out wS (HBu.out.trans (hSw.mono HBu.out.size)); go_simp; try with_reducible rfl)
            simp only [Act.put, List.setIfInBounds_toArray, List.set_cons_zero, List.set_cons_succ]
            refine wpAnyH_take (i := 14) (oi := ⟨_, _, _, _, _, _⟩) (v := ?v32) rfl (by kernel_rfl) (by kernel_rfl) (by kernel_rfl) (fun _ _ _ h => h) ?y32 hS ?_
            case y32 => first | (refine Or.inr ⟨by rfl, ?_⟩; with_reducible rfl) | (refine Or.inl ⟨by rfl, ?_⟩; intro wS hSw; obtain ⟨c0, c1, c2⟩ := HC.out wS (HBu.out.trans (hSw.mono HBu.out.size)); obtain ⟨s0, s1, s2⟩ := HY.out wS hSw; have m2 := HM.out wS (HBu.out.trans (hSw.mono HBu.out.size)); go_simp; try with_reducible rfl)
            simp only [Act.put, List.setIfInBounds_toArray, List.set_cons_zero, List.set_cons_succ]
            refine wpAnyH_take (i := 15) (oi := ⟨_, _, _, _, _, _⟩) (v := ?v33) rfl (by kernel_rfl) (by kernel_rfl) (by kernel_rfl) (fun _ _ _ h => h) ?y33 hS ?_
            case y33 => first | (refine Or.inr ⟨by rfl, ?_⟩; with_reducible rfl) | (refine Or.inl ⟨by rfl, ?_⟩; intro wS hSw; obtain ⟨c0, c1, c2⟩ := HC.out wS (HBu.out.trans (hSw.mono HBu.out.size)); obtain ⟨s0, s1, s2⟩ := HY.out wS hSw; have m2 := HM.out wS (HBu.out.trans (hSw.mono HBu.out.size)); go_simp; try with_reducible rfl)
            simp only [Act.put, List.setIfInBounds_toArray, List.set_cons_zero, List.set_cons_succ]
            refine wpAnyH_ready (rs := [16]) (by kernel_rfl) (by simp) ?_
            refine AllReadyH.cons (o := ⟨_, _, _, _, _, _⟩) rfl (fun K hK => ?_) AllReadyH.nil
            go_simp
            refine (HLs.out _).mono ?_
            rintro e w2 ⟨rfl, hb⟩
            go_wp2_with fail
            have hS1 := hS.trans (hb.mono hS.size)
            refine hK.out _ _ hS1 (fun _ => ?_)
            clear hK K hb hS
            try simp only [Act.put, List.setIfInBounds_toArray, List.set_cons_zero, List.set_cons_succ]
            have hS := hS1
            clear hS1
            refine wpAnyH_take (i := 17) (oi := ⟨_, _, _, _, _, _⟩) (v := ?v34) rfl (by kernel_rfl) (by kernel_rfl) (by kernel_rfl) (fun _ _ _ h => h) ?y34 hS ?_
            case y34 => first | (refine Or.inr ⟨by rfl, ?_⟩; with_reducible rfl) | (refine Or.inl ⟨by rfl, ?_⟩; intro wS hSw; go_simp; try with_reducible rfl)
            simp only [Act.put, List.setIfInBounds_toArray, List.set_cons_zero, List.set_cons_succ]
            refine wpAnyH_done (by kernel_rfl) ?_ _
            have HS6 := Lib.hid (Hb.out.trans (hS.mono Hb.out.size))
            clear hS
            generalize (some (⟨sg, 0, none⟩ : Addr)) = ta at HT ⊢
            have HSo := Lib.hid (ins_sorted HS.out.2.2 (by rw [HS.out.1]; exact hj) HL.out (fun h => by rw [← HYe.out]; exact HE.out))
            go_upto_region 8 with (fail)
            refine gen_world (S := fun v => Below w.heap.size w v ∧ v.ownsRow w.heap.size 56 3 (.slice ta tn tc) tn (S.flatMap kyc)) ⟨HB.out.trans (HS6.out.mono HB.out.size), row_later HT.out HS6.out⟩ (fun u0 hu0 => ?_)
            obtain ⟨hb0, ht0⟩ := hu0
            have HBu := Lib.hid hb0
            have HT0 := Lib.hid ht0
            have hul := hb0.size
            clear hb0 ht0
            obtain ⟨u0B, hu0B⟩ : ∃ x, x = u0.heap.size := ⟨_, rfl⟩
            have Hu0 := Lib.hid (show ∀ z, Below u0B u0 z → u0B ≤ z.heap.size from fun z hz => by rw [hu0B]; exact hz.size)
            have HEu0 := Lib.hid (show ∀ z, Below u0B u0 z → Below u0.heap.size u0 z from fun z hz => by rw [← hu0B]; exact hz)
            have hdu0 : Below u0B u0 u0.drew := by rw [hu0B]; exact (Below.refl u0.heap.size u0).drew
            clear hu0B
            refine wp_region_held_drew (S := fun z => Below u0B u0 z) (by kernel_rfl) hdu0 (fun hS => ?_)
            clear hdu0
            refine wpAnyH_take (i := 0) (oi := ⟨_, _, _, _, _, _⟩) (v := ?v35) rfl (by kernel_rfl) (by kernel_rfl) (by kernel_rfl) (fun _ _ _ h => h) ?y35 hS ?_
            case y35 => first | (refine Or.inr ⟨by rfl, ?_⟩; with_reducible rfl) | (refine Or.inl ⟨by rfl, ?_⟩; intro wS hSw; obtain ⟨c0, c1, c2⟩ := HC.out wS (HBu.out.trans ((HEu0.out _ hSw).mono HBu.out.size)); have m2 := HM.out wS (HBu.out.trans ((HEu0.out _ hSw).mono HBu.out.size)); go_simp; try with_reducible rfl)
            simp only [Act.put, List.setIfInBounds_toArray, List.set_cons_zero, List.set_cons_succ]
            refine wpAnyH_take (i := 1) (oi := ⟨_, _, _, _, _, _⟩) (v := ?v36) rfl (by kernel_rfl) (by kernel_rfl) (by kernel_rfl) (fun _ _ _ h => h) ?y36 hS ?_
            case y36 => first | (refine Or.inr ⟨by rfl, ?_⟩; with_reducible rfl) | (refine Or.inl ⟨by rfl, ?_⟩; intro wS hSw; obtain ⟨c0, c1, c2⟩ := HC.out wS (HBu.out.trans ((HEu0.out _ hSw).mono HBu.out.size)); have m2 := HM.out wS (HBu.out.trans ((HEu0.out _ hSw).mono HBu.out.size)); go_simp; try with_reducible rfl)
            simp only [Act.put, List.setIfInBounds_toArray, List.set_cons_zero, List.set_cons_succ]
            refine wpAnyH_take (i := 2) (oi := ⟨_, _, _, _, _, _⟩) (v := ?v37) rfl (by kernel_rfl) (by kernel_rfl) (by kernel_rfl) (fun _ _ _ h => h) ?y37 hS ?_
            case y37 => first | (refine Or.inr ⟨by rfl, ?_⟩; with_reducible rfl) | (refine Or.inl ⟨by rfl, ?_⟩; intro wS hSw; obtain ⟨c0, c1, c2⟩ := HC.out wS (HBu.out.trans ((HEu0.out _ hSw).mono HBu.out.size)); have m2 := HM.out wS (HBu.out.trans ((HEu0.out _ hSw).mono HBu.out.size)); go_simp; try with_reducible rfl)
            simp only [Act.put, List.setIfInBounds_toArray, List.set_cons_zero, List.set_cons_succ]
            refine wpAnyH_take (i := 3) (oi := ⟨_, _, _, _, _, _⟩) (v := ?v38) rfl (by kernel_rfl) (by kernel_rfl) (by kernel_rfl) (fun _ _ _ h => h) ?y38 hS ?_
            case y38 => first | (refine Or.inr ⟨by rfl, ?_⟩; with_reducible rfl) | (refine Or.inl ⟨by rfl, ?_⟩; intro wS hSw; obtain ⟨c0, c1, c2⟩ := HC.out wS (HBu.out.trans ((HEu0.out _ hSw).mono HBu.out.size)); have m2 := HM.out wS (HBu.out.trans ((HEu0.out _ hSw).mono HBu.out.size)); go_simp; try with_reducible rfl)
            simp only [Act.put, List.setIfInBounds_toArray, List.set_cons_zero, List.set_cons_succ]
            refine wpAnyH_take (i := 4) (oi := ⟨_, _, _, _, _, _⟩) (v := ?v39) rfl (by kernel_rfl) (by kernel_rfl) (by kernel_rfl) (fun _ _ _ h => h) ?y39 hS ?_
            case y39 => first | (refine Or.inr ⟨by rfl, ?_⟩; with_reducible rfl) | (refine Or.inl ⟨by rfl, ?_⟩; intro wS hSw; obtain ⟨c0, c1, c2⟩ := HC.out wS (HBu.out.trans ((HEu0.out _ hSw).mono HBu.out.size)); have m2 := HM.out wS (HBu.out.trans ((HEu0.out _ hSw).mono HBu.out.size)); go_simp; try with_reducible rfl)
            simp only [Act.put, List.setIfInBounds_toArray, List.set_cons_zero, List.set_cons_succ]
            refine wpAnyH_take (i := 5) (oi := ⟨_, _, _, _, _, _⟩) (v := ?v40) rfl (by kernel_rfl) (by kernel_rfl) (by kernel_rfl) (fun _ _ _ h => h) ?y40 hS ?_
            case y40 => first | (refine Or.inr ⟨by rfl, ?_⟩; with_reducible rfl) | (refine Or.inl ⟨by rfl, ?_⟩; intro wS hSw; obtain ⟨c0, c1, c2⟩ := HC.out wS (HBu.out.trans ((HEu0.out _ hSw).mono HBu.out.size)); have m2 := HM.out wS (HBu.out.trans ((HEu0.out _ hSw).mono HBu.out.size)); go_simp; try with_reducible rfl)
            simp only [Act.put, List.setIfInBounds_toArray, List.set_cons_zero, List.set_cons_succ]
            refine wpAnyH_take (i := 6) (oi := ⟨_, _, _, _, _, _⟩) (v := ?v41) rfl (by kernel_rfl) (by kernel_rfl) (by kernel_rfl) (fun _ _ _ h => h) ?y41 hS ?_
            case y41 => first | (refine Or.inr ⟨by rfl, ?_⟩; with_reducible rfl) | (refine Or.inl ⟨by rfl, ?_⟩; intro wS hSw; obtain ⟨c0, c1, c2⟩ := HC.out wS (HBu.out.trans ((HEu0.out _ hSw).mono HBu.out.size)); have m2 := HM.out wS (HBu.out.trans ((HEu0.out _ hSw).mono HBu.out.size)); go_simp; try with_reducible rfl)
            simp only [Act.put, List.setIfInBounds_toArray, List.set_cons_zero, List.set_cons_succ]
            refine wpAnyH_take (i := 8) (oi := ⟨_, _, _, _, _, _⟩) (v := ?v42) rfl (by kernel_rfl) (by kernel_rfl) (by kernel_rfl) (fun _ _ _ h => h) ?y42 hS ?_
            case y42 => first | (refine Or.inr ⟨by rfl, ?_⟩; with_reducible rfl) | (refine Or.inl ⟨by rfl, ?_⟩; intro wS hSw; obtain ⟨c0, c1, c2⟩ := HC.out wS (HBu.out.trans ((HEu0.out _ hSw).mono HBu.out.size)); have m2 := HM.out wS (HBu.out.trans ((HEu0.out _ hSw).mono HBu.out.size)); go_simp; try with_reducible rfl)
            simp only [Act.put, List.setIfInBounds_toArray, List.set_cons_zero, List.set_cons_succ]
            refine wpAnyH_take (i := 9) (oi := ⟨_, _, _, _, _, _⟩) (v := ?v43) rfl (by kernel_rfl) (by kernel_rfl) (by kernel_rfl) (fun _ _ _ h => h) ?y43 hS ?_
            case y43 => first | (refine Or.inr ⟨by rfl, ?_⟩; with_reducible rfl) | (refine Or.inl ⟨by rfl, ?_⟩; intro wS hSw; obtain ⟨c0, c1, c2⟩ := HC.out wS (HBu.out.trans ((HEu0.out _ hSw).mono HBu.out.size)); have m2 := HM.out wS (HBu.out.trans ((HEu0.out _ hSw).mono HBu.out.size)); go_simp; try with_reducible rfl)
            simp only [Act.put, List.setIfInBounds_toArray, List.set_cons_zero, List.set_cons_succ]
            refine wpAnyH_take (i := 10) (oi := ⟨_, _, _, _, _, _⟩) (v := ?v44) rfl (by kernel_rfl) (by kernel_rfl) (by kernel_rfl) (fun _ _ _ h => h) ?y44 hS ?_
            case y44 => first | (refine Or.inr ⟨by rfl, ?_⟩; with_reducible rfl) | (refine Or.inl ⟨by rfl, ?_⟩; intro wS hSw; have hs1 : (0 : Int) ≤ (j : Int) := (by omega); have hs2 : (j : Int) ≤ tn := (by omega); have hs3 : ((j : Int)).toNat = j := (by omega); go_simp; try with_reducible rfl)
            simp only [Act.put, List.setIfInBounds_toArray, List.set_cons_zero, List.set_cons_succ]
            refine wpAnyH_ready (rs := [7]) (by kernel_rfl) (by simp) ?_
            refine AllReadyH.cons (o := ⟨_, _, _, _, _, _⟩) rfl (fun K hK => ?_) AllReadyH.nil
            go_simp
            refine hK.out _ _ (hS.alloc (Hu0.out _ hS) _) (fun _ => ?_)
            clear hK K
            try simp only [Act.put, List.setIfInBounds_toArray, List.set_cons_zero, List.set_cons_succ]
            obtain ⟨gD, hgD⟩ : ∃ n, n = u0.heap.size := ⟨_, rfl⟩
            refine gen_anyH (S2 := fun z => Below u0B u0 z ∧ z.heap[gD]? = some (.cells #[.int .i64 x.rule, .int .i64 x.level, .int .i64 x.place] 56 (0, 0)) ∧ u0B ≤ gD) ⟨hS.alloc (Hu0.out _ hS) _, by rw [hgD]; exact heap_alloc_new _ _, by rw [hgD]; have hz := Hu0.out _ hS; exact hz⟩ (fun wv hu => ?_)
            clear hS
            rw [← hgD]
            clear hgD
            obtain ⟨hS, hgD, hgDl⟩ := hu
            refine wpAnyH_ready (rs := [11]) (by kernel_rfl) (by simp) ?_
            refine AllReadyH.cons (o := ⟨_, _, _, _, _, _⟩) rfl (fun K hK => ?_) AllReadyH.nil
            have hOD : wv.ownsRow u0B 56 3 (.slice (some ⟨gD, 0, none⟩) 1 1) 1 (kyc x) := own_shut rfl hgDl hgD (Nat.le_refl _) (by unfold maxLen; omega) rfl rfl
            have hTl := rk_tail (k := j) (row_later HT0.out (HEu0.out _ hS)) HS.out.1.symm hj
            have hTn : ((S.drop j).flatMap kyc).length = (tn - j) * 3 := by rw [flat_len kcl, List.length_drop, HS.out.1]
            refine step_append_tu (by rfl) _ _ 53 53 (by rfl) u0B 56 56 i0 _ 3 24 Tryz.underlying53 Tryz.underlying53 hi0 hz0 hz1 hz2 rfl (by decide) (some ⟨gD, 0, none⟩) 1 1 (kyc x) (by rfl) hOD (if tc = j then ta else Option.map (fun a => a.add (j * 3)) ta) (tn - j) (tc - j) ((S.drop j).flatMap kyc) (by rfl) hTl.1 hTn hTl.2 (kco _) (by unfold maxLen; omega) (by omega) (Hu0.out _ hS) ?_
            intro v1 w3 hown1 hgrow1
            obtain ⟨a1, c1, rfl⟩ := own_val hown1
            refine hK.out _ _ (hS.grown hgrow1 (Hu0.out _ hS) (fun k hk => by cases hk; exact hgDl)) (fun hS1 => ?_)
            clear hK K
            try simp only [Act.put, List.setIfInBounds_toArray, List.set_cons_zero, List.set_cons_succ]
            have HT3 := Lib.hid (row_later HT0.out (HEu0.out _ hS1))
            have HR3 := Lib.hid (show w3.ownsRow u0B 56 3 (.slice a1 (1 + (tn - j)) c1) (1 + (tn - j)) ((x :: S.drop j).flatMap kyc) from hown1)
            have HB3 := Lib.hid (HBu.out.trans ((HEu0.out _ hS1).mono HBu.out.size))
            have hS := hS1
            clear hS1 hown1 hgrow1 hOD hTl hTn hgD hgDl
            refine wpAnyH_take (i := 12) (oi := ⟨_, _, _, _, _, _⟩) (v := ?v45) rfl (by kernel_rfl) (by kernel_rfl) (by kernel_rfl) (fun _ _ _ h => h) ?y45 hS ?_
            case y45 => first | (refine Or.inr ⟨by rfl, ?_⟩; with_reducible rfl) | (refine Or.inl ⟨by rfl, ?_⟩; intro wS hSw; go_simp; try with_reducible rfl)
            simp only [Act.put, List.setIfInBounds_toArray, List.set_cons_zero, List.set_cons_succ]
            refine wpAnyH_done (by kernel_rfl) ?_ _
            clear hS
            go_upto_region 9 with (fail)
            generalize (if tc = j then ta else Option.map (fun a => a.add (j * 3)) ta) = tx
            have hs1 : (0 : Int) ≤ (j : Int) := by omega
            have hs2 : (j : Int) ≤ tc := by omega
            have hs3 : ((j : Int)).toNat = j := by omega
            have hTl := fun wS (hw : Below w3.heap.size w3 wS) => rk_head (k := j) (row_later HT3.out hw) HS.out.1.symm hj
            have hTn : ((S.take j).flatMap kyc).length = j * 3 := by rw [flat_len kcl, List.length_take, HS.out.1, Nat.min_eq_left hj]
            have hRn := fun wS (hw : Below w3.heap.size w3 wS) => rows_news kcl (by omega) (own_rows kcl (by rw [List.length_cons, List.length_drop, HS.out.1]; omega) (row_later HR3.out hw))
            have hRl : ((x :: S.drop j).flatMap kyc).length = (1 + (tn - j)) * 3 := by rw [flat_len kcl, List.length_cons, List.length_drop, HS.out.1]; omega
            have HTl := Lib.hid hTl
            have HTn := Lib.hid hTn
            have HRn := Lib.hid hRn
            have HRl := Lib.hid hRl
            clear hTl hTn hRn hRl
            go_wp2_with (at_builtin; first | (refine wpList_append_tu (by rfl) (.tmp 48) (.tmp 51) 53 53 (by rfl) w3.heap.size 56 56 i0 _ 3 24 Tryz.underlying53 Tryz.underlying53 hi0 hz0 hz1 hz2 rfl (by decide) (some ⟨w3.heap.size, 0, none⟩) 0 0 [] (by rfl) (empty_rowC (heap_alloc_new w3 _) (Nat.le_refl _)) ta j tc ((S.take j).flatMap kyc) (by rfl) (HTl.out _ (Below.refl _ _)).1 HTn.out (HTl.out _ ((Below.refl _ w3).alloc (Nat.le_refl _) _)).2 (kco _) (by unfold maxLen; omega) (by omega) (by simp) ?_; intro v2 w4 hown2 hgrow2; simp only [Nat.zero_add, List.nil_append] at hown2; obtain ⟨a2, c2, rfl⟩ := own_val hown2; have HB4 := Lib.hid (((Below.refl _ w3).alloc (Nat.le_refl _) (.cells #[] 56)).grown hgrow2 (by simp) (fun k hk => by simp [Value.ownBlock] at hk; omega)); have HO2 := Lib.hid hown2; clear hown2 hgrow2) | (refine wpList_append_tu (by rfl) (.tmp 52) (.tmp 53) 53 53 (by rfl) w3.heap.size 56 56 i0 _ 3 24 Tryz.underlying53 Tryz.underlying53 hi0 hz0 hz1 hz2 rfl (by decide) a2 j c2 ((S.take j).flatMap kyc) (by rfl) HO2.out a1 (1 + (tn - j)) c1 ((x :: S.drop j).flatMap kyc) (by rfl) (fun h => ((HRn.out _ HB4.out).2.2.2.1 h).1) HRl.out (HRn.out _ HB4.out).2.2.2.2 (kco _) (by unfold maxLen; omega) (by omega) HB4.out.size ?_; intro v3 w5 hown3 hgrow3; obtain ⟨a3, c3, rfl⟩ := own_val hown3; have HB5 := Lib.hid (HB4.out.grown hgrow3 HB4.out.size (fun k hk => (HO2.out.lt k hk).1)); have HO3 := Lib.hid hown3; clear hown3 hgrow3))
            have HR5 := Lib.hid (show w5.ownsRow w.heap.size 56 3 (.slice a3 (j + (1 + (tn - j))) c3) (j + (1 + (tn - j))) ((S.take j ++ x :: S.drop j).flatMap kyc) from by
              rw [List.flatMap_append]
              exact ownsRow_base (by simpa using HO3.out) HB3.out.size)
            replace HB5 := Lib.hid (HB3.out.trans (HB5.out.mono HB3.out.size))
            go_roundw
            case rel => exact ⟨tn + 1, a3, j + (1 + (tn - j)), c3, S.take j ++ x :: S.drop j, by omega, by omega, by go_num, rfl, Lib.hid ⟨by rw [List.length_append, List.length_cons, List.length_take, List.length_drop, HS.out.1, Nat.min_eq_left hj]; omega, by
              rw [List.take_succ_eq_append_getElem HkS.out, List.map_append]
              refine (ins_perm S x j).trans ?_
              rw [HX.out]
              exact HS.out.2.1.append_right _, HSo.out⟩, HR5, HB5⟩
            case measure => simp [intOf]; omega
        · have hjt2 : ¬ (j : Int) < tn := by omega
          have HBu := Lib.hid (HB.out.trans (Hb.out.mono HB.out.size))
          go_upto_region 6 with (fail)
          refine wp_region_held_drew (S := fun z => Below wr.heap.size wr z) (by kernel_rfl) (Below.refl wr.heap.size wr).drew (fun hS => ?_)
          refine wpAnyH_take (i := 0) (oi := ⟨_, _, _, _, _, _⟩) (v := ?v46) rfl (by kernel_rfl) (by kernel_rfl) (by kernel_rfl) (fun _ _ _ h => h) ?y46 hS ?_
          case y46 => first | (refine Or.inr ⟨by rfl, ?_⟩; with_reducible rfl) | (refine Or.inl ⟨by rfl, ?_⟩; intro wS hSw; go_simp; try with_reducible rfl)
          simp only [Act.put, List.setIfInBounds_toArray, List.set_cons_zero, List.set_cons_succ]
          refine wpAnyH_take (i := 1) (oi := ⟨_, _, _, _, _, _⟩) (v := ?v47) rfl (by kernel_rfl) (by kernel_rfl) (by kernel_rfl) (fun _ _ _ h => h) ?y47 hS ?_
          case y47 => first | (refine Or.inr ⟨by rfl, ?_⟩; with_reducible rfl) | (refine Or.inl ⟨by rfl, ?_⟩; intro wS hSw; go_simp; try with_reducible rfl)
          simp only [Act.put, List.setIfInBounds_toArray, List.set_cons_zero, List.set_cons_succ]
          refine wpAnyH_take (i := 2) (oi := ⟨_, _, _, _, _, _⟩) (v := ?v48) rfl (by kernel_rfl) (by kernel_rfl) (by kernel_rfl) (fun _ _ _ h => h) ?y48 hS ?_
          case y48 => first | (refine Or.inr ⟨by rfl, ?_⟩; with_reducible rfl) | (refine Or.inl ⟨by rfl, ?_⟩; intro wS hSw; go_simp; try with_reducible rfl)
          simp only [Act.put, List.setIfInBounds_toArray, List.set_cons_zero, List.set_cons_succ]
          refine wpAnyH_take (i := 3) (oi := ⟨_, _, _, _, _, _⟩) (v := ?v49) rfl (by kernel_rfl) (by kernel_rfl) (by kernel_rfl) (fun _ _ _ h => h) ?y49 hS ?_
          case y49 => first | (refine Or.inr ⟨by rfl, ?_⟩; with_reducible rfl) | (refine Or.inl ⟨by rfl, ?_⟩; intro wS hSw; go_simp; try with_reducible rfl)
          simp only [Act.put, List.setIfInBounds_toArray, List.set_cons_zero, List.set_cons_succ]
          refine wpAnyH_take (i := 4) (oi := ⟨_, _, _, _, _, _⟩) (v := ?v50) rfl (by kernel_rfl) (by kernel_rfl) (by kernel_rfl) (fun _ _ _ h => h) ?y50 hS ?_
          case y50 => first | (refine Or.inr ⟨by rfl, ?_⟩; with_reducible rfl) | (refine Or.inl ⟨by rfl, ?_⟩; intro wS hSw; go_simp; try with_reducible rfl)
          simp only [Act.put, List.setIfInBounds_toArray, List.set_cons_zero, List.set_cons_succ]
          refine wpAnyH_take (i := 5) (oi := ⟨_, _, _, _, _, _⟩) (v := ?v51) rfl (by kernel_rfl) (by kernel_rfl) (by kernel_rfl) (fun _ _ _ h => h) ?y51 hS ?_
          case y51 => first | (refine Or.inr ⟨by rfl, ?_⟩; with_reducible rfl) | (refine Or.inl ⟨by rfl, ?_⟩; intro wS hSw; go_simp; try with_reducible rfl)
          simp only [Act.put, List.setIfInBounds_toArray, List.set_cons_zero, List.set_cons_succ]
          refine wpAnyH_take (i := 6) (oi := ⟨_, _, _, _, _, _⟩) (v := ?v52) rfl (by kernel_rfl) (by kernel_rfl) (by kernel_rfl) (fun _ _ _ h => h) ?y52 hS ?_
          case y52 => first | (refine Or.inr ⟨by rfl, ?_⟩; with_reducible rfl) | (refine Or.inl ⟨by rfl, ?_⟩; intro wS hSw; go_simp; try with_reducible rfl)
          simp only [Act.put, List.setIfInBounds_toArray, List.set_cons_zero, List.set_cons_succ]
          refine wpAnyH_take (i := 7) (oi := ⟨_, _, _, _, _, _⟩) (v := ?v53) rfl (by kernel_rfl) (by kernel_rfl) (by kernel_rfl) (fun _ _ _ h => h) ?y53 hS ?_
          case y53 => first | (refine Or.inr ⟨by rfl, ?_⟩; with_reducible rfl) | (refine Or.inl ⟨by rfl, ?_⟩; intro wS hSw; go_simp; try with_reducible rfl)
          simp only [Act.put, List.setIfInBounds_toArray, List.set_cons_zero, List.set_cons_succ]
          refine wpAnyH_take (i := 8) (oi := ⟨_, _, _, _, _, _⟩) (v := ?v54) rfl (by kernel_rfl) (by kernel_rfl) (by kernel_rfl) (fun _ _ _ h => h) ?y54 hS ?_
          case y54 => first | (refine Or.inr ⟨by rfl, ?_⟩; with_reducible rfl) | (refine Or.inl ⟨by rfl, ?_⟩; intro wS hSw; go_simp; try with_reducible rfl)
          simp only [Act.put, List.setIfInBounds_toArray, List.set_cons_zero, List.set_cons_succ]
          refine wpAnyH_take (i := 9) (oi := ⟨_, _, _, _, _, _⟩) (v := ?v55) rfl (by kernel_rfl) (by kernel_rfl) (by kernel_rfl) (fun _ _ _ h => h) ?y55 hS ?_
          case y55 => first | (refine Or.inr ⟨by rfl, ?_⟩; with_reducible rfl) | (refine Or.inl ⟨by rfl, ?_⟩; intro wS hSw; go_simp; try with_reducible rfl)
          simp only [Act.put, List.setIfInBounds_toArray, List.set_cons_zero, List.set_cons_succ]
          refine wpAnyH_take (i := 10) (oi := ⟨_, _, _, _, _, _⟩) (v := ?v56) rfl (by kernel_rfl) (by kernel_rfl) (by kernel_rfl) (fun _ _ _ h => h) ?y56 hS ?_
          case y56 => first | (refine Or.inr ⟨by rfl, ?_⟩; with_reducible rfl) | (refine Or.inl ⟨by rfl, ?_⟩; intro wS hSw; go_simp; try with_reducible rfl)
          simp only [Act.put, List.setIfInBounds_toArray, List.set_cons_zero, List.set_cons_succ]
          refine wpAnyH_take (i := 11) (oi := ⟨_, _, _, _, _, _⟩) (v := ?v57) rfl (by kernel_rfl) (by kernel_rfl) (by kernel_rfl) (fun _ _ _ h => h) ?y57 hS ?_
          case y57 => first | (refine Or.inr ⟨by rfl, ?_⟩; with_reducible rfl) | (refine Or.inl ⟨by rfl, ?_⟩; intro wS hSw; go_simp; try with_reducible rfl)
          simp only [Act.put, List.setIfInBounds_toArray, List.set_cons_zero, List.set_cons_succ]
          refine wpAnyH_take (i := 12) (oi := ⟨_, _, _, _, _, _⟩) (v := ?v58) rfl (by kernel_rfl) (by kernel_rfl) (by kernel_rfl) (fun _ _ _ h => h) ?y58 hS ?_
          case y58 => first | (refine Or.inr ⟨by rfl, ?_⟩; with_reducible rfl) | (refine Or.inl ⟨by rfl, ?_⟩; intro wS hSw; go_simp; try with_reducible rfl)
          simp only [Act.put, List.setIfInBounds_toArray, List.set_cons_zero, List.set_cons_succ]
          refine wpAnyH_take (i := 13) (oi := ⟨_, _, _, _, _, _⟩) (v := ?v59) rfl (by kernel_rfl) (by kernel_rfl) (by kernel_rfl) (fun _ _ _ h => h) ?y59 hS ?_
          case y59 => first | (refine Or.inr ⟨by rfl, ?_⟩; with_reducible rfl) | (refine Or.inl ⟨by rfl, ?_⟩; intro wS hSw; go_simp; try with_reducible rfl)
          simp only [Act.put, List.setIfInBounds_toArray, List.set_cons_zero, List.set_cons_succ]
          refine wpAnyH_take (i := 14) (oi := ⟨_, _, _, _, _, _⟩) (v := ?v60) rfl (by kernel_rfl) (by kernel_rfl) (by kernel_rfl) (fun _ _ _ h => h) ?y60 hS ?_
          case y60 => first | (refine Or.inr ⟨by rfl, ?_⟩; with_reducible rfl) | (refine Or.inl ⟨by rfl, ?_⟩; intro wS hSw; go_simp; try with_reducible rfl)
          simp only [Act.put, List.setIfInBounds_toArray, List.set_cons_zero, List.set_cons_succ]
          refine wpAnyH_take (i := 15) (oi := ⟨_, _, _, _, _, _⟩) (v := ?v61) rfl (by kernel_rfl) (by kernel_rfl) (by kernel_rfl) (fun _ _ _ h => h) ?y61 hS ?_
          case y61 => first | (refine Or.inr ⟨by rfl, ?_⟩; with_reducible rfl) | (refine Or.inl ⟨by rfl, ?_⟩; intro wS hSw; go_simp; try with_reducible rfl)
          simp only [Act.put, List.setIfInBounds_toArray, List.set_cons_zero, List.set_cons_succ]
          refine wpAnyH_take (i := 16) (oi := ⟨_, _, _, _, _, _⟩) (v := ?v62) rfl (by kernel_rfl) (by kernel_rfl) (by kernel_rfl) (fun _ _ _ h => h) ?y62 hS ?_
          case y62 => first | (refine Or.inr ⟨by rfl, ?_⟩; with_reducible rfl) | (refine Or.inl ⟨by rfl, ?_⟩; intro wS hSw; go_simp; try with_reducible rfl)
          simp only [Act.put, List.setIfInBounds_toArray, List.set_cons_zero, List.set_cons_succ]
          refine wpAnyH_take (i := 17) (oi := ⟨_, _, _, _, _, _⟩) (v := ?v63) rfl (by kernel_rfl) (by kernel_rfl) (by kernel_rfl) (fun _ _ _ h => h) ?y63 hS ?_
          case y63 => first | (refine Or.inr ⟨by rfl, ?_⟩; with_reducible rfl) | (refine Or.inl ⟨by rfl, ?_⟩; intro wS hSw; go_simp; try with_reducible rfl)
          simp only [Act.put, List.setIfInBounds_toArray, List.set_cons_zero, List.set_cons_succ]
          refine wpAnyH_done (by kernel_rfl) ?_ _
          have HS6 := Lib.hid (Hb.out.trans (hS.mono Hb.out.size))
          clear hS
          have HSo := Lib.hid (ins_sorted HS.out.2.2 (by rw [HS.out.1]; exact hj) HL.out (fun h => by have := HS.out.1; omega))
          go_upto_region 8 with (fail)
          refine gen_world (S := fun v => Below w.heap.size w v ∧ v.ownsRow w.heap.size 56 3 (.slice ta tn tc) tn (S.flatMap kyc)) ⟨HB.out.trans (HS6.out.mono HB.out.size), row_later HT.out HS6.out⟩ (fun u0 hu0 => ?_)
          obtain ⟨hb0, ht0⟩ := hu0
          have HBu := Lib.hid hb0
          have HT0 := Lib.hid ht0
          have hul := hb0.size
          clear hb0 ht0
          obtain ⟨u0B, hu0B⟩ : ∃ x, x = u0.heap.size := ⟨_, rfl⟩
          have Hu0 := Lib.hid (show ∀ z, Below u0B u0 z → u0B ≤ z.heap.size from fun z hz => by rw [hu0B]; exact hz.size)
          have HEu0 := Lib.hid (show ∀ z, Below u0B u0 z → Below u0.heap.size u0 z from fun z hz => by rw [← hu0B]; exact hz)
          have hdu0 : Below u0B u0 u0.drew := by rw [hu0B]; exact (Below.refl u0.heap.size u0).drew
          clear hu0B
          refine wp_region_held_drew (S := fun z => Below u0B u0 z) (by kernel_rfl) hdu0 (fun hS => ?_)
          clear hdu0
          refine wpAnyH_take (i := 0) (oi := ⟨_, _, _, _, _, _⟩) (v := ?v64) rfl (by kernel_rfl) (by kernel_rfl) (by kernel_rfl) (fun _ _ _ h => h) ?y64 hS ?_
          case y64 => first | (refine Or.inr ⟨by rfl, ?_⟩; with_reducible rfl) | (refine Or.inl ⟨by rfl, ?_⟩; intro wS hSw; obtain ⟨c0, c1, c2⟩ := HC.out wS (HBu.out.trans ((HEu0.out _ hSw).mono HBu.out.size)); have m2 := HM.out wS (HBu.out.trans ((HEu0.out _ hSw).mono HBu.out.size)); go_simp; try with_reducible rfl)
          simp only [Act.put, List.setIfInBounds_toArray, List.set_cons_zero, List.set_cons_succ]
          refine wpAnyH_take (i := 1) (oi := ⟨_, _, _, _, _, _⟩) (v := ?v65) rfl (by kernel_rfl) (by kernel_rfl) (by kernel_rfl) (fun _ _ _ h => h) ?y65 hS ?_
          case y65 => first | (refine Or.inr ⟨by rfl, ?_⟩; with_reducible rfl) | (refine Or.inl ⟨by rfl, ?_⟩; intro wS hSw; obtain ⟨c0, c1, c2⟩ := HC.out wS (HBu.out.trans ((HEu0.out _ hSw).mono HBu.out.size)); have m2 := HM.out wS (HBu.out.trans ((HEu0.out _ hSw).mono HBu.out.size)); go_simp; try with_reducible rfl)
          simp only [Act.put, List.setIfInBounds_toArray, List.set_cons_zero, List.set_cons_succ]
          refine wpAnyH_take (i := 2) (oi := ⟨_, _, _, _, _, _⟩) (v := ?v66) rfl (by kernel_rfl) (by kernel_rfl) (by kernel_rfl) (fun _ _ _ h => h) ?y66 hS ?_
          case y66 => first | (refine Or.inr ⟨by rfl, ?_⟩; with_reducible rfl) | (refine Or.inl ⟨by rfl, ?_⟩; intro wS hSw; obtain ⟨c0, c1, c2⟩ := HC.out wS (HBu.out.trans ((HEu0.out _ hSw).mono HBu.out.size)); have m2 := HM.out wS (HBu.out.trans ((HEu0.out _ hSw).mono HBu.out.size)); go_simp; try with_reducible rfl)
          simp only [Act.put, List.setIfInBounds_toArray, List.set_cons_zero, List.set_cons_succ]
          refine wpAnyH_take (i := 3) (oi := ⟨_, _, _, _, _, _⟩) (v := ?v67) rfl (by kernel_rfl) (by kernel_rfl) (by kernel_rfl) (fun _ _ _ h => h) ?y67 hS ?_
          case y67 => first | (refine Or.inr ⟨by rfl, ?_⟩; with_reducible rfl) | (refine Or.inl ⟨by rfl, ?_⟩; intro wS hSw; obtain ⟨c0, c1, c2⟩ := HC.out wS (HBu.out.trans ((HEu0.out _ hSw).mono HBu.out.size)); have m2 := HM.out wS (HBu.out.trans ((HEu0.out _ hSw).mono HBu.out.size)); go_simp; try with_reducible rfl)
          simp only [Act.put, List.setIfInBounds_toArray, List.set_cons_zero, List.set_cons_succ]
          refine wpAnyH_take (i := 4) (oi := ⟨_, _, _, _, _, _⟩) (v := ?v68) rfl (by kernel_rfl) (by kernel_rfl) (by kernel_rfl) (fun _ _ _ h => h) ?y68 hS ?_
          case y68 => first | (refine Or.inr ⟨by rfl, ?_⟩; with_reducible rfl) | (refine Or.inl ⟨by rfl, ?_⟩; intro wS hSw; obtain ⟨c0, c1, c2⟩ := HC.out wS (HBu.out.trans ((HEu0.out _ hSw).mono HBu.out.size)); have m2 := HM.out wS (HBu.out.trans ((HEu0.out _ hSw).mono HBu.out.size)); go_simp; try with_reducible rfl)
          simp only [Act.put, List.setIfInBounds_toArray, List.set_cons_zero, List.set_cons_succ]
          refine wpAnyH_take (i := 5) (oi := ⟨_, _, _, _, _, _⟩) (v := ?v69) rfl (by kernel_rfl) (by kernel_rfl) (by kernel_rfl) (fun _ _ _ h => h) ?y69 hS ?_
          case y69 => first | (refine Or.inr ⟨by rfl, ?_⟩; with_reducible rfl) | (refine Or.inl ⟨by rfl, ?_⟩; intro wS hSw; obtain ⟨c0, c1, c2⟩ := HC.out wS (HBu.out.trans ((HEu0.out _ hSw).mono HBu.out.size)); have m2 := HM.out wS (HBu.out.trans ((HEu0.out _ hSw).mono HBu.out.size)); go_simp; try with_reducible rfl)
          simp only [Act.put, List.setIfInBounds_toArray, List.set_cons_zero, List.set_cons_succ]
          refine wpAnyH_take (i := 6) (oi := ⟨_, _, _, _, _, _⟩) (v := ?v70) rfl (by kernel_rfl) (by kernel_rfl) (by kernel_rfl) (fun _ _ _ h => h) ?y70 hS ?_
          case y70 => first | (refine Or.inr ⟨by rfl, ?_⟩; with_reducible rfl) | (refine Or.inl ⟨by rfl, ?_⟩; intro wS hSw; obtain ⟨c0, c1, c2⟩ := HC.out wS (HBu.out.trans ((HEu0.out _ hSw).mono HBu.out.size)); have m2 := HM.out wS (HBu.out.trans ((HEu0.out _ hSw).mono HBu.out.size)); go_simp; try with_reducible rfl)
          simp only [Act.put, List.setIfInBounds_toArray, List.set_cons_zero, List.set_cons_succ]
          refine wpAnyH_take (i := 8) (oi := ⟨_, _, _, _, _, _⟩) (v := ?v71) rfl (by kernel_rfl) (by kernel_rfl) (by kernel_rfl) (fun _ _ _ h => h) ?y71 hS ?_
          case y71 => first | (refine Or.inr ⟨by rfl, ?_⟩; with_reducible rfl) | (refine Or.inl ⟨by rfl, ?_⟩; intro wS hSw; obtain ⟨c0, c1, c2⟩ := HC.out wS (HBu.out.trans ((HEu0.out _ hSw).mono HBu.out.size)); have m2 := HM.out wS (HBu.out.trans ((HEu0.out _ hSw).mono HBu.out.size)); go_simp; try with_reducible rfl)
          simp only [Act.put, List.setIfInBounds_toArray, List.set_cons_zero, List.set_cons_succ]
          refine wpAnyH_take (i := 9) (oi := ⟨_, _, _, _, _, _⟩) (v := ?v72) rfl (by kernel_rfl) (by kernel_rfl) (by kernel_rfl) (fun _ _ _ h => h) ?y72 hS ?_
          case y72 => first | (refine Or.inr ⟨by rfl, ?_⟩; with_reducible rfl) | (refine Or.inl ⟨by rfl, ?_⟩; intro wS hSw; obtain ⟨c0, c1, c2⟩ := HC.out wS (HBu.out.trans ((HEu0.out _ hSw).mono HBu.out.size)); have m2 := HM.out wS (HBu.out.trans ((HEu0.out _ hSw).mono HBu.out.size)); go_simp; try with_reducible rfl)
          simp only [Act.put, List.setIfInBounds_toArray, List.set_cons_zero, List.set_cons_succ]
          refine wpAnyH_take (i := 10) (oi := ⟨_, _, _, _, _, _⟩) (v := ?v73) rfl (by kernel_rfl) (by kernel_rfl) (by kernel_rfl) (fun _ _ _ h => h) ?y73 hS ?_
          case y73 => first | (refine Or.inr ⟨by rfl, ?_⟩; with_reducible rfl) | (refine Or.inl ⟨by rfl, ?_⟩; intro wS hSw; have hs1 : (0 : Int) ≤ (j : Int) := (by omega); have hs2 : (j : Int) ≤ tn := (by omega); have hs3 : ((j : Int)).toNat = j := (by omega); go_simp; try with_reducible rfl)
          simp only [Act.put, List.setIfInBounds_toArray, List.set_cons_zero, List.set_cons_succ]
          refine wpAnyH_ready (rs := [7]) (by kernel_rfl) (by simp) ?_
          refine AllReadyH.cons (o := ⟨_, _, _, _, _, _⟩) rfl (fun K hK => ?_) AllReadyH.nil
          go_simp
          refine hK.out _ _ (hS.alloc (Hu0.out _ hS) _) (fun _ => ?_)
          clear hK K
          try simp only [Act.put, List.setIfInBounds_toArray, List.set_cons_zero, List.set_cons_succ]
          obtain ⟨gD, hgD⟩ : ∃ n, n = u0.heap.size := ⟨_, rfl⟩
          refine gen_anyH (S2 := fun z => Below u0B u0 z ∧ z.heap[gD]? = some (.cells #[.int .i64 x.rule, .int .i64 x.level, .int .i64 x.place] 56 (0, 0)) ∧ u0B ≤ gD) ⟨hS.alloc (Hu0.out _ hS) _, by rw [hgD]; exact heap_alloc_new _ _, by rw [hgD]; have hz := Hu0.out _ hS; exact hz⟩ (fun wv hu => ?_)
          clear hS
          rw [← hgD]
          clear hgD
          obtain ⟨hS, hgD, hgDl⟩ := hu
          refine wpAnyH_ready (rs := [11]) (by kernel_rfl) (by simp) ?_
          refine AllReadyH.cons (o := ⟨_, _, _, _, _, _⟩) rfl (fun K hK => ?_) AllReadyH.nil
          have hOD : wv.ownsRow u0B 56 3 (.slice (some ⟨gD, 0, none⟩) 1 1) 1 (kyc x) := own_shut rfl hgDl hgD (Nat.le_refl _) (by unfold maxLen; omega) rfl rfl
          have hTl := rk_tail (k := j) (row_later HT0.out (HEu0.out _ hS)) HS.out.1.symm hj
          have hTn : ((S.drop j).flatMap kyc).length = (tn - j) * 3 := by rw [flat_len kcl, List.length_drop, HS.out.1]
          refine step_append_tu (by rfl) _ _ 53 53 (by rfl) u0B 56 56 i0 _ 3 24 Tryz.underlying53 Tryz.underlying53 hi0 hz0 hz1 hz2 rfl (by decide) (some ⟨gD, 0, none⟩) 1 1 (kyc x) (by rfl) hOD (if tc = j then ta else Option.map (fun a => a.add (j * 3)) ta) (tn - j) (tc - j) ((S.drop j).flatMap kyc) (by rfl) hTl.1 hTn hTl.2 (kco _) (by unfold maxLen; omega) (by omega) (Hu0.out _ hS) ?_
          intro v1 w3 hown1 hgrow1
          obtain ⟨a1, c1, rfl⟩ := own_val hown1
          refine hK.out _ _ (hS.grown hgrow1 (Hu0.out _ hS) (fun k hk => by cases hk; exact hgDl)) (fun hS1 => ?_)
          clear hK K
          try simp only [Act.put, List.setIfInBounds_toArray, List.set_cons_zero, List.set_cons_succ]
          have HT3 := Lib.hid (row_later HT0.out (HEu0.out _ hS1))
          have HR3 := Lib.hid (show w3.ownsRow u0B 56 3 (.slice a1 (1 + (tn - j)) c1) (1 + (tn - j)) ((x :: S.drop j).flatMap kyc) from hown1)
          have HB3 := Lib.hid (HBu.out.trans ((HEu0.out _ hS1).mono HBu.out.size))
          have hS := hS1
          clear hS1 hown1 hgrow1 hOD hTl hTn hgD hgDl
          refine wpAnyH_take (i := 12) (oi := ⟨_, _, _, _, _, _⟩) (v := ?v74) rfl (by kernel_rfl) (by kernel_rfl) (by kernel_rfl) (fun _ _ _ h => h) ?y74 hS ?_
          case y74 => first | (refine Or.inr ⟨by rfl, ?_⟩; with_reducible rfl) | (refine Or.inl ⟨by rfl, ?_⟩; intro wS hSw; go_simp; try with_reducible rfl)
          simp only [Act.put, List.setIfInBounds_toArray, List.set_cons_zero, List.set_cons_succ]
          refine wpAnyH_done (by kernel_rfl) ?_ _
          clear hS
          go_upto_region 9 with (fail)
          generalize (if tc = j then ta else Option.map (fun a => a.add (j * 3)) ta) = tx
          have hs1 : (0 : Int) ≤ (j : Int) := by omega
          have hs2 : (j : Int) ≤ tc := by omega
          have hs3 : ((j : Int)).toNat = j := by omega
          have hTl := fun wS (hw : Below w3.heap.size w3 wS) => rk_head (k := j) (row_later HT3.out hw) HS.out.1.symm hj
          have hTn : ((S.take j).flatMap kyc).length = j * 3 := by rw [flat_len kcl, List.length_take, HS.out.1, Nat.min_eq_left hj]
          have hRn := fun wS (hw : Below w3.heap.size w3 wS) => rows_news kcl (by omega) (own_rows kcl (by rw [List.length_cons, List.length_drop, HS.out.1]; omega) (row_later HR3.out hw))
          have hRl : ((x :: S.drop j).flatMap kyc).length = (1 + (tn - j)) * 3 := by rw [flat_len kcl, List.length_cons, List.length_drop, HS.out.1]; omega
          have HTl := Lib.hid hTl
          have HTn := Lib.hid hTn
          have HRn := Lib.hid hRn
          have HRl := Lib.hid hRl
          clear hTl hTn hRn hRl
          go_wp2_with (at_builtin; first | (refine wpList_append_tu (by rfl) (.tmp 48) (.tmp 51) 53 53 (by rfl) w3.heap.size 56 56 i0 _ 3 24 Tryz.underlying53 Tryz.underlying53 hi0 hz0 hz1 hz2 rfl (by decide) (some ⟨w3.heap.size, 0, none⟩) 0 0 [] (by rfl) (empty_rowC (heap_alloc_new w3 _) (Nat.le_refl _)) ta j tc ((S.take j).flatMap kyc) (by rfl) (HTl.out _ (Below.refl _ _)).1 HTn.out (HTl.out _ ((Below.refl _ w3).alloc (Nat.le_refl _) _)).2 (kco _) (by unfold maxLen; omega) (by omega) (by simp) ?_; intro v2 w4 hown2 hgrow2; simp only [Nat.zero_add, List.nil_append] at hown2; obtain ⟨a2, c2, rfl⟩ := own_val hown2; have HB4 := Lib.hid (((Below.refl _ w3).alloc (Nat.le_refl _) (.cells #[] 56)).grown hgrow2 (by simp) (fun k hk => by simp [Value.ownBlock] at hk; omega)); have HO2 := Lib.hid hown2; clear hown2 hgrow2) | (refine wpList_append_tu (by rfl) (.tmp 52) (.tmp 53) 53 53 (by rfl) w3.heap.size 56 56 i0 _ 3 24 Tryz.underlying53 Tryz.underlying53 hi0 hz0 hz1 hz2 rfl (by decide) a2 j c2 ((S.take j).flatMap kyc) (by rfl) HO2.out a1 (1 + (tn - j)) c1 ((x :: S.drop j).flatMap kyc) (by rfl) (fun h => ((HRn.out _ HB4.out).2.2.2.1 h).1) HRl.out (HRn.out _ HB4.out).2.2.2.2 (kco _) (by unfold maxLen; omega) (by omega) HB4.out.size ?_; intro v3 w5 hown3 hgrow3; obtain ⟨a3, c3, rfl⟩ := own_val hown3; have HB5 := Lib.hid (HB4.out.grown hgrow3 HB4.out.size (fun k hk => (HO2.out.lt k hk).1)); have HO3 := Lib.hid hown3; clear hown3 hgrow3))
          have HR5 := Lib.hid (show w5.ownsRow w.heap.size 56 3 (.slice a3 (j + (1 + (tn - j))) c3) (j + (1 + (tn - j))) ((S.take j ++ x :: S.drop j).flatMap kyc) from by
            rw [List.flatMap_append]
            exact ownsRow_base (by simpa using HO3.out) HB3.out.size)
          replace HB5 := Lib.hid (HB3.out.trans (HB5.out.mono HB3.out.size))
          go_roundw
          case rel => exact ⟨tn + 1, a3, j + (1 + (tn - j)), c3, S.take j ++ x :: S.drop j, by omega, by omega, by go_num, rfl, Lib.hid ⟨by rw [List.length_append, List.length_cons, List.length_take, List.length_drop, HS.out.1, Nat.min_eq_left hj]; omega, by
            rw [List.take_succ_eq_append_getElem HkS.out, List.map_append]
            refine (ins_perm S x j).trans ?_
            rw [HX.out]
            exact HS.out.2.1.append_right _, HSo.out⟩, HR5, HB5⟩
          case measure => simp [intOf]; omega
    · obtain rfl : tn = n := by omega
      have hlt2 : ¬ (tn : Int) < tn := by omega
      go_wp2
      go_ret
      refine ⟨_, rfl, S, ?_, HS.out.2.2, ?_, HB.out⟩
      · have := HS.out.2.1
        rwa [HN.out, List.take_length] at this
      · show wr.ownsRow w.heap.size 56 3 (.slice ta tn tc) S.length (S.flatMap kyc)
        rw [HS.out.1]
        exact HT.out
    end Go.Proofs.YtpchjpmkkiopiaaGreat
