/-
  Small lemmas that every seat of this set uses: readings, worlds, boxes, slices of the call's own; the end of a law.
-/
import Derived.Test.YtkimkghldilliaaGreatRows
import Derived.WalkKit
import Derived.WalkSpells
import Derived.WalkLawsBesides
import Derived.ProofKit
import Derived.OpenShut
import Derived.SizedLaws
import Derived.Lib.Hide
import Derived.Deep.QuietTactic
import Derived.BigQuiet
import Derived.Laws.AppendOwnNone
namespace Go.Proofs.YtkimkghldilliaaGreat
open Go.ChangeShapes Go.WideShapes Go.ChangeAt Go.RowKit

theorem trodAll_below {H : Type} {enc : TypeId × Value → H} {P : Program} (hl : laidOutB P = true) {W W' : World} (hb : Below W.heap.size W W') :
    ∀ (ts : List TypeId) (vs : List Value) (ds : List (DataW H)) (ps : List MemPlace), (∀ t ∈ ts, P.readableRec t = true ∧ t < P.types.size) → (∀ x ∈ ps, x.block < W.heap.size) →
      DataW.TrodAll enc P W 0 (fun _ => true) true ts vs ds ps → DataW.TrodAll enc P W' 0 (fun b => decide (b < W.heap.size)) true ts vs ds ps
  | [], vs, ds, ps, _, _, h => by
    obtain ⟨rfl, rfl, rfl⟩ := trodAll_nil h
    exact rfl
  | t :: ts, vs, ds, ps, hr, hlt, h => by
    obtain ⟨v, vs, d, ds, p, q, rfl, rfl, rfl, h0, r0⟩ := trodAll_cons h
    refine trodAll_cons_mk (Below.trod hl (hr t (by simp)).1 (hr t (by simp)).2 h0 hb fun x hx => hlt x (by simp [hx])) ?_
    exact trodAll_below hl hb ts vs ds q (fun t' ht' => hr t' (by simp [ht'])) (fun x hx => hlt x (by simp [hx])) r0

/-- a law that answered true, and wrote nothing that was there: its row's end. -/
theorem law_post {H : Type} {enc : TypeId × Value → H} {P : Program} {f : Func} {s : ChangeSpec} {W W' : World} {args : Array Value} {ds gs : List (DataW H)} {before : List MemPlace} {tb : TypeId}
    (hl : laidOutB P = true) (hread : ∀ t ∈ f.params.toList, P.readableRec t = true ∧ t < P.types.size) (hvars : s.vars = [])
    (hrt : f.resultTypes = #[tb]) (hub : P.underlying tb = some .bool) (hb : Below W.heap.size W W')
    (hW : DataW.Whole enc P f.params.toList s.vars false W args.toList ds gs before)
    (hres : (s.fn H (ds ++ gs)).results = [.lit (.bool true)]) (hargs : (s.fn H (ds ++ gs)).args = ds) (hvs : (s.fn H (ds ++ gs)).vars = []) :
    s.post enc P f false true false false W args (.bool true) W' := by
  have hW' := hW
  obtain ⟨p, q, hA, hV, rfl, hfz, hnd⟩ := hW
  have hlt := hW'.lt
  rw [hvars] at hV
  obtain ⟨rfl, rfl⟩ := trodVars_none hV
  refine ⟨ds, [], _, [], p, [], hW', ?_, ?_, ?_, hb.frame _, fun h => by cases h⟩
  · rw [hrt, hres]
    exact trodAll_cons_mk (shut_bool hub _) trodAll_mk0
  · rw [hargs]
    exact trodAll_below hl hb _ _ _ _ hread (fun x hx => hlt x (by simp [hx])) hA
  · rw [hvars, hvs]; exact hV

/-- the bytes of a slice value. -/
def BytesAt (w : World) (v : Value) (t : List UInt8) : Prop :=
  ∃ ao b off cap, v = .slice ao t.length cap ∧ t.length ≤ cap ∧ cap ≤ maxLen ∧ (ao = none → t.length = 0 ∧ cap = 0) ∧ (0 < t.length → ao = some ⟨b, off, none⟩) ∧ ∀ k (h : k < t.length), w.cell? ⟨b, off + k, none⟩ = some (.int .u8 (t[k].toNat : Int))

theorem BytesAt.later {w w' : World} {v : Value} {t : List UInt8} (h : BytesAt w v t) (hb : Below w.heap.size w w') : BytesAt w' v t := by
  obtain ⟨ao, b, off, cap, rfl, hl, hm, hnil, hao, hc⟩ := h
  exact ⟨ao, b, off, cap, rfl, hl, hm, hnil, hao, fun k hk => cell_later hb (hc k hk)⟩

theorem byte_of_wf {n : Int} (h : (Lit.int .u8 n).wf = true) : ((UInt8.ofNat n.toNat).toNat : Int) = n := by
  have : 0 ≤ n ∧ n ≤ 255 := by simpa [Lit.wf, IntKind.min, IntKind.max, IntKind.signed, IntKind.bits] using h
  rw [UInt8.toNat_ofNat']
  omega

/-- an argument that is a list of bytes. -/
theorem open_bytes {H : Type} {enc : TypeId × Value → H} {P : Program} {W : World} {base : Nat} {t e : TypeId} {v : Value} {d : DataW H} {p : List MemPlace}
    (ht : P.underlying t = some (.slice e)) (he : P.underlying e = some (.int .u8)) (hc : P.cellsOf e = 1)
    (hval : Value.okWide P W .any base t v) (h : DataW.Trod enc P W 0 (fun _ => true) true t v d p) :
    ∃ bs : List UInt8, BytesAt W v bs := by
  obtain ⟨a0, len, cap, rfl⟩ := okWide_slice ht hval
  obtain ⟨fuel, hf⟩ := h
  rcases open_ints ht he hc hf with ⟨hcs, _⟩ | ⟨a, len', cap', zs, hcs, _, hl, hm, hz, _, hcell, hwz⟩
  · simp [Value.cells] at hcs
    obtain ⟨rfl, rfl, rfl⟩ := hcs
    exact ⟨[], none, 0, 0, 0, rfl, Nat.le_refl _, by unfold maxLen; omega, fun _ => ⟨rfl, rfl⟩, fun h => by simp at h, fun k hk => by simp at hk⟩
  · simp [Value.cells] at hcs
    obtain ⟨rfl, rfl, rfl⟩ := hcs
    simp only [if_true] at hz
    have hlen : ((zs.take len).map fun n : Int => UInt8.ofNat n.toNat).length = len := by simp; omega
    refine ⟨(zs.take len).map fun n : Int => UInt8.ofNat n.toNat, some a, a.block, a.off, cap, by rw [hlen], by rw [hlen]; exact hl, hm, fun h => by simp at h, ?_, fun k hk => ?_⟩
    all_goals
      rw [hlen] at *
    · intro hp
      have hspot : a.spot = none := by
        cases hs : a.spot with
        | none => rfl
        | some s =>
          have h0 := hcell 0 (by omega)
          simp [Addr.add, World.cell?, hs] at h0
          split at h0 <;> simp at h0
      obtain ⟨b, off, sp⟩ := a
      simp only at hspot
      subst hspot
      rfl
    · have hkz : k < zs.length := by omega
      have hspot : a.spot = none := by
        cases hs : a.spot with
        | none => rfl
        | some s =>
          have h0 := hcell 0 (by omega)
          simp [Addr.add, World.cell?, hs] at h0
          split at h0 <;> simp at h0
      have hck := hcell k hkz
      obtain ⟨b, off, sp⟩ := a
      simp only at hspot
      subst hspot
      have hadd : (⟨b, off, none⟩ : Addr).add k = ⟨b, off + k, none⟩ := by
        unfold Addr.add; split
        · simp_all
        · rfl
      rw [hadd] at hck
      rw [hck]
      simp only [List.getElem_map, List.getElem_take]
      rw [byte_of_wf (hwz _ (List.getElem_mem _))]
      simp [hkz]

theorem ret_int' {k : IntKind} {a b : Int} (h : a = b) : Ending.returned (.int k a) = .returned (.int k b) := by rw [h]

/-! boxes of two cells -/
theorem box_cells {w : World} {b : Nat} {u v : Value} {t : TypeId} (h : w.heap[b]? = some (.cells #[u, v] t (0, 0))) : w.cell? ⟨b, 0, none⟩ = some u ∧ w.cell? ⟨b, 1, none⟩ = some v ∧ w.frozen? ⟨b, 0, none⟩ = false ∧ w.frozen? ⟨b, 1, none⟩ = false := by
  simp [World.cell?, World.frozen?, h]
theorem box_store {w : World} {b : Nat} {u v x : Value} {t : TypeId} (h : w.heap[b]? = some (.cells #[u, v] t (0, 0))) : (w.setCell ⟨b, 0, none⟩ x).heap[b]? = some (.cells #[x, v] t (0, 0)) := by
  simp [World.setCell, Array.getElem?_modify, h]
theorem own_shape {w : World} {base n : Nat} {e : TypeId} {size : Nat} {v : Value} {xs : List Value} (h : w.ownsRow base e size v n xs) (hn : 0 < n) : ∃ g cap, v = .slice (some ⟨g, 0, none⟩) n cap := by
  rcases h.2 with ⟨rfl, h0⟩ | ⟨g, cap, cur, rfl, _⟩
  · omega
  · exact ⟨g, cap, rfl⟩
/-- a block of another element type is not the row that is owned. -/
theorem own_ne' {w : World} {base b n size : Nat} {v : Value} {xs : List Value} {cs : Array Value} {t e : TypeId} {fr : Nat × Nat} (h : w.heap[b]? = some (.cells cs t fr)) (hte : t ≠ e) (ho : w.ownsRow base e size v n xs) : v.ownBlock ≠ some b := by
  rcases ho.2 with ⟨rfl, _⟩ | ⟨g, cap, cur, rfl, _, hg', _⟩
  · simp [Value.ownBlock]
  · intro e; simp [Value.ownBlock] at e; subst e; rw [h] at hg'; simp at hg'; exact hte hg'.2.1
/-- such a block stays behind an append. -/
theorem block_grown {w w1 : World} {base b n size : Nat} {o : Obj} {v : Value} {xs : List Value} {cs : Array Value} {t e : TypeId} {fr : Nat × Nat} (h : w.heap[b]? = some (.cells cs t fr)) (hte : t ≠ e) (ho : w.ownsRow base e size v n xs) (hg : (w.alloc o).grownBy w1 v.ownBlock) :
   w1.heap[b]? = some (.cells cs t fr) := by
  have hl := lt_of_block h
  rw [hg.block b (by simp; omega) (fun e' => own_ne' h hte ho e'.symm), Below.heap_alloc _ _ _ hl, h]

theorem cell_alloc_new (w : World) (C : Array Value) (e : TypeId) (fr : Nat × Nat) (k : Nat) : (w.alloc (.cells C e fr)).cell? ⟨w.heap.size, k, none⟩ = C[k]? := by
  have : (w.alloc (.cells C e fr)).heap[w.heap.size]? = some (.cells C e fr) := by show (w.heap.push _)[_]? = _; simp
  unfold World.cell?
  simp only [this]
  rfl
theorem below_same {B : Nat} {w w' : World} (n : Nat) (h : w' = w.drewN n) : Below B w w' := by
  subst h; exact ⟨rfl, rfl, rfl, Nat.le_refl _, fun _ _ => rfl⟩
theorem below_draws {B : Nat} {w w' : World} (h : Below B w w') (n : Nat) : Below B w (w'.drewN n) := h.trans ⟨rfl, rfl, rfl, Nat.le_refl _, fun _ _ => rfl⟩

/-- append onto a slice of the call's own, from whatever source (nil too). -/
theorem wpList_append_own_any {P : Program} (w : World) {ops : Array Oper} {rest : List Oper} {o : Oper} {a : Act} {Q : Exit → Act → World → Prop} (hgd : o.guard = none) (s x : Operand) (t : TypeId)
    (ho : o.op = .call { callee := .builtin .append, args := #[s, x], argTypes := #[t, t] })
    (base : Nat) (e : TypeId) (i : TypeInfo) (z : Value) (size bytes : Nat) (ht : P.underlying t = some (.slice e)) (hi : P.info? e = some i) (hz : i.zero = some z)
    (hsize : i.size = size) (hby : i.bytes = bytes) (hzs : z.cells.size = size) (hsz : 0 < size)
    (v : Value) (n : Nat) (xs : List Value) (hs : a.eval s = v) (hown : w.ownsRow base e size v n xs)
    (ao : Option Addr) (m c : Nat) (news : List Value) (hx : a.eval x = .slice ao m c) (hl : news.length = m * size) (hnone : ao = none → m = 0 ∧ c = 0)
    (hnews : ∀ ad, ao = some ad → ∀ j u, news[j]? = some u → w.cell? (ad.add j) = some u) (h1 : ∀ u ∈ news, u.oneCell' = true)
    (h63 : n + m ≤ maxLen) (hbytes : (n + m) * bytes ≤ 140737488355328) (hbase : base ≤ w.heap.size)
    (h : ∀ v' w', w'.ownsRow base e size v' (n + m) (xs ++ news) → w.grownBy w' v.ownBlock → wpList P ops Q rest (a.put o.dst v') w') : wpList P ops Q (o :: rest) a w := by
  cases ao with
  | some ad => exact wpList_append_own w hgd s x t ho base e i z size bytes ht hi hz hsize hby hzs hsz v n xs hs hown ad m c news hx hl (hnews ad rfl) h1 h63 hbytes hbase fun v' w' h2 h3 _ => h v' w' h2 h3
  | none =>
    obtain ⟨rfl, rfl⟩ := hnone rfl
    have hn : news = [] := List.eq_nil_of_length_eq_zero (by simpa using hl)
    subst hn
    exact wpList_append_own_none hgd s x t ho base e i size ht hi v n xs hs hown hx (h v w (by simpa using hown) (World.grownBy.refl _ _))

end Go.Proofs.YtkimkghldilliaaGreat
