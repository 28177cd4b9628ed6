/-
  A map of the program's own, as a function of its keys, whatever the keys' kind and the values are.
-/
import Derived.Test.YtkimkghldilliaaGreatKeep
import Derived.DeepKeys4
import Derived.Maps.Keyed
import Derived.Maps.OwnSet
import Derived.Maps.Range
namespace Go.Proofs.YtkimkghldilliaaGreat
open Go.RowKit Go.Lib Go.Maps

/-- a value is read as itself. -/
def rv (v : Value) : Option (DataW Value × List MemPlace) := some (.held v, [])
/-- a kind of keys. -/
structure KK (k : TypeId) (κ : Type) where
  law : Keyed Tryz.prog k
  val : κ → Value
  wf : κ → Prop
  of : ∀ x, wf x → ∃ l, keyOf Tryz.prog k (val x) = some l
  inj : ∀ x y, val x = val y → x = y
  inv : ∀ v l, keyOf Tryz.prog k v = some l → ∃ x, v = val x ∧ wf x
theorem KK.lit_inj {k : TypeId} {κ : Type} (K : KK k κ) {x y : κ} {l : Lit} (hx : keyOf Tryz.prog k (K.val x) = some l) (hy : keyOf Tryz.prog k (K.val y) = some l) : x = y :=
  K.inj x y (K.law.inj hx hy)
theorem KK.lit_ne {k : TypeId} {κ : Type} (K : KK k κ) {x y : κ} {l l' : Lit} (hx : keyOf Tryz.prog k (K.val x) = some l) (hy : keyOf Tryz.prog k (K.val y) = some l') (h : x ≠ y) : l ≠ l' := fun e => h (K.lit_inj hx (e ▸ hy))
theorem own_tightV {w : World} {k : TypeId} {b n : Nat} {D : DataW Value} (h : w.ownsMap Tryz.prog k rv b n D) : w.ownsMap Tryz.prog k rv b (Maps.size D) D := by
  obtain ⟨es, clock, hb, F, hs, rfl⟩ := h
  exact ⟨es, clock, hb, F, by simp [Maps.size, length_sorted], rfl⟩
theorem KK.wf_of {k : TypeId} {κ : Type} (K : KK k κ) {x : κ} {l : Lit} (h : keyOf Tryz.prog k (K.val x) = some l) : K.wf x := by
  obtain ⟨y, e, hy⟩ := K.inv _ _ h
  rw [K.inj _ _ e]
  exact hy
/-- what a datum says as a function. -/
def Says {k : TypeId} {κ : Type} (K : KK k κ) (D : DataW Value) (f : κ → Option Value) : Prop :=
  ∀ x l, keyOf Tryz.prog k (K.val x) = some l → Maps.has D l = (f x).isSome ∧ ∀ v, f x = some v → ∀ z, D.atKey l z = .held v
/-- block m is a map of s keys, that has for each key what f says. -/
def MapV {k : TypeId} {κ : Type} (K : KK k κ) (w : World) (m s : Nat) (f : κ → Option Value) : Prop :=
  ∃ D : DataW Value, w.ownsMap Tryz.prog k rv m s D ∧ Maps.size D = s ∧ Says K D f
section
variable {k : TypeId} {κ : Type} {K : KK k κ} {w : World} {m s : Nat} {f : κ → Option Value}
theorem MapV.lt (h : MapV K w m s f) : m < w.heap.size := by obtain ⟨D, h, -⟩ := h; exact h.lt
theorem MapV.blk (h : MapV K w m s f) : ∃ es clock, w.heap[m]? = some (.map es clock) := by obtain ⟨D, ⟨es, clock, h, -⟩, -⟩ := h; exact ⟨es, clock, h⟩
theorem MapV.keeps {S : Nat → Prop} {w' : World} (h : MapV K w m s f) (hk : Keeps S w w') (hn : ¬ S m) : MapV K w' m s f := by
  obtain ⟨D, ⟨es, clock, hb, F, hs, hD⟩, h2, h3⟩ := h
  exact ⟨D, ⟨es, clock, hk.obj hb hn, F, hs, hD⟩, h2, h3⟩
theorem MapV.later {w' : World} (h : MapV K w m s f) (hb : Below w.heap.size w w') : MapV K w' m s f := by
  obtain ⟨D, ⟨es, clock, hg, F, hs, hD⟩, h2, h3⟩ := h
  exact ⟨D, ⟨es, clock, (hb.block _ (lt_of_block hg)).trans hg, F, hs, hD⟩, h2, h3⟩
theorem MapV.ext {g : κ → Option Value} (h : MapV K w m s f) (he : ∀ x, K.wf x → f x = g x) : MapV K w m s g := by
  obtain ⟨D, h1, h2, h3⟩ := h
  exact ⟨D, h1, h2, fun x l hl => by rw [← he x (K.wf_of hl)]; exact h3 x l hl⟩
theorem MapV.made (K : KK k κ) (w : World) : MapV K (w.alloc (.map #[] 0)) w.heap.size 0 (fun _ => none) :=
  ⟨.map [], World.ownsMap_made _ _ _ _, rfl, fun x _ _ => ⟨rfl, fun i h => by simp at h⟩⟩
theorem MapV.look (h : MapV K w m s f) {t e : TypeId} (ht : Tryz.prog.underlying t = some (.map k e)) {z : Value} (hz : (zeroValue e).run Tryz.prog w = .ok z w) {x : κ} (hx : K.wf x) (c : Bool) :
    (Instr.lookup t (.map (some m)) (K.val x) c).run Tryz.prog w = .ok (if c then .tuple #[(f x).getD z, .bool (f x).isSome] else (f x).getD z) w := by
  obtain ⟨D, ⟨es, clock, hb, F, _, rfl⟩, h2, h3⟩ := h
  obtain ⟨l, hl⟩ := K.of x hx
  obtain ⟨h3, h4⟩ := h3 x l hl
  rcases Maps.fit_look c K.law ht hz hb F hl with ⟨hrun, _, hat⟩ | ⟨e0, y, _, _, hrun, hRv, hat, _⟩
  · have hn := Maps.has_false_of_atKey hat
    rw [h3] at hn
    rw [hrun]
    cases hf : f x with
    | none => rfl
    | some v => rw [hf] at hn; simp at hn
  · have hn := Maps.has_true_of_atKey hat
    rw [h3] at hn
    rw [hrun]
    cases hf : f x with
    | none => rw [hf] at hn; simp at hn
    | some v =>
      have h5 := (hat (.nil)).symm.trans (h4 v hf .nil)
      simp only [rv, Option.some.injEq] at hRv
      rw [← hRv] at h5
      simp only [DataW.held.injEq] at h5
      rw [h5]
      rfl
theorem MapV.size (h : MapV K w m s f) {t e : TypeId} (ht : Tryz.prog.underlying t = some (.map k e)) (ty : TypeId) : (Builtin.len_ #[t] ty #[.map (some m)]).run Tryz.prog w = .ok (.int .i64 s) w := by
  obtain ⟨D, h1, h2, -⟩ := h
  rw [h1.len ht ty, h2]
def setV [DecidableEq κ] (f : κ → Option Value) (x : κ) (o : Option Value) : κ → Option Value := fun y => if y = x then o else f y
theorem setV_same [DecidableEq κ] (f : κ → Option Value) (x : κ) (o : Option Value) : setV f x o x = o := by unfold setV; rw [if_pos rfl]
theorem setV_other [DecidableEq κ] (f : κ → Option Value) {x y : κ} (o : Option Value) (h : y ≠ x) : setV f x o y = f y := by unfold setV; rw [if_neg h]
theorem keeps_turned {w w' : World} {m : Nat} (ht : w.mapTurned w' m) : Keeps (· = m) w w' :=
  ⟨ht.grown.os, ht.grown.tape, ht.grown.output, ht.grown.size, fun k hk hn => ht.grown.block k hk (by simp; omega)⟩
theorem MapV.put [DecidableEq κ] (h : MapV K w m s f) {t e : TypeId} (ht : Tryz.prog.underlying t = some (.map k e)) (hs : s < 1000000) {x : κ} (hx : K.wf x) (v : Value) :
    ∃ w', (Instr.mapUpdate t (.map (some m)) (K.val x) v).run Tryz.prog w = .ok () w' ∧ MapV K w' m (if (f x).isSome then s else s + 1) (setV f x (some v)) ∧ Keeps (· = m) w w' := by
  obtain ⟨D, h1, h2, h3⟩ := h
  obtain ⟨lx, hl⟩ := K.of x hx
  obtain ⟨w', hr, ho, ht⟩ := h1.store K.law ht (by unfold maxLen; omega) hl (show rv v = some (.held v, []) from rfl)
  have hsz : Maps.size (D.put lx (.held v)) = if (f x).isSome then s else s + 1 := by rw [Maps.size_put (h1.tidy K.law), (h3 x lx hl).1, h2]
  refine ⟨w', hr, ⟨_, by rw [← hsz]; exact own_tightV ho, hsz, fun y l hy => ?_⟩, keeps_turned ht⟩
  by_cases hyx : y = x
  · subst hyx
    obtain rfl : lx = l := by rw [hl] at hy; exact Option.some.inj hy
    rw [setV_same]
    exact ⟨Maps.has_put_same h1.isMap (K.law.key hl) _, fun j hj z => by rw [Maps.atKey_put_same h1.isMap (K.law.key hl)]; simp at hj; rw [hj]⟩
  · rw [setV_other f _ hyx, Maps.has_put_other (K.lit_ne hy hl hyx)]
    exact ⟨(h3 y l hy).1, fun j hj z => by rw [Maps.atKey_put_other (K.lit_ne hy hl hyx)]; exact (h3 y l hy).2 j hj z⟩
theorem MapV.del [DecidableEq κ] (h : MapV K w m s f) {t e : TypeId} (ht : Tryz.prog.underlying t = some (.map k e)) {x : κ} (hx : K.wf x) (ty : TypeId) :
    ∃ w', (Builtin.delete_ #[t, k] ty #[.map (some m), K.val x]).run Tryz.prog w = .ok (.tuple #[]) w' ∧ MapV K w' m (if (f x).isSome then s - 1 else s) (setV f x none) ∧ Keeps (· = m) w w' := by
  obtain ⟨D, h1, h2, h3⟩ := h
  obtain ⟨lx, hl⟩ := K.of x hx
  obtain ⟨w', hr, ho, ht⟩ := h1.drop K.law ht hl ty
  have hsz : Maps.size (D.del lx) = if (f x).isSome then s - 1 else s := by
    have := Maps.size_del (k := lx) (h1.tidy K.law)
    rw [(h3 x lx hl).1, h2] at this
    split <;> simp_all <;> omega
  refine ⟨w', hr, ⟨_, by rw [← hsz]; exact own_tightV ho, hsz, fun y l hy => ?_⟩, keeps_turned ht⟩
  by_cases hyx : y = x
  · subst hyx
    obtain rfl : lx = l := by rw [hl] at hy; exact Option.some.inj hy
    rw [setV_same]
    exact ⟨Maps.has_del_same, fun j hj => by simp at hj⟩
  · rw [setV_other f _ hyx, Maps.has_del_other (K.lit_ne hy hl hyx)]
    exact ⟨(h3 y l hy).1, fun j hj z => by rw [Maps.atKey_del_other (K.lit_ne hy hl hyx)]; exact (h3 y l hy).2 j hj z⟩
/-- the same map in another block. -/
theorem MapV.copied {w' : World} {m' : Nat} (h : MapV K w m s f) (hb : w'.heap[m']? = w.heap[m]?) : MapV K w' m' s f := by
  obtain ⟨D, ⟨es, clock, hg, F, hs, hD⟩, h2, h3⟩ := h
  exact ⟨D, ⟨es, clock, hb.trans hg, F, hs, hD⟩, h2, h3⟩

/-- a map is gone through: these keys have come. -/
def RangeV (K : KK k κ) (w : World) (m r s : Nat) (f : κ → Option Value) (vs : List κ) (cnt : Nat) : Prop :=
  ∃ (D : DataW Value) (left : Lit → Bool), w.ranges Tryz.prog k rv m r s D left cnt ∧ Maps.size D = s ∧ Says K D f ∧ vs.Nodup ∧ (∀ x ∈ vs, K.wf x ∧ (f x).isSome = true) ∧ ∀ x l, keyOf Tryz.prog k (K.val x) = some l → (left l = true ↔ (f x).isSome = true ∧ x ∉ vs)
theorem RangeV.map {r cnt : Nat} {vs : List κ} (h : RangeV K w m r s f vs cnt) : MapV K w m s f := by
  obtain ⟨D, left, h1, h2, h3, -⟩ := h
  exact ⟨D, h1.owns, h2, h3⟩
theorem RangeV.left_eq {r cnt : Nat} {vs : List κ} (h : RangeV K w m r s f vs cnt) : w.rangeLeft m r = cnt := by
  obtain ⟨D, left, h1, -⟩ := h
  exact h1.left_eq
theorem RangeV.keeps {S : Nat → Prop} {w' : World} {r cnt : Nat} {vs : List κ} (h : RangeV K w m r s f vs cnt) (hk : Keeps S w w') (hm : ¬ S m) (hr : ¬ S r) : RangeV K w' m r s f vs cnt := by
  obtain ⟨D, left, ⟨es, clock, since, seen, c0, hb, F, hs, hD, hi, hrest⟩, h2⟩ := h
  exact ⟨D, left, ⟨es, clock, since, seen, c0, hk.obj hb hm, F, hs, hD, hk.obj hi hr, hrest⟩, h2⟩
theorem RangeV.lt {r cnt : Nat} {vs : List κ} (h : RangeV K w m r s f vs cnt) : r < w.heap.size := by
  obtain ⟨D, left, h1, -⟩ := h
  exact h1.lt
theorem RangeV.iter {r cnt : Nat} {vs : List κ} (h : RangeV K w m r s f vs cnt) : ∃ since seen c0, w.heap[r]? = some (.mapIter (some m) since seen c0) := by
  obtain ⟨D, left, ⟨es, clock, since, seen, c0, hb, F, hs, hD, hi, hrest⟩, -⟩ := h
  exact ⟨_, _, _, hi⟩
theorem keeps_grown {w w' : World} {row : Option Nat} (hg : w.grownBy w' row) : Keeps (fun k => some k = row) w w' :=
  ⟨hg.os, hg.tape, hg.output, hg.size, fun k hk hn => hg.block k hk hn⟩
theorem MapV.range (h : MapV K w m s f) {t e : TypeId} (ht : Tryz.prog.underlying t = some (.map k e)) :
    ∃ w', (Instr.range t (.map (some m))).run Tryz.prog w = .ok (.pointer (some ⟨w.heap.size, 0, none⟩)) w' ∧ RangeV K w' m w.heap.size s f [] s ∧ w.grownBy w' none := by
  obtain ⟨D, h1, h2, h3⟩ := h
  obtain ⟨w', hr, hg, hw, -⟩ := h1.range K.law ht
  rw [h2] at hg
  exact ⟨w', hr, ⟨D, _, hg, h2, h3, by simp, by simp, fun x l hl => by rw [(h3 x l hl).1]; simp⟩, hw⟩
theorem RangeV.next {r cnt : Nat} {vs : List κ} (h : RangeV K w m r s f vs cnt) (ty : TypeId) :
    ((∀ x, K.wf x → ((f x).isSome = true ↔ x ∈ vs)) ∧ (Instr.next (.pointer (some ⟨r, 0, none⟩)) false ty).run Tryz.prog w = .ok (.tuple #[.bool false]) w) ∨
    ∃ x v w' cnt', K.wf x ∧ f x = some v ∧ x ∉ vs ∧ (Instr.next (.pointer (some ⟨r, 0, none⟩)) false ty).run Tryz.prog w = .ok (.tuple #[.bool true, K.val x, v]) w' ∧
      RangeV K w' m r s f (vs ++ [x]) cnt' ∧ cnt' < cnt ∧ w.grownBy w' (some r) ∧ w'.heap.size = w.heap.size ∧ (Instr.entry (.pointer (some ⟨r, 0, none⟩))).run Tryz.prog w' = .ok (.tuple #[K.val x, v]) w' := by
  obtain ⟨D, left, h1, h2, h3, h4, h5, h6⟩ := h
  rcases h1.next K.law ty with ⟨-, hl, hrun⟩ | ⟨key, v, kl, y, w', cnt', hkey, hlk, hv, hat, hrun, hrg, hlt, hgr, hsz, hen⟩
  · refine .inl ⟨fun x hx => ⟨fun hf => ?_, fun hm => (h5 x hm).2⟩, hrun⟩
    by_cases hm : x ∈ vs
    · exact hm
    · obtain ⟨l, hl2⟩ := K.of x hx
      have := (h6 x l hl2).2 ⟨hf, hm⟩
      rw [hl] at this
      simp at this
  · obtain ⟨x, rfl, hx⟩ := K.inv key kl hkey
    obtain ⟨h7, h8⟩ := (h6 x kl hkey).1 hlk
    simp only [rv, Option.some.injEq] at hv
    obtain ⟨u, hu⟩ := Option.isSome_iff_exists.1 h7
    obtain rfl : v = u := by
      have h9 := (hat (.nil)).symm.trans ((h3 x kl hkey).2 u hu .nil)
      rw [← hv] at h9
      simpa using h9
    refine .inr ⟨x, v, w', cnt', hx, hu, h8, hrun, ⟨D, _, hrg, h2, h3, ?_, ?_, ?_⟩, hlt, hgr, hsz, hen⟩
    · rw [List.nodup_append]
      exact ⟨h4, by simp, fun a ha b hb => by simp at hb; subst hb; exact fun e => h8 (e ▸ ha)⟩
    · intro a ha
      rcases List.mem_append.1 ha with ha | ha
      · exact h5 a ha
      · simp at ha; subst ha; exact ⟨hx, h7⟩
    · intro a l hax
      simp only [Bool.and_eq_true, Bool.not_eq_true', h6 a l hax, List.mem_append, List.mem_singleton, not_or]
      constructor
      · rintro ⟨⟨g1, g2⟩, g3⟩
        refine ⟨g1, g2, fun e => ?_⟩
        subst e
        obtain rfl : kl = l := by rw [hkey] at hax; exact Option.some.inj hax
        rw [WideAt.sameKey_self (K.law.key hkey)] at g3
        simp at g3
      · rintro ⟨g1, g2, g3⟩
        refine ⟨⟨g1, g2⟩, ?_⟩
        cases hs : l.sameKey kl
        · rfl
        · exact absurd (K.lit_inj hax ((WideAt.sameKey_eq hs).symm ▸ hkey)) g3
end
end Go.Proofs.YtkimkghldilliaaGreat
