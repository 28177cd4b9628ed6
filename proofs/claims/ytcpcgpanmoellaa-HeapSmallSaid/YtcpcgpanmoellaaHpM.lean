/-
  A map from names to places, as a function.
-/
import Derived.Test.YtcpcgpanmoellaaHpL
import Derived.Test.YtcpcgpanmoellaaKeep
import Derived.Maps.OwnSet
namespace Go.Proofs.Ytcpcgpanmoellaa
open Go.RowKit Go.Lib Go.Maps

theorem int_law : Keyed Try.prog 3 := int_keyed Try.underlying3
abbrev kx (x : Int) : Lit := .int .i64 x
theorem kx_key {x : Int} : WideAt.IsKeyLit (kx x) := by simp [WideAt.IsKeyLit]
theorem kx_of {x : Int} (h : (kx x).wf = true) : keyOf Try.prog 3 (.int .i64 x) = some (kx x) := keyOf_int_mk Try.underlying3 h
def MapFn (w : World) (m s : Nat) (f : Int → Option Nat) : Prop := ∃ D : DataW Unit, w.ownsMap Try.prog 3 (plainElem Try.prog 3) m s D ∧ Maps.size D = s ∧
  ∀ x, (kx x).wf = true → Maps.has D (kx x) = (f x).isSome ∧ ∀ i, f x = some i → D.atKey (kx x) (.lit (kx 0)) = .lit (kx i)
theorem own_tight {H : Type} {w : World} {P : Program} {k : TypeId} {R : Value → Option (DataW H × List MemPlace)} {b n : Nat} {D : DataW H} (h : w.ownsMap P k R b n D) : w.ownsMap P k R b (Maps.size D) D := by
  obtain ⟨es, clock, hb, F, hs, rfl⟩ := h
  exact ⟨es, clock, hb, F, by simp [Maps.size, length_sorted], rfl⟩
theorem MapFn.lt {w : World} {m s : Nat} {f : Int → Option Nat} (h : MapFn w m s f) : m < w.heap.size := by obtain ⟨D, h, -⟩ := h; exact h.lt
theorem MapFn.keeps {S : Nat → Prop} {w w' : World} {m s : Nat} {f : Int → Option Nat} (h : MapFn w m s f) (hk : Keeps S w w') (hn : ¬ S m) : MapFn w' m s f := by
  obtain ⟨D, ⟨es, clock, hb, F, hs, hD⟩, h2, h3⟩ := h
  exact ⟨D, ⟨es, clock, hk.obj hb hn, F, hs, hD⟩, h2, h3⟩
theorem MapFn.ext {w : World} {m s : Nat} {f g : Int → Option Nat} (h : MapFn w m s f) (he : ∀ x, (kx x).wf = true → f x = g x) : MapFn w m s g := by
  obtain ⟨D, h1, h2, h3⟩ := h
  exact ⟨D, h1, h2, fun x hx => by rw [← he x hx]; exact h3 x hx⟩
def setF (f : Int → Option Nat) (x : Int) (o : Option Nat) : Int → Option Nat := fun y => if y = x then o else f y
theorem kx_ne {x y : Int} (h : y ≠ x) : kx y ≠ kx x := fun e => h (by simpa using e)
theorem MapFn.made (w : World) : MapFn (w.alloc (.map #[] 0)) w.heap.size 0 (fun _ => none) :=
  ⟨.map [], World.ownsMap_made _ _ _ _, rfl, fun x _ => ⟨rfl, fun i h => by simp at h⟩⟩
theorem MapFn.look {w : World} {m s : Nat} {f : Int → Option Nat} (h : MapFn w m s f) {x : Int} (hx : (kx x).wf = true) :
    ∃ c, (Instr.lookup 59 (.map (some m)) (.int .i64 x) true).run Try.prog w = .ok (.tuple #[.int .i64 c, .bool (f x).isSome]) w ∧ ∀ i : Nat, f x = some i → c = i := by
  obtain ⟨D, h1, h2, h3⟩ := h
  obtain ⟨v, ps, hr, hv⟩ := h1.look_ok int_law Try.underlying59 (z := .int .i64 0) (by kernel_rfl) (plainElem_int Try.underlying3 rfl) (kx_of hx)
  obtain ⟨c, rfl, hc, -⟩ := plainElem_int_inv Try.underlying3 hv
  rw [(h3 x hx).1] at hr
  refine ⟨c, hr, fun i hi => ?_⟩
  simp only [Prod.mk.injEq] at hc
  have := (h3 x hx).2 i hi
  rw [hc.1] at this
  simpa using this
theorem MapFn.put {w : World} {m s : Nat} {f : Int → Option Nat} (h : MapFn w m s f) (hs : s < 1000000) {x : Int} (hx : (kx x).wf = true) {i : Nat} (hi : i < 1000000) :
    ∃ w', (Instr.mapUpdate 59 (.map (some m)) (.int .i64 x) (.int .i64 i)).run Try.prog w = .ok () w' ∧ MapFn w' m (if (f x).isSome then s else s + 1) (setF f x (some i)) ∧ Keeps (· = m) w w' := by
  obtain ⟨D, h1, h2, h3⟩ := h
  have hiw : (Lit.int .i64 (i : Int)).wf = true := by simp [Lit.wf, IntKind.min, IntKind.max, IntKind.signed, IntKind.bits]; omega
  obtain ⟨w', hr, ho, ht⟩ := h1.store int_law Try.underlying59 (by unfold maxLen; omega) (kx_of hx) (plainElem_int Try.underlying3 hiw)
  have hsz : Maps.size (D.put (kx x) (.lit (kx i))) = if (f x).isSome then s else s + 1 := by rw [Maps.size_put (h1.tidy int_law), (h3 x hx).1, h2]
  refine ⟨w', hr, ⟨_, by rw [← hsz]; exact own_tight ho, hsz, fun y hy => ?_⟩, ⟨ht.grown.os, ht.grown.tape, ht.grown.output, ht.grown.size, fun k hk hn => ht.grown.block k hk (by simp; omega)⟩⟩
  unfold setF
  by_cases hyx : y = x
  · subst hyx
    rw [if_pos rfl]
    exact ⟨Maps.has_put_same h1.isMap kx_key _, fun j hj => by rw [Maps.atKey_put_same h1.isMap kx_key]; simp at hj; rw [hj]⟩
  · rw [if_neg hyx, Maps.has_put_other (kx_ne hyx)]
    exact ⟨(h3 y hy).1, fun j hj => by rw [Maps.atKey_put_other (kx_ne hyx)]; exact (h3 y hy).2 j hj⟩
theorem MapFn.del {w : World} {m s : Nat} {f : Int → Option Nat} (h : MapFn w m s f) {x : Int} (hx : (kx x).wf = true) (ty : TypeId) :
    ∃ w', (Builtin.delete_ #[59, 3] ty #[.map (some m), .int .i64 x]).run Try.prog w = .ok (.tuple #[]) w' ∧ MapFn w' m (if (f x).isSome then s - 1 else s) (setF f x none) ∧ Keeps (· = m) w w' := by
  obtain ⟨D, h1, h2, h3⟩ := h
  obtain ⟨w', hr, ho, ht⟩ := h1.drop int_law Try.underlying59 (kx_of hx) ty
  have hsz : Maps.size (D.del (kx x)) = if (f x).isSome then s - 1 else s := by
    have := Maps.size_del (k := kx x) (h1.tidy int_law)
    rw [(h3 x hx).1, h2] at this
    split <;> simp_all <;> omega
  refine ⟨w', hr, ⟨_, by rw [← hsz]; exact own_tight ho, hsz, fun y hy => ?_⟩, ⟨ht.grown.os, ht.grown.tape, ht.grown.output, ht.grown.size, fun k hk hn => ht.grown.block k hk (by simp; omega)⟩⟩
  unfold setF
  by_cases hyx : y = x
  · subst hyx
    rw [if_pos rfl]
    exact ⟨Maps.has_del_same, fun j hj => by simp at hj⟩
  · rw [if_neg hyx, Maps.has_del_other (kx_ne hyx)]
    exact ⟨(h3 y hy).1, fun j hj => by rw [Maps.atKey_del_other (kx_ne hyx)]; exact (h3 y hy).2 j hj⟩
end Go.Proofs.Ytcpcgpanmoellaa
