/-
  ArenaSets: two arenas beside each other, and the boxes of the walk.
-/
import Derived.Test.YtonnolhhgeekpaaAll
import Derived.Test.YtonnolhhgeekpaaD
namespace Go.Proofs.Ytonnolhhgeekpaa
open Go.RowKit

theorem IAr.base {B B' : Nat} {w : World} {x : Nat} {v : Value} {xs : List Value} {most peak : Nat} (h : IAr B w x v xs most peak) (hB : B' ≤ B) : IAr B' w x v xs most peak := ⟨h.1, ownsRow_base h.2.1 hB, h.2.2⟩
theorem IAr.own_lt {B : Nat} {w : World} {x : Nat} {v : Value} {xs : List Value} {most peak : Nat} (h : IAr B w x v xs most peak) : ∀ k, v.ownBlock = some k → k < w.heap.size := fun k hk => (h.2.1.lt k hk).2
/-- the boxes of the walk. -/
structure BW (w0 : World) (v0 : Value) (xx : Int) (w : World) : Prop where
  pA : w.heap[w0.heap.size]? = some (.cells #[v0] 22 (0, 0))
  pX : w.heap[w0.heap.size + 1]? = some (.cells #[.int .i64 xx] 3 (0, 0))
  pR : w.heap[w0.heap.size + 2]? = some (.cells #[.bool false] 4 (0, 0))
  bel : Below w0.heap.size w0 w
theorem BW.sz {w0 : World} {v0 : Value} {xx : Int} {w : World} (h : BW w0 v0 xx w) : w0.heap.size + 3 ≤ w.heap.size := by have := lt_of_block h.pR; omega
theorem BW.keeps {w0 : World} {v0 : Value} {xx : Int} {w w' : World} (h : BW w0 v0 xx w) (hb : Below (w0.heap.size + 3) w w') : BW w0 v0 xx w' :=
  ⟨(hb.block _ (by omega)).trans h.pA, (hb.block _ (by omega)).trans h.pX, (hb.block _ (by omega)).trans h.pR, h.bel.trans (hb.mono (by omega))⟩
theorem BW.later {w0 : World} {v0 : Value} {xx : Int} {w w' : World} (h : BW w0 v0 xx w) (hb : Below w.heap.size w w') : BW w0 v0 xx w' := h.keeps (hb.mono h.sz)

/-- two arenas, and b's box. -/
structure TW (w0 : World) (v0 : Value) (xx : Int) (xa xb PB : Nat) (za zb : List Int) (ma mb : Nat) (w : World) : Prop where
  bw : BW w0 v0 xx w
  pP : w.heap[PB]? = some (.cells #[.pointer (some ⟨xb, 0, none⟩)] 24 (0, 0))
  two : ∃ va vb pa pb, IAr (w0.heap.size + 3) w xa va (iv za) ma pa ∧ IAr (w0.heap.size + 3) w xb vb (iv zb) mb pb ∧ ∀ k, va.ownBlock = some k → vb.ownBlock ≠ some k
  ne : xa ≠ xb
  la : w0.heap.size + 3 ≤ xa
  lb : w0.heap.size + 3 ≤ xb
theorem TW.later {w0 : World} {v0 : Value} {xx : Int} {xa xb PB : Nat} {za zb : List Int} {ma mb : Nat} {w w' : World} (h : TW w0 v0 xx xa xb PB za zb ma mb w) (hb : Below w.heap.size w w') : TW w0 v0 xx xa xb PB za zb ma mb w' := by
  obtain ⟨va, vb, pa, pb, h1, h2, h3⟩ := h.two
  exact ⟨h.bw.later hb, (hb.block _ (lt_of_block h.pP)).trans h.pP, ⟨va, vb, pa, pb, h1.later hb, h2.later hb, h3⟩, h.ne, h.la, h.lb⟩
theorem TW.alloc {w0 : World} {v0 : Value} {xx : Int} {xa xb PB : Nat} {za zb : List Int} {ma mb : Nat} {w : World} (h : TW w0 v0 xx xa xb PB za zb ma mb w) (o : Obj) : TW w0 v0 xx xa xb PB za zb ma mb (w.alloc o) := h.later ((Below.refl _ _).alloc (Nat.le_refl _) _)
theorem IAr.ne_block {B : Nat} {w : World} {x : Nat} {v : Value} {xs : List Value} {most peak : Nat} (h : IAr B w x v xs most peak) {k : Nat} {cs : Array Value} {t : TypeId} {f : Nat × Nat} (hk : w.heap[k]? = some (.cells cs t f)) (h1 : t ≠ 61) (h2 : t ≠ 3) : k ≠ x ∧ v.ownBlock ≠ some k :=
  ⟨fun e => by subst e; rw [h.1] at hk; simp at hk; exact h1 hk.2.1.symm, own_ne' hk h2 h.2.1⟩
theorem IAr.own_ne {B B' : Nat} {w : World} {x y : Nat} {v u : Value} {xs ys : List Value} {m p m' p' : Nat} (h : IAr B w x v xs m p) (k : IAr B' w y u ys m' p') : v.ownBlock ≠ some y := own_ne' k.1 (by decide) h.2.1

/-- things are put into b. -/
theorem tw_put_b {w0 : World} {v0 : Value} {xx : Int} {xa xb PB : Nat} {za zb ys : List Int} {ma mb : Nat} (w : World) {vl : Value} (h : TW w0 v0 xx xa xb PB za zb ma mb w) (hy : CellsAt w vl (iv ys)) (hf : zb.length + ys.length ≤ mb) (hl : zb.length + ys.length ≤ 1000000) :
    Calls Try.prog 9 #[.pointer (some ⟨xb, 0, none⟩), vl] w fun e w' => e = .returned (.tuple #[.int .i64 zb.length, .int .i64 0]) ∧ TW w0 v0 xx xa xb PB za (zb ++ ys) ma mb w' := by
  obtain ⟨va, vb, pa, pb, h1, h2, h3⟩ := h.two
  refine (Iput w h2 hy (by simpa [iv] using hf) (by simpa [iv] using hl) h.bw.sz).mono ?_
  rintro e w' ⟨rfl, v', ha, hk, hv⟩
  have hbel : Below (w0.heap.size + 3) w w' := hk.below h.bw.sz (fun k hk => by rcases hk with rfl | hk; exact h.lb; exact (h2.2.1.lt k hk).1)
  have hpp := h2.ne_block h.pP (by decide) (by decide)
  refine ⟨by simp [iv], h.bw.keeps hbel, hk.obj h.pP (by rintro (e | e); exact hpp.1 e; exact hpp.2 e), ⟨va, v', pa, _, h1.keeps hk ?_ ?_, by simpa [iv] using ha, ?_⟩, h.ne, h.la, h.lb⟩
  · rintro (e | e); exact h.ne e; exact h2.own_ne h1 e
  · intro k hk' h'
    rcases h' with rfl | e
    · exact h1.own_ne h2 hk'
    · exact h3 k hk' e
  · intro k hk' e
    rcases hv k e with e' | e'
    · exact h3 k hk' e'
    · have := h1.own_lt k hk'; omega
/-- things are put into a. -/
theorem tw_put_a {w0 : World} {v0 : Value} {xx : Int} {xa xb PB : Nat} {za zb ys : List Int} {ma mb : Nat} (w : World) {vl : Value} (h : TW w0 v0 xx xa xb PB za zb ma mb w) (hy : CellsAt w vl (iv ys)) (hf : za.length + ys.length ≤ ma) (hl : za.length + ys.length ≤ 1000000) :
    Calls Try.prog 9 #[.pointer (some ⟨xa, 0, none⟩), vl] w fun e w' => e = .returned (.tuple #[.int .i64 za.length, .int .i64 0]) ∧ TW w0 v0 xx xa xb PB (za ++ ys) zb ma mb w' := by
  obtain ⟨va, vb, pa, pb, h1, h2, h3⟩ := h.two
  refine (Iput w h1 hy (by simpa [iv] using hf) (by simpa [iv] using hl) h.bw.sz).mono ?_
  rintro e w' ⟨rfl, v', ha, hk, hv⟩
  have hbel : Below (w0.heap.size + 3) w w' := hk.below h.bw.sz (fun k hk => by rcases hk with rfl | hk; exact h.la; exact (h1.2.1.lt k hk).1)
  have hpp := h1.ne_block h.pP (by decide) (by decide)
  refine ⟨by simp [iv], h.bw.keeps hbel, hk.obj h.pP (by rintro (e | e); exact hpp.1 e; exact hpp.2 e), ⟨v', vb, _, pb, by simpa [iv] using ha, h2.keeps hk ?_ ?_, ?_⟩, h.ne, h.la, h.lb⟩
  · rintro (e | e); exact h.ne e.symm; exact h1.own_ne h2 e
  · intro k hk' h'
    rcases h' with rfl | e
    · exact h2.own_ne h1 hk'
    · exact h3 k e hk'
  · intro k e hk'
    rcases hv k e with e' | e'
    · exact h3 k e' hk'
    · have := h2.own_lt k hk'; omega
/-- a thing of a is set. -/
theorem tw_set_a {w0 : World} {v0 : Value} {xx : Int} {xa xb PB : Nat} {za zb : List Int} {ma mb : Nat} (w : World) (j : Nat) (u : Int) (h : TW w0 v0 xx xa xb PB za zb ma mb w) (hj : j < za.length) :
    Calls Try.prog 22 #[.pointer (some ⟨xa, 0, none⟩), .int .i64 j, .int .i64 u] w fun e w' => e = .returned (.int .i64 0) ∧ TW w0 v0 xx xa xb PB (za.set j u) zb ma mb w' := by
  obtain ⟨va, vb, pa, pb, h1, h2, h3⟩ := h.two
  refine (Iset w j u h1 (by simpa [iv] using hj)).mono ?_
  rintro e w' ⟨rfl, ha, hk⟩
  have hbel : Below (w0.heap.size + 3) w w' := hk.below h.bw.sz (fun k hk => (h1.2.1.lt k hk).1)
  have hpp := h1.ne_block h.pP (by decide) (by decide)
  refine ⟨rfl, h.bw.keeps hbel, hk.obj h.pP hpp.2, ⟨va, vb, _, pb, by simpa [iv, List.map_set] using ha, h2.keeps hk (h1.own_ne h2) (fun k hk' e => h3 k e hk'), h3⟩, h.ne, h.la, h.lb⟩
/-- a thing of a is set, with a box laid ahead. -/
theorem tw_set_box {w0 : World} {v0 : Value} {xx : Int} {xa xb PB : Nat} {za zb : List Int} {ma mb : Nat} (w : World) (j : Nat) (u : Int) (o : Obj) (h : TW w0 v0 xx xa xb PB za zb ma mb w) (hj : j < za.length) :
    Calls Try.prog 22 #[.pointer (some ⟨xa, 0, none⟩), .int .i64 j, .int .i64 u] (w.alloc o) fun e w' => e = .returned (.int .i64 0) ∧ TW w0 v0 xx xa xb PB (za.set j u) zb ma mb w' ∧ w'.heap[w.heap.size]? = some o := by
  have hal := h.alloc o
  obtain ⟨va, vb, pa, pb, h1, h2, h3⟩ := h.two
  have hb : Below w.heap.size w (w.alloc o) := (Below.refl _ _).alloc (Nat.le_refl _) _
  refine (Iset (w.alloc o) j u (h1.later hb) (by simpa [iv] using hj)).mono ?_
  rintro e w' ⟨rfl, ha, hk⟩
  have h1' := h1.later hb
  have h2' := h2.later hb
  have hbel : Below (w0.heap.size + 3) (w.alloc o) w' := hk.below hal.bw.sz (fun k hk => (h1'.2.1.lt k hk).1)
  have hpp := h1'.ne_block hal.pP (by decide) (by decide)
  refine ⟨rfl, ⟨hal.bw.keeps hbel, hk.obj hal.pP hpp.2, ⟨va, vb, _, pb, by simpa [iv, List.map_set] using ha, h2'.keeps hk (h1'.own_ne h2') (fun k hk' e => h3 k e hk'), h3⟩, h.ne, h.la, h.lb⟩, hk.obj (heap_alloc_new w o) (fun e => by have := h1.own_lt _ e; omega)⟩
theorem ownFrom_TW {β : Type} {w0 : World} {v0 : Value} {xx : Int} {xa xb PB : Nat} {za zb : List Int} {ma mb B : Nat} (hB : w0.heap.size ≤ B) : OwnFrom B (fun (_ : β) W => TW w0 v0 xx xa xb PB za zb ma mb W) := fun s A C row h hg hr => by
  have hc : KcX (fun _ => False) A C := (ownFrom_kcX (β := β) (w := A) B s A C row (KcX.refl _ _) hg hr)
  obtain ⟨va, vb, pa, pb, h1, h2, h3⟩ := h.two
  have n : ¬ False := fun h => h
  exact ⟨⟨hc.2 _ _ _ _ n h.bw.pA, hc.2 _ _ _ _ n h.bw.pX, hc.2 _ _ _ _ n h.bw.pR, h.bw.bel.grown hg (by have := h.bw.sz; omega) (fun k e => by have := (hr k e).1; omega)⟩, hc.2 _ _ _ _ n h.pP, ⟨va, vb, pa, pb, h1.keptC hc n (fun _ _ => n), h2.keptC hc n (fun _ _ => n), h3⟩, h.ne, h.la, h.lb⟩
theorem tw_set_out {w0 : World} {v0 : Value} {xx : Int} {xa xb PB : Nat} {za zb : List Int} {ma mb : Nat} (w : World) (j : Nat) (u : Int) (h : TW w0 v0 xx xa xb PB za zb ma mb w) (hj : j = za.length) :
    Calls Try.prog 22 #[.pointer (some ⟨xa, 0, none⟩), .int .i64 j, .int .i64 u] w fun e w' => e = .returned (.int .i64 6) ∧ w = w' := by
  obtain ⟨va, vb, pa, pb, h1, h2, h3⟩ := h.two
  exact Iset_out w j _ h1 (by simp [iv]; omega)
theorem tw_at_b {w0 : World} {v0 : Value} {xx : Int} {xa xb PB : Nat} {za zb : List Int} {ma mb : Nat} (w : World) (k : Nat) (h : TW w0 v0 xx xa xb PB za zb ma mb w) (hk : k < zb.length) :
    Calls Try.prog 16 #[.pointer (some ⟨xb, 0, none⟩), .int .i64 k] w fun e w' => e = .returned (.tuple #[.int .i64 zb[k], .bool true]) ∧ w = w' := by
  obtain ⟨va, vb, pa, pb, h1, h2, h3⟩ := h.two
  have := Iat w (k : Int) h2
  simpa [iv, hk] using this
theorem tw_len_a {w0 : World} {v0 : Value} {xx : Int} {xa xb PB : Nat} {za zb : List Int} {ma mb : Nat} (w : World) (h : TW w0 v0 xx xa xb PB za zb ma mb w) :
    Calls Try.prog 12 #[.pointer (some ⟨xa, 0, none⟩)] w fun e w' => e = .returned (.int .i64 za.length) ∧ w = w' := by
  obtain ⟨va, vb, pa, pb, h1, h2, h3⟩ := h.two
  have := Ilen w h1
  simpa [iv] using this
end Go.Proofs.Ytonnolhhgeekpaa
