/-
  What was dropped never comes: the walk.
-/
import Derived.Test.YtcpcgpanmoellaaHrI
import Derived.Test.YtcpcgpanmoellaaOpnI
namespace Go.Proofs.Ytcpcgpanmoellaa
open Go.RowKit Go.Lib

/-- while keys are put. -/
structure DrA (B q : Nat) (w wr : World) (ks : List Int) (k : Nat) : Prop where
  qu : Qu B wr q k (mkM ks k)
  bel : Below w.heap.size w wr
/-- while things are taken. -/
structure DrB (B q lb : Nat) (w wr : World) (ks : List Int) (a b : Nat) (tk : Int) (k : Nat) (lk ln : Int) : Prop where
  ex : ∃ M, Qu B wr q ks.length M ∧ DropP ks a b ks.length tk k M lk ln
  last : wr.heap[lb]? = some (.cells #[.int .i64 lk, .int .i64 ln] 30 (0, 0))
  bel : Below w.heap.size w wr
  lb : w.heap.size ≤ lb
theorem DrA.next {B q : Nat} {w wr w1 w2 : World} {ks : List Int} {k : Nat} (h : DrA B q w wr ks k) (h1 : Below wr.heap.size wr w1) (hB : B = w.heap.size) (hq : Qu B w2 q (k + 1) (mkM ks k ++ [⟨ks.getD k 0, k, k⟩])) (hk : KeepQ B q w1 w2) : DrA B q w w2 ks (k + 1) := by
  subst hB
  have hb := h.bel.trans (h1.mono h.bel.size)
  exact ⟨by rw [mkM_succ]; exact_mod_cast hq, hb.trans (hk.below hb.size hq.base)⟩
set_option maxRecDepth 100000 in
set_option maxHeartbeats 4000000 in
theorem drops_puts (w wr : World) (ks : List Int) (k q b : Nat) (hl : ks.length ≤ 300) (hk : k < ks.length) (h : DrA w.heap.size q w wr ks k) (hx : wr.heap[b]? = some (.cells #[.int .i64 (ks.getD k 0), .int .i64 k] 30 (0, 0))) :
    Calls Try.prog 9 #[.pointer (some ⟨q, 0, none⟩), .slice (some ⟨b, 0, none⟩) 1 1] wr fun en w' => en = .returned (.int .i64 0) ∧ DrA w.heap.size q w w' ks (k + 1) := by
  refine (quPut1 wr h.qu hx (kx_small (by omega) (by omega)) (by rw [mkM_len]; omega) (by omega) (by rw [mkM_has]; simp)).mono ?_
  rintro en w1 ⟨rfl, hq, hk⟩
  exact ⟨rfl, h.next (Below.refl _ _) rfl hq hk⟩
theorem DrA.later {B q : Nat} {w wr w1 : World} {ks : List Int} {k : Nat} (h : DrA B q w wr ks k) (h1 : Below wr.heap.size wr w1) : DrA B q w w1 ks k := ⟨h.qu.later h1, h.bel.trans (h1.mono h.bel.size)⟩
theorem new_quiet [Watch] {base : Nat} (w : World) (hb : base ≤ w.heap.size) (hlm : Watch.lim ≤ w.heap.size) :
    Calls Try.prog 8 #[.slice none 0 0] w fun en w' => ∃ q, en = .returned (.tuple #[.pointer (some ⟨q, 0, none⟩), .int .i64 0]) ∧ w.heap.size ≤ q ∧ Qu base w' q 0 [] ∧ Below w.heap.size w w' :=
  quNew (l := []) w hb hlm ⟨none, 0, 0, 0, rfl, fun h => by simp at h, fun i hi => by simp at hi⟩ (by simp) (by simp) rfl
end Go.Proofs.Ytcpcgpanmoellaa
