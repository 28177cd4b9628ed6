/-
  gram: what each kind wants; whether a node is right.
-/
import Derived.Test.YtkimkghldilliaaGreatGrC
import Derived.Test.YtkimkghldilliaaGreatMaA
namespace Go.Proofs.YtkimkghldilliaaGreat
open Go.RowKit Go.Lib Go.Maps

def WI (n : Int) : Prop := (Lit.int .i64 n).wf = true
def kindK : KK 55 Int where
  law := int_keyed Tryz.underlying55
  val := fun n => .int .i64 n
  wf := WI
  of := fun n h => ⟨_, keyOf_int_mk Tryz.underlying55 h⟩
  inj := fun a b h => by simpa using h
  inv := fun v l h => by
    obtain ⟨x, rfl, -, hx⟩ := Maps.keyOf_int_inv Tryz.underlying55 h
    exact ⟨x, rfl, hx⟩
/-- the function that a kind wants. -/
def wantF (k : Int) : Option FuncId :=
  if k = 1 ∨ k = 2 then some 149 else if k = 3 then some 150 else if k = 4 then some 151 else if k = 5 then some 152 else if k = 6 ∨ k = 7 then some 153 else if 8 ≤ k ∧ k ≤ 12 then some 154 else none
def fnv (f : FuncId) : Value := .func (.func f) #[] #[]
theorem put_kind {w : World} {m s : Nat} {f : Int → Option Value} (h : MapV kindK w m s f) (hs : s < 1000000) (x : Int) (hx : WI x) (v : Value) (hf : f x = none) :
    ∃ w', (Instr.mapUpdate 212 (.map (some m)) (.int .i64 x) v).run Tryz.prog w = .ok () w' ∧ MapV kindK w' m (s + 1) (setV f x (some v)) ∧ Keeps (· = m) w w' := by
  have := h.put Tryz.underlying212 hs (x := x) hx v
  rw [hf] at this
  exact this
theorem w64_lit (n : Int) (h : 0 ≤ n) (h2 : n ≤ 100) : WI n := by
  unfold WI
  simp [Lit.wf, IntKind.min, IntKind.max, IntKind.signed, IntKind.bits]
  omega
set_option maxRecDepth 100000 in
set_option maxHeartbeats 2000000 in
theorem wants_any (w : World) : Calls Tryz.prog 120 #[] w fun e w' => (∃ m, e = .returned (.map (some m)) ∧ MapV kindK w' m 12 (fun k => (wantF k).map fnv)) ∧ Below w.heap.size w w' := by
  have hmm := @run_makeMap Tryz.prog
  have h0 := MapV.made kindK w
  obtain ⟨w1, r1, h1, k1⟩ := put_kind h0 (by omega) 1 (w64_lit _ (by omega) (by omega)) (fnv 149) (by simp [setV])
  obtain ⟨w2, r2, h2, k2⟩ := put_kind h1 (by omega) 2 (w64_lit _ (by omega) (by omega)) (fnv 149) (by simp [setV])
  obtain ⟨w3, r3, h3, k3⟩ := put_kind h2 (by omega) 3 (w64_lit _ (by omega) (by omega)) (fnv 150) (by simp [setV])
  obtain ⟨w4, r4, h4, k4⟩ := put_kind h3 (by omega) 4 (w64_lit _ (by omega) (by omega)) (fnv 151) (by simp [setV])
  obtain ⟨w5, r5, h5, k5⟩ := put_kind h4 (by omega) 5 (w64_lit _ (by omega) (by omega)) (fnv 152) (by simp [setV])
  obtain ⟨w6, r6, h6, k6⟩ := put_kind h5 (by omega) 6 (w64_lit _ (by omega) (by omega)) (fnv 153) (by simp [setV])
  obtain ⟨w7, r7, h7, k7⟩ := put_kind h6 (by omega) 7 (w64_lit _ (by omega) (by omega)) (fnv 153) (by simp [setV])
  obtain ⟨w8, r8, h8, k8⟩ := put_kind h7 (by omega) 8 (w64_lit _ (by omega) (by omega)) (fnv 154) (by simp [setV])
  obtain ⟨w9, r9, h9, k9⟩ := put_kind h8 (by omega) 9 (w64_lit _ (by omega) (by omega)) (fnv 154) (by simp [setV])
  obtain ⟨w10, r10, h10, k10⟩ := put_kind h9 (by omega) 10 (w64_lit _ (by omega) (by omega)) (fnv 154) (by simp [setV])
  obtain ⟨w11, r11, h11, k11⟩ := put_kind h10 (by omega) 11 (w64_lit _ (by omega) (by omega)) (fnv 154) (by simp [setV])
  obtain ⟨w12, r12, h12, k12⟩ := put_kind h11 (by omega) 12 (w64_lit _ (by omega) (by omega)) (fnv 154) (by simp [setV])
  have kk := (((((((((((k1.trans k2).trans k3).trans k4).trans k5).trans k6).trans k7).trans k8).trans k9).trans k10).trans k11).trans k12)
  have hb : Below w.heap.size w w12 := ((Below.refl _ _).alloc (Nat.le_refl _) _).trans (Keeps.below kk (by simp) (fun k h => Nat.le_of_eq h.symm))
  have hm : MapV kindK w12 w.heap.size 12 (fun k => (wantF k).map fnv) := h12.ext (fun x _ => by
    unfold wantF setV
    repeat' split
    all_goals first | rfl | (exfalso; omega) | (subst_vars; simp at *) | (simp_all; omega))
  have HE := Lib.hid (And.intro hb hm)
  clear h0 kk hb hm h1 k1 h2 k2 h3 k3 h4 k4 h5 k5 h6 k6 h7 k7 h8 k8 h9 k9 h10 k10 h11 k11 h12 k12
  unfold fnv at r1 r2 r3 r4 r5 r6 r7 r8 r9 r10 r11 r12
  go_enter Tryz.func120, Tryz.ntmps120
  go_wp2
  go_ret
  exact ⟨⟨_, rfl, HE.out.2⟩, HE.out.1⟩
end Go.Proofs.YtkimkghldilliaaGreat
