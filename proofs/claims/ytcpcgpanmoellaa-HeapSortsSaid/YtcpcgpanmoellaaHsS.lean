/-
  slices.SortFunc at things.
-/
import Derived.Test.YtcpcgpanmoellaaHsD
import Derived.Test.YtcpcgpanmoellaaShS
namespace Go.Proofs.Ytcpcgpanmoellaa
open Go.RowKit Go.Lib Go.Sort Go.Shelf

theorem sort_none (ao : Option Addr) (cap : Nat) (fv : Value) (w : World) :
    Calls Try.prog 47 #[.slice ao 0 cap, fv] w fun e w' => e = .returned (.tuple #[]) ∧ w' = w := by
  have h := AnyF.slices_SortFunc_none Try.sortE ao cap fv w
  change Calls Try.prog 47 _ _ _ at h
  exact h
theorem sort_own {base : Nat} {v : Value} {L : List En} (w : World) (hle : L.length ≤ 100000) (h : w.ownsRow base 67 3 v L.length (L.flatMap enc)) :
    Calls Try.prog 47 #[v, .func (.func 34) #[] #[]] w fun e w' => e = .returned (.tuple #[]) ∧
      ∃ S : List En, S.Perm L ∧ S.Pairwise En.le ∧ w'.ownsRow base 67 3 v L.length (S.flatMap enc) ∧ Keeps (fun k => base ≤ k) w w' := by
  by_cases h0 : 0 < L.length
  · obtain ⟨g, cap, rfl⟩ := own_shape h h0
    have hbg : base ≤ g := (h.lt g rfl).1
    have hgl : g < w.heap.size := (h.lt g rfl).2
    have eg : ∀ args w, (callFunc 34 args).run Try.prog w = .ok (.enter 34 args) w := enters_of Try.func34 (by kernel_rfl) rfl
    have hcon := AnyQ.slices_SortFunc Try.sortE 3 Try.isAgg67 Try.sizeOf67 enc enc_len enc_one cmpE swoE 34 #[] g 0 cap L.toArray w eg (cmpLaysE g 0 L.toArray.size w) (holds_own h) hgl (by simp; omega)
    change Calls Try.prog 47 _ _ _ at hcon
    have hsz : L.toArray.size = L.length := by simp
    rw [hsz] at hcon
    refine hcon.mono ?_
    rintro e w' ⟨he, d, m, os, hp, hs, rfl⟩
    have hd : d.size = L.length := by rw [hp.1]; simp
    obtain ⟨ho, hk⟩ := own_sorted (m := m) (os := os) h hd
    refine ⟨he, d.toList, ?_, ?_, ho, Keeps.mono hk fun k _ e => by subst e; exact hbg⟩
    · have h1 := hp.2.2
      have e1 : d.extract 0 L.length = d := by rw [← hd]; simp
      have e2 : L.toArray.extract 0 L.length = L.toArray := by rw [← hsz]; simp
      rw [e1, e2] at h1
      simpa using h1
    · rw [List.pairwise_iff_getElem]
      intro i j hi hj hij
      have hi' : i < d.size := by simpa using hi
      have hj' : j < d.size := by simpa using hj
      have h1 := hs i j (Nat.zero_le _) hij (by omega)
      rw [ltE, decide_eq_false_iff_not, getElem!_pos d i hi', getElem!_pos d j hj'] at h1
      exact h1
  · have : L = [] := List.eq_nil_of_length_eq_zero (by omega)
    subst this
    obtain ⟨ao, cap, rfl⟩ := own_val h
    refine (sort_none ao cap _ w).mono ?_
    rintro e w' ⟨he, rfl⟩
    exact ⟨he, [], List.Perm.refl _, List.Pairwise.nil, h, Keeps.refl _ _⟩
end Go.Proofs.Ytcpcgpanmoellaa
