/-
  Chapter 05: an arena and the document's, side by side.
-/
import Derived.Test.YtonnolhhgeekpaaDeed5
namespace Go.Proofs.Ytonnolhhgeekpaa
open Go.RowKit

/-- both lie apart, behind what was there; blocks that are kept. -/
structure DC (w0 w : World) (a r : Nat) (va vr : Value) (za zr : List Int) (pa pr most : Nat) (kept : List (Nat × Obj)) : Prop where
  bel : Below w0.heap.size w0 w
  la : w0.heap.size ≤ a
  lr : w0.heap.size ≤ r
  ia : IAr w0.heap.size w a va (iv za) most pa
  ir : RAr w0.heap.size w r vr zr most pr
  ap : ∀ k, va.ownBlock = some k → vr.ownBlock ≠ some k
  kp : ∀ p ∈ kept, w.heap[p.1]? = some p.2 ∧ w0.heap.size ≤ p.1 ∧ p.1 ≠ a ∧ p.1 ≠ r ∧ va.ownBlock ≠ some p.1 ∧ vr.ownBlock ≠ some p.1
def DA (w0 w : World) (a r : Nat) (za zr : List Int) (pa pr most : Nat) (kept : List (Nat × Obj)) : Prop := ∃ va vr, DC w0 w a r va vr za zr pa pr most kept

section
variable {w0 w w' : World} {a r : Nat} {va vr : Value} {za zr : List Int} {pa pr most : Nat} {kept : List (Nat × Obj)}
theorem DC.ne (h : DC w0 w a r va vr za zr pa pr most kept) : a ≠ r := fun e => by
  have h1 := h.ia.1
  rw [e, h.ir.1] at h1
  simp at h1
theorem DC.own_r (h : DC w0 w a r va vr za zr pa pr most kept) : va.ownBlock ≠ some r := own_ne' h.ir.1 (by decide) h.ia.2.1
theorem DC.own_a (h : DC w0 w a r va vr za zr pa pr most kept) : vr.ownBlock ≠ some a := own_ne' h.ia.1 (by decide) h.ir.2.1

theorem DC.later (h : DC w0 w a r va vr za zr pa pr most kept) (hb : Below w.heap.size w w') : DC w0 w' a r va vr za zr pa pr most kept :=
  ⟨h.bel.trans (hb.mono h.bel.size), h.la, h.lr, h.ia.later hb, h.ir.later hb, h.ap, fun p hp => ⟨(hb.block _ (lt_of_block (h.kp p hp).1)).trans (h.kp p hp).1, (h.kp p hp).2⟩⟩
theorem DC.cons (h : DC w0 w a r va vr za zr pa pr most kept) (hb : Below w.heap.size w w') {g : Nat} {o : Obj} (hg : w.heap.size ≤ g) (ho : w'.heap[g]? = some o) : DC w0 w' a r va vr za zr pa pr most ((g, o) :: kept) := by
  have h' := h.later hb
  refine ⟨h'.bel, h'.la, h'.lr, h'.ia, h'.ir, h'.ap, fun p hp => ?_⟩
  rcases List.mem_cons.1 hp with rfl | hp
  · have h1 := lt_of_block h.ia.1
    have h2 := lt_of_block h.ir.1
    refine ⟨ho, Nat.le_trans h.bel.size hg, by show g ≠ a; omega, by show g ≠ r; omega, fun e => ?_, fun e => ?_⟩
    · have := (h.ia.2.1.lt _ e).2; simp only at this; omega
    · have := (h.ir.2.1.lt _ e).2; simp only at this; omega
  · exact h'.kp p hp
theorem DC.aNow {za' : List Int} {pa' : Nat} (h : DC w0 w a r va vr za zr pa pr most kept) (hN : INow w0.heap.size w a va (iv za') most pa' w') : DA w0 w' a r za' zr pa' pr most kept := by
  obtain ⟨v', hi, hk, hf⟩ := hN
  have S1 : ∀ k, k = a ∨ va.ownBlock = some k → w0.heap.size ≤ k := fun k hk => by rcases hk with rfl | e; exact h.la; exact (h.ia.2.1.lt k e).1
  refine ⟨v', vr, h.bel.trans (hk.below h.bel.size S1), h.la, h.lr, hi, h.ir.keeps hk ?_ ?_, ?_, fun p hp => ?_⟩
  · rintro (e | e)
    · exact h.ne e.symm
    · exact h.own_r e
  · rintro k hv (e | e)
    · subst e; exact h.own_a hv
    · exact h.ap k e hv
  · intro k hv e
    rcases hf k hv with h1 | h1
    · exact h.ap k h1 e
    · have := (h.ir.2.1.lt k e).2; omega
  · obtain ⟨h1, h2, h3, h4, h5, h6⟩ := h.kp p hp
    refine ⟨hk.obj h1 (by rintro (e | e); exact h3 e; exact h5 e), h2, h3, h4, fun e => ?_, h6⟩
    rcases hf _ e with h7 | h7
    · exact h5 h7
    · have := lt_of_block h1; omega
theorem DC.rNow {zr' : List Int} {pr' : Nat} (h : DC w0 w a r va vr za zr pa pr most kept) (hN : RNow w0.heap.size w r vr zr' most pr' w') : DA w0 w' a r za zr' pa pr' most kept := by
  obtain ⟨v', hi, hk, hf⟩ := hN
  have S1 : ∀ k, k = r ∨ vr.ownBlock = some k → w0.heap.size ≤ k := fun k hk => by rcases hk with rfl | e; exact h.lr; exact (h.ir.2.1.lt k e).1
  refine ⟨va, v', h.bel.trans (hk.below h.bel.size S1), h.la, h.lr, h.ia.keeps hk ?_ ?_, hi, ?_, fun p hp => ?_⟩
  · rintro (e | e)
    · exact h.ne e
    · exact h.own_a e
  · rintro k hv (e | e)
    · subst e; exact h.own_r hv
    · exact h.ap k hv e
  · intro k hv e
    rcases hf k e with h1 | h1
    · exact h.ap k hv h1
    · have := (h.ia.2.1.lt k hv).2; omega
  · obtain ⟨h1, h2, h3, h4, h5, h6⟩ := h.kp p hp
    refine ⟨hk.obj h1 (by rintro (e | e); exact h4 e; exact h6 e), h2, h3, h4, h5, fun e => ?_⟩
    rcases hf _ e with h7 | h7
    · exact h6 h7
    · have := lt_of_block h1; omega

theorem DA.bel (h : DA w0 w a r za zr pa pr most kept) : Below w0.heap.size w0 w := by obtain ⟨va, vr, h⟩ := h; exact h.bel
theorem DA.later (h : DA w0 w a r za zr pa pr most kept) (hb : Below w.heap.size w w') : DA w0 w' a r za zr pa pr most kept := by obtain ⟨va, vr, h⟩ := h; exact ⟨va, vr, h.later hb⟩
theorem DA.cons (h : DA w0 w a r za zr pa pr most kept) (hb : Below w.heap.size w w') {g : Nat} {o : Obj} (hg : w.heap.size ≤ g) (ho : w'.heap[g]? = some o) : DA w0 w' a r za zr pa pr most ((g, o) :: kept) := by obtain ⟨va, vr, h⟩ := h; exact ⟨va, vr, h.cons hb hg ho⟩
theorem DA.tail {p : Nat × Obj} (h : DA w0 w a r za zr pa pr most (p :: kept)) : DA w0 w a r za zr pa pr most kept := by
  obtain ⟨va, vr, h⟩ := h
  exact ⟨va, vr, h.bel, h.la, h.lr, h.ia, h.ir, h.ap, fun p hp => h.kp p (by simp [hp])⟩
theorem DA.at (h : DA w0 w a r za zr pa pr most kept) {p : Nat × Obj} (hp : p ∈ kept) : w.heap[p.1]? = some p.2 := by obtain ⟨va, vr, h⟩ := h; exact (h.kp p hp).1
theorem DA.len (h : DA w0 w a r za zr pa pr most kept) : za.length ≤ most := by obtain ⟨va, vr, h⟩ := h; simpa [iv] using h.ia.2.2.1
/-- the block that was lent is written over. -/
theorem DA.over {g : Nat} {o : Obj} (h : DA w0 w a r za zr pa pr most ((g, o) :: kept)) (hne : ∀ p ∈ kept, p.1 ≠ g) (hk : Keeps (fun k => k = g) w w') : DA w0 w' a r za zr pa pr most kept := by
  obtain ⟨va, vr, h⟩ := h
  obtain ⟨h1, h2, h3, h4, h5, h6⟩ := h.kp (g, o) (by simp)
  refine ⟨va, vr, h.bel.trans (hk.below h.bel.size (fun k e => by rw [e]; exact h2)), h.la, h.lr, h.ia.keeps hk (fun e => h3 e.symm) (fun k hv e => h5 (by rw [hv, e])), h.ir.keeps hk (fun e => h4 e.symm) (fun k hv e => h6 (by rw [hv, e])), h.ap, fun p hp => ?_⟩
  obtain ⟨k1, k2⟩ := h.kp p (by simp [hp])
  exact ⟨hk.obj k1 (hne p hp), k2⟩

/-! ### the deeds -/
def setE (l : List Int) (n : Int) : Int := if 0 ≤ n ∧ n < l.length then 0 else 6
def setL (l : List Int) (n x : Int) : List Int := if 0 ≤ n ∧ n < l.length then l.set n.toNat x else l
def backE (l : List Int) (n : Int) : Int := if 0 ≤ n ∧ n ≤ l.length then 0 else 6
def backL (l : List Int) (n : Int) : List Int := if 0 ≤ n ∧ n ≤ l.length then l.take n.toNat else l
theorem setL_len (l : List Int) (n x : Int) : (setL l n x).length = l.length := by unfold setL; split <;> simp
theorem backL_len (l : List Int) (n : Int) : (backL l n).length ≤ l.length := by unfold backL; split <;> simp; omega

theorem da_put_a (w : World) {vl : Value} {ys : List Int} (h : DA w0 w a r za zr pa pr most kept) (hy : CellsAt w vl (iv ys)) (hf : za.length + ys.length ≤ most) (hl : za.length + ys.length ≤ 1000000) :
    Calls Try.prog 9 #[.pointer (some ⟨a, 0, none⟩), vl] w fun e w' => e = .returned (.tuple #[.int .i64 za.length, .int .i64 0]) ∧ DA w0 w' a r (za ++ ys) zr (max pa (za ++ ys).length) pr most kept := by
  obtain ⟨va, vr, h⟩ := h
  refine (Iput w h.ia hy (by simpa [iv] using hf) (by simpa [iv] using hl) h.bel.size).mono ?_
  rintro e w' ⟨rfl, hN⟩
  refine ⟨by simp [iv], h.aNow ?_⟩
  simpa [iv] using hN
theorem da_put_a_full (w : World) {vl : Value} {ys : List Int} (h : DA w0 w a r za zr pa pr most kept) (hy : CellsAt w vl (iv ys)) (hf : most < za.length + ys.length) :
    Calls Try.prog 9 #[.pointer (some ⟨a, 0, none⟩), vl] w fun e w' => e = .returned (.tuple #[.int .i64 0, .int .i64 12]) ∧ DA w0 w' a r za zr pa pr most kept := by
  obtain ⟨va, vr, h⟩ := h
  refine (Iput_full w h.ia hy (by simpa [iv] using hf)).mono ?_
  rintro e w' ⟨rfl, n, rfl⟩
  exact ⟨rfl, va, vr, h.later (below_draws (Below.refl _ _) n)⟩
theorem da_put_r (w : World) {vl : Value} {ys : List Int} (h : DA w0 w a r za zr pa pr most kept) (hy : CellsAt w vl (iv ys)) (hf : zr.length + ys.length ≤ most) (hl : zr.length + ys.length ≤ 1000000) :
    Calls Try.prog 19 #[.pointer (some ⟨r, 0, none⟩), vl] w fun e w' => e = .returned (.tuple #[.int .i64 zr.length, .int .i64 0]) ∧ DA w0 w' a r za (zr ++ ys) pa (max pr (zr ++ ys).length) most kept := by
  obtain ⟨va, vr, h⟩ := h
  refine (doc_put w h.ir hy hf hl h.bel.size).mono ?_
  rintro e w' ⟨rfl, hN⟩
  exact ⟨rfl, h.rNow hN⟩
theorem da_put_r_full (w : World) {vl : Value} {ys : List Int} (h : DA w0 w a r za zr pa pr most kept) (hy : CellsAt w vl (iv ys)) (hf : most < zr.length + ys.length) (hl : zr.length + ys.length ≤ 1000000) :
    Calls Try.prog 19 #[.pointer (some ⟨r, 0, none⟩), vl] w fun e w' => e = .returned (.tuple #[.int .i64 0, .int .i64 12]) ∧ DA w0 w' a r za zr pa pr most kept := by
  obtain ⟨va, vr, h⟩ := h
  refine (doc_put_full w h.ir hy hf hl).mono ?_
  rintro e w' ⟨rfl, hb⟩
  exact ⟨rfl, va, vr, h.later hb⟩
theorem da_set_a (w : World) (n x : Int) (h : DA w0 w a r za zr pa pr most kept) :
    Calls Try.prog 22 #[.pointer (some ⟨a, 0, none⟩), .int .i64 n, .int .i64 x] w fun e w' => e = .returned (.int .i64 (setE za n)) ∧ DA w0 w' a r (setL za n x) zr pa pr most kept := by
  obtain ⟨va, vr, h⟩ := h
  unfold setE setL
  by_cases hn : 0 ≤ n ∧ n < za.length
  · rw [if_pos hn, if_pos hn]
    obtain ⟨j, rfl⟩ : ∃ j : Nat, n = j := ⟨n.toNat, by omega⟩
    refine (Iset w j x h.ia (by simpa [iv] using (by omega : j < za.length))).mono ?_
    rintro e w' ⟨rfl, hi, hk⟩
    exact ⟨rfl, h.aNow ⟨va, by simpa [iv, List.map_set] using hi, hk.mono (fun k _ hk => .inr hk), fun k hk => .inl hk⟩⟩
  · rw [if_neg hn, if_neg hn]
    refine (Iset_out w n (.int .i64 x) h.ia (by simpa [iv] using hn)).mono ?_
    rintro e w' ⟨rfl, rfl⟩
    exact ⟨rfl, va, vr, h⟩
theorem da_set_r (w : World) (n x : Int) (h : DA w0 w a r za zr pa pr most kept) :
    Calls Try.prog 23 #[.pointer (some ⟨r, 0, none⟩), .int .i64 n, .int .i64 x] w fun e w' => e = .returned (.int .i64 (setE zr n)) ∧ DA w0 w' a r za (setL zr n x) pa pr most kept := by
  obtain ⟨va, vr, h⟩ := h
  unfold setE setL
  by_cases hn : 0 ≤ n ∧ n < zr.length
  · rw [if_pos hn, if_pos hn]
    obtain ⟨j, rfl⟩ : ∃ j : Nat, n = j := ⟨n.toNat, by omega⟩
    refine (doc_set w j x h.ir (by omega)).mono ?_
    rintro e w' ⟨rfl, hN⟩
    exact ⟨rfl, h.rNow hN⟩
  · rw [if_neg hn, if_neg hn]
    refine (doc_set_out w n x h.ir (by omega)).mono ?_
    rintro e w' ⟨rfl, rfl⟩
    exact ⟨rfl, va, vr, h⟩
theorem da_back_a (w : World) (n : Int) (h : DA w0 w a r za zr pa pr most kept) :
    Calls Try.prog 14 #[.pointer (some ⟨a, 0, none⟩), .int .i64 n] w fun e w' => e = .returned (.int .i64 (backE za n)) ∧ DA w0 w' a r (backL za n) zr pa pr most kept := by
  obtain ⟨va, vr, h⟩ := h
  unfold backE backL
  by_cases hn : 0 ≤ n ∧ n ≤ za.length
  · rw [if_pos hn, if_pos hn]
    obtain ⟨j, rfl⟩ : ∃ j : Nat, n = j := ⟨n.toNat, by omega⟩
    refine (Iback w j h.ia (by omega)).mono ?_
    rintro e w' ⟨rfl, hN⟩
    exact ⟨rfl, h.aNow hN⟩
  · rw [if_neg hn, if_neg hn]
    refine (Iback_out w n h.ia (by simp only [iv, List.length_map]; omega)).mono ?_
    rintro e w' ⟨rfl, rfl⟩
    exact ⟨rfl, va, vr, h⟩
theorem da_back_r (w : World) (n : Int) (h : DA w0 w a r za zr pa pr most kept) (hl : zr.length ≤ 1000000) :
    Calls Try.prog 24 #[.pointer (some ⟨r, 0, none⟩), .int .i64 n] w fun e w' => e = .returned (.int .i64 (backE zr n)) ∧ DA w0 w' a r za (backL zr n) pa pr most kept := by
  obtain ⟨va, vr, h⟩ := h
  unfold backE backL
  by_cases hn : 0 ≤ n ∧ n ≤ zr.length
  · rw [if_pos hn, if_pos hn]
    obtain ⟨j, rfl⟩ : ∃ j : Nat, n = j := ⟨n.toNat, by omega⟩
    refine (doc_back w j h.ir (by omega) hl h.bel.size).mono ?_
    rintro e w' ⟨rfl, hN⟩
    exact ⟨rfl, h.rNow hN⟩
  · rw [if_neg hn, if_neg hn]
    refine (doc_back_out w n h.ir (by omega)).mono ?_
    rintro e w' ⟨rfl, rfl⟩
    exact ⟨rfl, va, vr, h⟩
theorem da_same (w : World) {zs : List Int} {pk : Nat} (h : DA w0 w a r zs zs pk pk most kept) (hl : zs.length ≤ 1000000) :
    Calls Try.prog 25 #[.pointer (some ⟨a, 0, none⟩), .pointer (some ⟨r, 0, none⟩)] w fun e w' => e = .returned (.bool true) ∧ DA w0 w' a r zs zs pk pk most kept := by
  obtain ⟨va, vr, h⟩ := h
  refine (same_true w h.ia h.ir hl).mono ?_
  rintro e w' ⟨rfl, hb⟩
  exact ⟨rfl, va, vr, h.later hb⟩
end
end Go.Proofs.Ytonnolhhgeekpaa
