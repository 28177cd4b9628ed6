/-
  A script in memory: what is put behind its rows.
-/
import Derived.Test.YtebgleehmgmfbaaSc
namespace Go.Proofs.Ytebgleehmgmfbaa
open Go.RowKit Go.Lib

theorem row_keepT [Watch] {base B C n : Nat} {T : List TypeId} {mp : Bool} {w w' : World} {e : TypeId} {v : Value} {xs : List Value} (hr : w.ownsRow base e C v n xs) (hk : KeepT B T mp w w') (he : e ∉ T) : w'.ownsRow base e C v n xs := by
  refine Keeps.row hk hr fun k hkk hS => ?_
  rcases hr.2 with ⟨rfl, _⟩ | ⟨g, cap, cur, rfl, _, hg, _⟩
  · simp [Value.ownBlock] at hkk
  · simp [Value.ownBlock] at hkk
    subst hkk
    have := hS.2
    unfold Tyb at this
    rw [hg] at this
    exact he this.1
/-- an append, and a store into a cell of a block of another type. -/
theorem put_keepT [Watch] {base n0 C0 n1 C1 : Nat} {e : TypeId} {t : TypeId} {w w1 w2 : World} {v v' : Value} {xs xs' : List Value} {b c : Nat} {cs : Array Value} (hb : w.heap[b]? = some (.cells cs t (0, 0))) (hte : t ≠ e) (hbs : base ≤ b) (hr : w.ownsRow base e C0 v n0 xs) (hbel : Below w.heap.size w w1)
    (hown : w2.ownsRow base e C1 v' n1 xs') (hgrow : w1.grownBy w2 v.ownBlock) (hwb : ¬ Watch.W b) (hwr : ∀ k, v.ownBlock = some k → ¬ Watch.W k) :
    (w2.setCell ⟨b, c, none⟩ v').heap[b]? = some (.cells (cs.setIfInBounds c v') t (0, 0)) ∧ (w2.setCell ⟨b, c, none⟩ v').ownsRow base e C1 v' n1 xs' ∧ KeepT base [t, e] false w (w2.setCell ⟨b, c, none⟩ v') := by
  have hK2 : Keeps (fun k => v.ownBlock = some k) w w2 := (Keeps.ofNew hbel _).grown hgrow (fun k hk => hk)
  have hne := own_ne' hb hte hr
  have h3' := hK2.obj hb hne
  have hga := own_ne' h3' hte hown
  have hset : Keeps (fun k => k = b) w2 (w2.setCell ⟨b, c, none⟩ v') := (Keeps.refl (fun k => k = b) w2).setCell (p := ⟨b, c, none⟩) rfl _
  refine ⟨block_setCell' h3', hset.row hown (fun k hk e => hga (by rw [hk, e])), ?_⟩
  have hk : KeepT base [t, e] false w w2 := Keeps.mono hK2 fun k _ hk => by
    rcases hr.2 with ⟨e, _⟩ | ⟨g, cap, cur, e, hg, hc, _⟩
    · rw [e] at hk; simp [Value.ownBlock] at hk
    · rw [e] at hk
      simp [Value.ownBlock] at hk
      subst hk
      exact ⟨hg, by unfold Tyb; rw [hc]; exact ⟨by simp, fun _ => hwr g (by rw [e]; rfl)⟩⟩
  exact KeepT.setCell hk (p := ⟨b, c, none⟩) h3' (by simp) (fun _ => hwb) hbs _

theorem sc_reads [Watch] {base sb s : Nat} {p : Pr} {lev : Int} {av rv rv' lv : Value} {rds : List Rd} {gl : List Lnt} {ok : Bool} {w w1 w2 : World} {r : Rd} (h : ScIs base w sb s p lev av rv lv rds gl ok) (hb : Below w.heap.size w w1)
    (hown : w2.ownsRow base 51 3 rv' (rds.length + 1) (rds.flatMap rdc ++ rdc r)) (hgrow : w1.grownBy w2 rv.ownBlock) (hnew : ∀ k, rv'.ownBlock = some k → rv.ownBlock = some k ∨ w.heap.size ≤ k) (hn : rds.length < 100000) :
    ScIs base (w2.setCell ⟨sb, 5, none⟩ rv') sb s p lev av rv' lv (rds ++ [r]) gl ok ∧ KeepT base [35, 51] false w (w2.setCell ⟨sb, 5, none⟩ rv') := by
  obtain ⟨h1, h2, h3⟩ := put_keepT (c := 5) h.blk (by decide) h.bs h.row hb hown hgrow h.nw h.nr
  exact ⟨⟨h1, by simpa using h2, row_keepT h.lnt h3 (by decide), fun x hx => h3.cells (h.lents x hx) (by decide), h.far, h.apart, h.bs, h.nw, (fun k hk hw => (hnew k hk).elim (fun e => h.nr k e hw) (fun e => absurd (h.wl k hw) (by omega))), h.nl, fun k hw => Nat.lt_of_lt_of_le (h.wl k hw) h3.size, by simp; omega, h.le2⟩, h3⟩
theorem sc_lents [Watch] {base sb s : Nat} {p : Pr} {lev : Int} {av rv lv lv' : Value} {rds : List Rd} {gl : List Lnt} {ok : Bool} {w w1 w2 : World} {r : Lnt} (h : ScIs base w sb s p lev av rv lv rds gl ok) (hb : Below w.heap.size w w1)
    (hown : w2.ownsRow base 36 1 lv' (gl.length + 1) (gl.map lntv ++ [lntv r])) (hgrow : w1.grownBy w2 lv.ownBlock) (hnew : ∀ k, lv'.ownBlock = some k → lv.ownBlock = some k ∨ w.heap.size ≤ k) (hn : gl.length < 100000) (hg : TLentAt w r.1 r.2) (hbg : base ≤ r.1) (hap : ∀ x ∈ gl, x.1 ≠ r.1) :
    ScIs base (w2.setCell ⟨sb, 6, none⟩ lv') sb s p lev av rv lv' rds (gl ++ [r]) ok ∧ KeepT base [35, 36] false w (w2.setCell ⟨sb, 6, none⟩ lv') := by
  obtain ⟨h1, h2, h3⟩ := put_keepT (c := 6) h.blk (by decide) h.bs h.lnt hb hown hgrow h.nw h.nl
  refine ⟨⟨h1, row_keepT h.row h3 (by decide), by simpa using h2, ?_, ?_, ?_, h.bs, h.nw, h.nr, (fun k hk hw => (hnew k hk).elim (fun e => h.nl k e hw) (fun e => absurd (h.wl k hw) (by omega))), fun k hw => Nat.lt_of_lt_of_le (h.wl k hw) h3.size, h.le1, by simp; omega⟩, h3⟩
  · intro x hx
    rcases List.mem_append.1 hx with hx | hx
    · exact h3.cells (h.lents x hx) (by decide)
    · simp at hx; subst hx
      exact h3.cells hg (by decide)
  · intro x hx
    rcases List.mem_append.1 hx with hx | hx
    · exact h.far x hx
    · simp at hx; subst hx; exact hbg
  · rw [List.pairwise_append]
    exact ⟨h.apart, by simp, fun a ha b hb => by simp at hb; subst hb; exact hap a ha⟩
theorem sc_ok [Watch] {base sb s : Nat} {p : Pr} {lev : Int} {av rv lv : Value} {rds : List Rd} {gl : List Lnt} {ok : Bool} {w : World} (h : ScIs base w sb s p lev av rv lv rds gl ok) (ok' : Bool) :
    ScIs base (w.setCell ⟨sb, 7, none⟩ (.bool ok')) sb s p lev av rv lv rds gl ok' ∧ KeepT base [35] false w (w.setCell ⟨sb, 7, none⟩ (.bool ok')) := by
  have hk : KeepT base [35] false w (w.setCell ⟨sb, 7, none⟩ (.bool ok')) := KeepT.setCell (Keeps.refl _ w) (p := ⟨sb, 7, none⟩) h.blk (by simp) (fun _ => h.nw) h.bs _
  exact ⟨⟨block_setCell' h.blk, row_keepT h.row hk (by decide), row_keepT h.lnt hk (by decide), fun x hx => hk.cells (h.lents x hx) (by decide), h.far, h.apart, h.bs, h.nw, h.nr, h.nl, fun k hw => Nat.lt_of_lt_of_le (h.wl k hw) hk.size, h.le1, h.le2⟩, hk⟩
end Go.Proofs.Ytebgleehmgmfbaa
