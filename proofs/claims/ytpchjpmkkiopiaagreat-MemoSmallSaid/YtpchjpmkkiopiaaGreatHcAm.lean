import Derived.Test.YtpchjpmkkiopiaaGreatHrIm
import Derived.Test.YtpchjpmkkiopiaaGreatShS
namespace Go.Proofs.YtpchjpmkkiopiaaGreat
open Go.RowKit Go.Lib Go.Shelf

theorem cloneRow {base : Nat} {v : Value} {L : List En} (w : World) (hle : L.length ≤ 100000) (h : w.ownsRow base 133 3 v L.length (L.flatMap enc)) :
    Calls Tryz.prog 72 #[v] w fun e w' => ∃ v', e = .returned v' ∧ w'.ownsRow w.heap.size 133 3 v' L.length (L.flatMap enc) ∧ Below w.heap.size w w' := by
  obtain ⟨i0, hi0, hz0, hz1, hz2⟩ := info_parts Tryz.infoEntry
  rcases h.2 with ⟨rfl, h0⟩ | ⟨g, cap, cur, rfl, hbg, hg, hnc, hcm, hcs, ht⟩
  · have hcon := AnyE.slices_Clone_nil Tryz.cloneE 0 0 w
    change Calls Tryz.prog 72 _ _ _ at hcon
    refine hcon.mono ?_
    rintro e w' ⟨rfl, rfl⟩
    exact ⟨_, rfl, ⟨h.1, .inl ⟨rfl, h0⟩⟩, Below.refl _ _⟩
  · have hnews : ∀ j u, (L.flatMap enc)[j]? = some u → w.cell? ⟨g, 0 + j, none⟩ = some u := fun j u hj => by
      rw [(block_cell' hg _).1, Nat.zero_add]
      rw [← ht, List.getElem?_take] at hj
      split at hj
      · simpa using hj
      · simp at hj
    have hle2 : L.length * 24 ≤ 140737488355328 := by omega
    have hcon := AnyE.slices_Clone Tryz.cloneE i0 _ 3 24 hi0 hz0 hz1 hz2 rfl (by omega) Tryz.sizeOf133 g 0 L.length cap (L.flatMap enc) w h.1 (Nat.le_trans hnc hcm) hle2 hnews (flat_one enc_one L)
    change Calls Tryz.prog 72 _ _ _ at hcon
    refine hcon.mono ?_
    rintro e w' ⟨v', rfl, h1, -, h2⟩
    exact ⟨v', rfl, h1, h2⟩
theorem cloneMap {m s : Nat} {f : Int → Option Nat} (w : World) (h : MapFn w m s f) :
    Calls Tryz.prog 73 #[.map (some m)] w fun e w' => e = .returned (.map (some w.heap.size)) ∧ MapFn w' w.heap.size s f ∧ Below w.heap.size w w' := by
  obtain ⟨D, h1, h2, h3⟩ := h
  have hcon := AnyW.maps_Clone_owns Tryz.cloneM 3 (plainElem Tryz.prog 3) m s D w h1
  change Calls Tryz.prog 73 _ _ _ at hcon
  refine hcon.mono ?_
  rintro e w' ⟨rfl, h4, -, h5⟩
  exact ⟨rfl, ⟨D, h4, h2, h3⟩, h5⟩
/-- what a copy keeps of a row, plainly. -/
structure RowIs' (base : Nat) (w : World) (r m : Nat) (lv : Value) (L : List En) : Prop where
  once : Once L
  wf : ∀ e ∈ L, (kx e.name).wf = true
  le : L.length ≤ 100000
/-- a queue under another watch. -/
theorem Qu.rewatch {J : Watch} {base q : Nat} {w w' : World} {t : Int} {M : List En} (h : @Qu J base w q t M) (hb : Below w.heap.size w w') (I : Watch) (h1 : ∀ k, k < w.heap.size → ¬ I.W k) (h2 : I.lim ≤ w'.heap.size) : @Qu I base w' q t M := by
  obtain ⟨⟨r, m, lv, L, g1, g2⟩, g3⟩ := h
  have g4 := @QuIs.later J _ _ _ _ _ _ _ _ _ g1 hb
  obtain ⟨q1, ⟨p1, p2, p3, p4, p5, p6, p7, p8, -, -, -, -⟩, q3, q4, q5⟩ := g4
  obtain ⟨-, ⟨e1, e2, e3, -⟩, -⟩ := g1
  exact ⟨⟨r, m, lv, L, ⟨q1, ⟨p1, p2, p3, p4, p5, p6, p7, p8, h1 _ (lt_of_block e1), h1 _ e3.lt, fun k hk => h1 k (e2.lt k hk).2, h2⟩, q3, q4, q5⟩, g2⟩, g3⟩
/-- a queue whose blocks are watched stays. -/
theorem Qu.watched {B base q o : Nat} {w w' : World} {t : Int} {M : List En} (h : @Qu noWatch B w o t M) (I : Watch) (hk : @KeepQ I base q w w') (hI : ∀ k, B ≤ k → k < w.heap.size → I.W k) (hq : q < B) : @Qu noWatch B w' o t M := by
  obtain ⟨⟨r, m, lv, L, g1, g2⟩, g3⟩ := h
  have hn : ∀ k, B ≤ k → k < w.heap.size → ¬ (@FootH I base w k ∨ k = q) := fun k h1 h2 hS => by
    rcases hS with hS | hS
    · exact hS.1.2 (hI k h1 h2)
    · omega
  obtain ⟨q1, ⟨p1, p2, p3, p4, p5, p6, p7, p8, p9, p10, p11, -⟩, q3, q4, q5⟩ := g1
  exact @Qu.mk noWatch _ _ _ _ _ ⟨r, m, lv, L, @QuIs.mk noWatch _ _ _ _ _ _ _ _ (Keeps.obj hk q1 (hn _ q5 (lt_of_block q1))) (@RowIs.mk noWatch _ _ _ _ _ _ (Keeps.obj hk p1 (hn _ p6 (lt_of_block p1))) (Keeps.row hk p2 (fun k hkk => hn k (p2.lt k hkk).1 (p2.lt k hkk).2)) (p3.keeps hk (hn _ p7 p3.lt)) p4 p5 p6 p7 p8 p9 p10 p11 (Nat.zero_le _)) q3 q4 q5, g2⟩ g3
end Go.Proofs.YtpchjpmkkiopiaaGreat
