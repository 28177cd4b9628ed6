import Derived.Test.YtpchjpmkkiopiaaGreatMmCm
namespace Go.Proofs.YtpchjpmkkiopiaaGreat
open Go.RowKit Go.Lib

theorem Qu.keepsB {J : Watch} {S : Nat → Prop} {B q : Nat} {w w' : World} {t : Int} {M : List En} (h : @Qu J B w q t M) (hk : Keeps S w w') (hS : ∀ k, B ≤ k → k < w.heap.size → ¬ S k) : @Qu J B w' q t M := by
  obtain ⟨⟨r, m, lv, L, ⟨q1, ⟨p1, p2, p3, p4, p5, p6, p7, p8, p9, p10, p11, p12⟩, q3, q4, q5⟩, g2⟩, g3⟩ := h
  exact ⟨⟨r, m, lv, L, ⟨hk.obj q1 (hS _ q5 (lt_of_block q1)), ⟨hk.obj p1 (hS _ p6 (lt_of_block p1)), Keeps.row hk p2 (fun k hkk => hS k (p2.lt k hkk).1 (p2.lt k hkk).2), p3.keeps hk (hS _ p7 p3.lt), p4, p5, p6, p7, p8, p9, p10, p11, Nat.le_trans p12 hk.size⟩, q3, q4, q5⟩, g2⟩, g3⟩
/-- a memory whose blocks are watched stays. -/
theorem MeIs.keepsB {J : Watch} {S : Nat → Prop} {B : Nat} {w w' : World} {p q nm km em : Nat} {next room peak : Int} {L : List Rec} (h : @MeIs J B w p q nm km em next room peak L) (hk : Keeps S w w') (hS : ∀ k, B ≤ k → k < w.heap.size → ¬ S k)
    (hT : ∀ k cs t, w.heap[k]? = some (.cells cs t (0, 0)) → t ∈ [38, 3] → ¬ S k) : @MeIs J B w' p q nm km em next room peak L := by
  obtain ⟨hl, he⟩ := h
  exact ⟨{ hl with blk := hk.obj hl.blk (hS _ hl.bp (lt_of_block hl.blk)), qu := hl.qu.keepsB hk hS, names := hl.names.keeps hk (hS _ hl.bn hl.names.lt), keys := hl.keys.keeps hk (hS _ hl.bk hl.keys.lt), lim := Nat.le_trans hl.lim hk.size },
    ⟨he.map.keeps hk (hS _ hl.be he.map.lt), fun r hr => ⟨row_kept (he.tws r hr).1 hk (fun k cs h1 => hT k cs _ h1 (by simp)), (he.tws r hr).2⟩, fun r hr => ⟨row_kept (he.ivs r hr).1 hk (fun k cs h1 => hT k cs _ h1 (by simp)), (he.ivs r hr).2⟩⟩⟩
/-- a memory stays while another one, under a watch over it, is turned. -/
theorem MeIs.watched {J : Watch} {B base : Nat} {w w' : World} {p q nm km em : Nat} {next room peak : Int} {L : List Rec} (h : @MeIs J B w p q nm km em next room peak L) (I : Watch) (hk : @KeepM I base w w') (hI : ∀ k, B ≤ k → k < w.heap.size → I.W k) : @MeIs J B w' p q nm km em next room peak L :=
  h.keepsB hk (fun k h1 h2 hS => hS.1.2 (hI k h1 h2)) (fun k cs t h1 h2 hS => by
    have := hS.2
    rw [h1] at this
    simp only [List.mem_cons, List.not_mem_nil, or_false] at h2
    rcases h2 with rfl | rfl <;> simp at this)
/-- a memory under another watch. -/
theorem MeIs.rewatch {J : Watch} {base : Nat} {w w' : World} {p q nm km em : Nat} {next room peak : Int} {L : List Rec} (h : @MeIs J base w p q nm km em next room peak L) (hb : Below w.heap.size w w') (I : Watch) (h1 : ∀ k, I.W k → J.W k ∨ w.heap.size ≤ k) (h2 : I.lim ≤ w'.heap.size) : @MeIs I base w' p q nm km em next room peak L := by
  obtain ⟨⟨a1, a2, a3, a4, a5, a6, a7, a8, a9, a10, a11, a12, a13, a14, a15, a16, a17, a18, a19, a20, a21, a22, a23⟩, ⟨b1, b2, b3⟩⟩ := @MeIs.later J _ _ _ _ _ _ _ _ _ _ _ _ h hb
  obtain ⟨⟨c1, c2, c3, c4, -⟩, ⟨d1, d2, d3⟩⟩ := h
  have hn : ∀ k, k < w.heap.size → ¬ J.W k → ¬ I.W k := fun k hk hj hi => (h1 k hi).elim hj (by omega)
  have hqlt := @Qu.lt (@inw J nm km em) _ _ _ _ _ c2
  refine @MeIs.mk I _ _ _ _ _ _ _ _ _ _ _ (@LnIs.mk I _ _ _ _ _ _ _ _ _ _ _ a1 ?_ a3 a4 a5 a6 a7 a8 a9 a10 a11 a12 a13 a14 a15 a16 a17 (hn _ (lt_of_block c1) a18) (hn _ hqlt a19) (hn _ c3.lt a20) (hn _ c4.lt a21) (hn _ d1.lt a22) h2)
    (@EnIs.mk I _ _ _ b1 (fun r hr => ⟨(b2 r hr).1, fun k hk => hn k ((d2 r hr).1.lt k hk).2 ((d2 r hr).2 k hk)⟩) (fun r hr => ⟨(b3 r hr).1, fun k hk => hn k ((d3 r hr).1.lt k hk).2 ((d3 r hr).2 k hk)⟩))
  refine Qu.widen c2 hb (Nat.le_refl _) _ (fun k hk => ?_) ?_
  · rcases hk with hk | hk | hk | hk
    · rcases h1 k hk with hj | hj
      · exact .inl (.inl hj)
      · exact .inr (.inl hj)
    · exact .inl (.inr (.inl hk))
    · exact .inl (.inr (.inr (.inl hk)))
    · exact .inl (.inr (.inr (.inr hk)))
  · show max I.lim _ ≤ _
    have := a3.lt
    have := a4.lt
    have := b1.lt
    omega
end Go.Proofs.YtpchjpmkkiopiaaGreat
