import Derived.Test.YtpchjpmkkiopiaaGreatMmCm
namespace Go.Proofs.YtpchjpmkkiopiaaGreat
open Go.RowKit Go.Lib

/-- what a round keeps. -/
structure HoS (w wr : World) (p q nm km em : Nat) (room : Int) (k : Nat) (ta : Option Addr) (tn tc : Nat) (next peak : Int) (L : List Rec) : Prop where
  me : MeIs w.heap.size wr p q nm km em next room peak L
  th : wr.ownsRow w.heap.size 24 3 (.slice ta tn tc) tn ((L.map (·.k)).flatMap kyc)
  tl : tn = L.length
  lr : (tn : Int) ≤ room
  lp : (tn : Int) ≤ peak
  pr : peak ≤ room
  nk : next ≤ k
  nx : ∀ r ∈ L, r.x.tree = [] ∧ r.x.tou = []
  bel : Below w.heap.size w wr
theorem HoS.later {w wr w2 : World} {p q nm km em k tn tc : Nat} {room next peak : Int} {ta : Option Addr} {L : List Rec} (h : HoS w wr p q nm km em room k ta tn tc next peak L) (hb : Below wr.heap.size wr w2) : HoS w w2 p q nm km em room k ta tn tc next peak L :=
  { h with me := h.me.later hb, th := row_later h.th hb, bel := h.bel.trans (hb.mono h.bel.size) }
theorem HoS.next {w wr : World} {p q nm km em k tn tc : Nat} {room next peak : Int} {ta : Option Addr} {L : List Rec} (h : HoS w wr p q nm km em room k ta tn tc next peak L) : HoS w wr p q nm km em room (k + 1) ta tn tc next peak L :=
  { h with nk := by have := h.nk; omega }
theorem mem_hask {L : List Rec} {x : Ky} : x ∈ L.map (·.k) ↔ hasK L x = true := by
  unfold hasK
  constructor
  · intro h
    obtain ⟨r, hr, rfl⟩ := List.mem_map.1 h
    cases hf : fndK L r.k with
    | none => exact absurd rfl (fndK_none hf r hr)
    | some a => rfl
  · intro h
    obtain ⟨r, hr⟩ := Option.isSome_iff_exists.1 h
    exact List.mem_map.2 ⟨r, (fndK_some hr).1, (fndK_some hr).2⟩
theorem outK_map (L : List Rec) (x : Ky) : outK (L.map (·.k)) x = (dropK L x).map (·.k) := by
  unfold outK dropK
  rw [List.filter_map]
  congr 1
  apply List.filter_congr
  intro r _
  simp [bne, Function.comp]
  rw [Bool.eq_iff_iff]
  simp
theorem MeIs.typed [Watch] {base : Nat} {p q nm km em : Nat} {next room peak : Int} {L : List Rec} {w w' : World} {S : Nat → Prop} (h : MeIs base w p q nm km em next room peak L) (hk : Keeps S w w') (hS : ∀ k, S k → ∃ cs t fr, w.heap[k]? = some (.cells cs t fr) ∧ t ∉ [111, 133, 113, 74, 38, 3]) : MeIs base w' p q nm km em next room peak L := by
  have hm : ∀ {m : Nat}, (∃ es clock, w.heap[m]? = some (.map es clock)) → ¬ S m := fun ⟨es, ck, h1⟩ h2 => by
    obtain ⟨cs, t, fr, h3, -⟩ := hS _ h2
    rw [h1] at h3; simp at h3
  have ht : ∀ {m : Nat} {cs : Array Value} {t : TypeId} {fr : Nat × Nat}, w.heap[m]? = some (.cells cs t fr) → t ∈ [111, 133, 113, 74, 38, 3] → ¬ S m := fun h1 h4 h2 => by
    obtain ⟨cs, t, fr, h3, h5⟩ := hS _ h2
    rw [h1] at h3
    simp only [Option.some.injEq, Obj.cells.injEq] at h3
    exact h5 (h3.2.1 ▸ h4)
  obtain ⟨hl, he⟩ := h
  obtain ⟨cs, hq⟩ := @Qu.qblk (inw nm km em) _ _ _ _ _ hl.qu
  refine ⟨{ hl with blk := hk.obj hl.blk (ht hl.blk (by simp)), qu := @Qu.keepsW (inw nm km em) _ _ _ _ _ _ _ hl.qu hk (fun k hs => ⟨fun e => ht hq (by simp) (e ▸ hs), .inr ?_⟩), names := hl.names.keeps hk (hm hl.names.blk), keys := hl.keys.keeps hk (hm hl.keys.blk), lim := Nat.le_trans hl.lim hk.size }, ⟨he.map.keeps hk (hm he.map.blk), fun r hr => ⟨row_kept (he.tws r hr).1 hk (fun k cs h1 => ht h1 (by simp)), (he.tws r hr).2⟩, fun r hr => ⟨row_kept (he.ivs r hr).1 hk (fun k cs h1 => ht h1 (by simp)), (he.ivs r hr).2⟩⟩⟩
  obtain ⟨cs, t, fr, h1, h2⟩ := hS k hs
  simp only [List.mem_cons, not_or] at h2
  exact ⟨cs, t, fr, h1, h2.1, h2.2.1⟩
theorem MeIs.grown [Watch] {base : Nat} {p q nm km em : Nat} {next room peak : Int} {L : List Rec} {v w1 : World} {o : Obj} {B n : Nat} {u : Value} {xs : List Value} (h : MeIs base v p q nm km em next room peak L) (hr : v.ownsRow B 24 3 u n xs) (hg : (v.alloc o).grownBy w1 u.ownBlock) : MeIs base w1 p q nm km em next room peak L := by
  refine (h.later ((Below.refl _ v).alloc (Nat.le_refl _) o)).typed (keeps_grown hg) (fun k hs => ?_)
  rcases hr.2 with ⟨rfl, -⟩ | ⟨g, cap, cur, rfl, -, hb, -⟩
  · simp [Value.ownBlock] at hs
  · simp [Value.ownBlock] at hs
    subst hs
    exact ⟨_, _, _, (heap_alloc_old _ _ (lt_of_block hb)).trans hb, by decide⟩
end Go.Proofs.YtpchjpmkkiopiaaGreat
