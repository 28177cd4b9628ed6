import Derived.Test.YtadkjjpopmiceaaGreatFlim
import Derived.Test.YtadkjjpopmiceaaGreatFlgm
namespace Go.Proofs.YtadkjjpopmiceaaGreat
open Go.RowKit Go.Lib

/-- a number is stored. -/
theorem RowI.store {B : Nat} {w : World} {g n cap : Nat} {L : List Int} (h : RowI B w (.slice (some ⟨g, 0, none⟩) n cap) n L) {q : Nat} (hq : q < L.length) (t : Int) :
    RowI B (w.setCell ⟨g, q, none⟩ (.int .i64 t)) (.slice (some ⟨g, 0, none⟩) n cap) n (L.set q t) := by
  have h0 := own_setC inc_len h q hq 0 (by omega) t (.int .i64 t) rfl
  rw [Nat.mul_one, Nat.add_zero] at h0
  exact h0
/-- the lists that have grown; the first k of them. -/
structure GsI (K : List (Nat × Obj)) (B : Nat) (w : World) (V : Value) (vs : List Value) (m : Nat) (nn : Nat → Nat) (G : Value) (gv : List Value) (k : Nat) (X : Nat → List Int) : Prop where
  ls : w.ownsRow B 27 1 G m gv
  len : gv.length = m
  ne : ∀ b, G.ownBlock = some b → V.ownBlock ≠ some b
  nk : ∀ q ∈ K, G.ownBlock ≠ some q.1
  rw : ∀ j, j < k → RowI B w (slAtI gv j) (nn j + 64) (X j)
  av : ∀ j, j < k → ∀ b, (slAtI gv j).ownBlock = some b → ∀ i, i < m → i ≠ j → (slAtI vs i).ownBlock ≠ some b
  ag : ∀ j, j < k → ∀ b, (slAtI gv j).ownBlock = some b → ∀ i, i < k → i ≠ j → (slAtI gv i).ownBlock ≠ some b
theorem GsI.later {K : List (Nat × Obj)} {B : Nat} {w w' : World} {V : Value} {vs : List Value} {m : Nat} {nn : Nat → Nat} {G : Value} {gv : List Value} {k : Nat} {X : Nat → List Int} (h : GsI K B w V vs m nn G gv k X) (hb : Below w.heap.size w w') : GsI K B w' V vs m nn G gv k X :=
  ⟨(Keeps.ofNew hb (fun _ => False)).row h.ls (fun _ _ h => h), h.len, h.ne, h.nk, fun j hj => (h.rw j hj).later hb, h.av, h.ag⟩
/-- the one that grows: of which lists it lies apart. -/
def CurI (K : List (Nat × Obj)) (vs : List Value) (m : Nat) (gv : List Value) (k : Nat) (vg : Value) : Prop := ∀ b, vg.ownBlock = some b → (∀ j, j < m → j ≠ k → (slAtI vs j).ownBlock ≠ some b) ∧ (∀ j, j < k → (slAtI gv j).ownBlock ≠ some b) ∧ ∀ q ∈ K, q.1 ≠ b
theorem RowI.lt {B : Nat} {w : World} {v : Value} {n : Nat} {L : List Int} (h : RowI B w v n L) : ∀ b, v.ownBlock = some b → B ≤ b ∧ b < w.heap.size := (show World.ownsRow _ _ _ _ _ _ _ from h).lt
/-- something is put behind it. -/
theorem growI {K : List (Nat × Obj)} {B : Nat} {w w' : World} {V : Value} {vs : List Value} {m : Nat} {nn : Nat → Nat} {F : Nat → List Int} {G : Value} {gv : List Value} {k n n' : Nat} {X : Nat → List Int} {vg vg' : Value} {L L' : List Int}
    (hF : FsI K B w V vs m nn F) (hG : GsI K B w V vs m nn G gv k X) (hk : k < m) (hL : RowI B w vg n L) (hC : CurI K vs m gv k vg) (hL' : RowI B w' vg' n' L') (hg : w.grownBy w' vg.ownBlock) (hkp : KeptBy w w' vg n vg' n')
    (hn : nn k ≤ n) (hnn : n ≤ n') (hp : F k = L'.take (nn k)) : FsI K B w' V vs m nn F ∧ GsI K B w' V vs m nn G gv k X ∧ CurI K vs m gv k vg' := by
  refine ⟨⟨own_kept hF.ls hg hL (by decide), hF.len, fun j hj => ?_, hF.di, Nat.le_trans hF.bw hg.size, fun q hq => ⟨(hg.block q.1 (lt_of_block (hF.kn q hq).1) (fun e => (hC q.1 e.symm).2.2 q hq rfl)).trans (hF.kn q hq).1, (hF.kn q hq).2⟩⟩, ⟨own_kept hG.ls hg hL (by decide), hG.len, hG.ne, hG.nk, fun j hj => ?_, hG.av, hG.ag⟩, fun b hb => ?_⟩
  · by_cases hjk : j = k
    · subst hjk
      refine kept_first (by omega) hL (hF.rw j hj) hn hnn hg hkp hL' ?_
      rw [hp, flat_takeC inc_len]
    · exact own_kept' (hF.rw j hj) hg (fun b hb => (hC b hb).1 j hj hjk)
  · exact own_kept' (hG.rw j hj) hg (fun b hb => (hC b hb).2.1 j hj)
  · rcases hkp.at b hb with h1 | h1
    · exact hC b h1
    · refine ⟨fun j hj hjk he => ?_, fun j hj he => ?_, fun q hq e => ?_⟩
      · have := ((hF.rw j hj).lt b he).2; omega
      · have := ((hG.rw j hj).lt b he).2; omega
      · have := lt_of_block (hF.kn q hq).1; omega
theorem slAtI_set {gv : List Value} {k j : Nat} {v : Value} (hk : k < gv.length) : slAtI (gv.set k v) j = if j = k then v else slAtI gv j := by
  unfold slAtI
  rw [List.getD_eq_getElem?_getD, List.getD_eq_getElem?_getD, List.getElem?_set]
  by_cases hjk : j = k
  · subst hjk; simp [hk]
  · rw [if_neg hjk, if_neg (fun e => hjk e.symm)]
theorem FsI.away {K : List (Nat × Obj)} {B : Nat} {w w' : World} {V : Value} {vs : List Value} {m : Nat} {nn : Nat → Nat} {F : Nat → List Int} {S : Nat → Prop} (h : FsI K B w V vs m nn F) (hk : Keeps S w w') (hV : ∀ b, V.ownBlock = some b → ¬ S b) (hS : ∀ j, j < m → ∀ b, (slAtI vs j).ownBlock = some b → ¬ S b) (hK : ∀ q ∈ K, ¬ S q.1) : FsI K B w' V vs m nn F :=
  ⟨hk.row h.ls hV, h.len, fun j hj => (h.rw j hj).off hk (hS j hj), h.di, Nat.le_trans h.bw hk.size, fun q hq => ⟨hk.obj (h.kn q hq).1 (hK q hq), (h.kn q hq).2⟩⟩
theorem GsI.away {K : List (Nat × Obj)} {B : Nat} {w w' : World} {V : Value} {vs : List Value} {m : Nat} {nn : Nat → Nat} {G : Value} {gv : List Value} {k : Nat} {X : Nat → List Int} {S : Nat → Prop} (h : GsI K B w V vs m nn G gv k X) (hk : Keeps S w w') (hG : ∀ b, G.ownBlock = some b → ¬ S b) (hS : ∀ j, j < k → ∀ b, (slAtI gv j).ownBlock = some b → ¬ S b) : GsI K B w' V vs m nn G gv k X :=
  ⟨hk.row h.ls hG, h.len, h.ne, h.nk, fun j hj => (h.rw j hj).off hk (hS j hj), h.av, h.ag⟩
theorem GsI.zero {K : List (Nat × Obj)} {B : Nat} {w : World} {V : Value} {vs : List Value} {m : Nat} {nn : Nat → Nat} {G : Value} {gv : List Value} {k : Nat} {X Y : Nat → List Int} (h : GsI K B w V vs m nn G gv k X) : GsI K B w V vs m nn G gv 0 Y :=
  ⟨h.ls, h.len, h.ne, h.nk, fun j hj => absurd hj (by omega), fun j hj => absurd hj (by omega), fun j hj => absurd hj (by omega)⟩
/-- what was handed out grows. -/
theorem CurI.of {K : List (Nat × Obj)} {B : Nat} {w : World} {V : Value} {vs : List Value} {m : Nat} {nn : Nat → Nat} {F : Nat → List Int} {G : Value} {gv : List Value} {k : Nat} {X : Nat → List Int} (hF : FsI K B w V vs m nn F) (hG : GsI K B w V vs m nn G gv k X) (hk : k < m) : CurI K vs m gv k (slAtI vs k) :=
  fun b hb => ⟨fun j hj hjk he => hF.di k j hk hj (fun e => hjk e.symm) b hb he, fun j hj he => hG.av j hj b he k hk (by omega) hb, fun q hq e => (hF.kn q hq).2.2 k hk (e ▸ hb)⟩
def updXI (X : Nat → List Int) (k : Nat) (L : List Int) : Nat → List Int := fun j => if j = k then L else X j
/-- it is stored. -/
theorem GsI.store {K : List (Nat × Obj)} {B : Nat} {w : World} {V : Value} {vs : List Value} {m : Nat} {nn : Nat → Nat} {g cap : Nat} {gv : List Value} {k : Nat} {X : Nat → List Int} {F : Nat → List Int} {vg : Value} {L : List Int}
    (h : GsI K B w V vs m nn (.slice (some ⟨g, 0, none⟩) m cap) gv k X) (hF : FsI K B w V vs m nn F) (hk : k < m) (hL : RowI B w vg (nn k + 64) L) (hC : CurI K vs m gv k vg) (h1 : vg.oneCell' = true) :
    FsI K B (w.setCell ⟨g, k, none⟩ vg) V vs m nn F ∧ GsI K B (w.setCell ⟨g, k, none⟩ vg) V vs m nn (.slice (some ⟨g, 0, none⟩) m cap) (gv.set k vg) (k + 1) (updXI X k L) := by
  have hK : Keeps (fun b => b = g) w (w.setCell ⟨g, k, none⟩ vg) := (Keeps.refl (fun b => b = g) w).setCell (p := ⟨g, k, none⟩) rfl _
  have hgl := h.len
  have hgb : ∃ cur, w.heap[g]? = some (.cells cur 27 (0, 0)) := by
    obtain ⟨-, -, cur, h2, -⟩ := own_open h.ls
    exact ⟨cur, h2⟩
  obtain ⟨cur, hgb⟩ := hgb
  have hoff : ∀ (v : Value) (n : Nat) (L : List Int), RowI B w v n L → RowI B (w.setCell ⟨g, k, none⟩ vg) v n L := fun v n L hr => hr.off hK (fun b hb e => by
    subst e
    exact own_ne' hgb (by decide) hr hb)
  have hls : (w.setCell ⟨g, k, none⟩ vg).ownsRow B 27 1 (.slice (some ⟨g, 0, none⟩) m cap) m (gv.set k vg) := by
    have e : ∀ l : List Value, l = l.flatMap fun x => [x] := fun l => by simp
    have h2 := h.ls
    rw [e gv] at h2
    have := own_setC (C := 1) (fun _ => rfl) h2 k (by omega) 0 (by omega) vg vg rfl
    rw [Nat.mul_one, Nat.add_zero] at this
    rw [e (gv.set k vg)]
    exact this
  refine ⟨⟨hK.row hF.ls (fun b hb e => h.ne b (by subst e; rfl) hb), hF.len, fun j hj => hoff _ _ _ (hF.rw j hj), hF.di, Nat.le_trans hF.bw hK.size, fun q hq => ⟨hK.obj (hF.kn q hq).1 (fun e => h.nk q hq (by rw [e]; rfl)), (hF.kn q hq).2⟩⟩, ⟨hls, by simp [h.len], h.ne, h.nk, fun j hj => ?_, fun j hj b hb i hi hij => ?_, fun j hj b hb i hi hij => ?_⟩⟩
  · rw [slAtI_set (by omega)]
    unfold updXI
    by_cases hjk : j = k
    · rw [if_pos hjk, if_pos hjk, hjk]; exact hoff _ _ _ hL
    · rw [if_neg hjk, if_neg hjk]; exact hoff _ _ _ (h.rw j (by omega))
  · rw [slAtI_set (by omega)] at hb
    by_cases hjk : j = k
    · rw [if_pos hjk] at hb
      exact (hC b hb).1 i hi (by omega)
    · rw [if_neg hjk] at hb
      exact h.av j (by omega) b hb i hi hij
  · rw [slAtI_set (by omega)] at hb ⊢
    by_cases hjk : j = k
    · rw [if_pos hjk] at hb
      rw [if_neg (by omega)]
      exact (hC b hb).2.1 i (by omega)
    · rw [if_neg hjk] at hb
      by_cases hik : i = k
      · rw [if_pos hik]
        exact fun e => (hC b e).2.1 j (by omega) hb
      · rw [if_neg hik]
        exact h.ag j (by omega) b hb i (by omega) hij
end Go.Proofs.YtadkjjpopmiceaaGreat
